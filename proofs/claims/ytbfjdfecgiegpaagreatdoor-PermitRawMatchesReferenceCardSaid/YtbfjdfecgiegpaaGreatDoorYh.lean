/- Parts of the proof, from: Which facts are in effect, in plain Lean: the ones that prevail, by kinds, in order. -/
import Derived.Test.YtbfjdfecgiegpaaGreatDoorYg
import Derived.Test.YtbfjdfecgiegpaaGreatDoorYa
import Derived.Test.YtbfjdfecgiegpaaGreatDoorYc
import Derived.Test.YtbfjdfecgiegpaaGreatDoorYe
import Derived.Test.YtbfjdfecgiegpaaGreatDoorYd
namespace Go.Proofs.YtbfjdfecgiegpaaGreatDoor
open Go Go.K
set_option maxRecDepth 10000
attribute [local irreducible] W WL cS bh bY bB bA bC cL cD
abbrev KF:=List (List UInt8×bO)
def C7(a:List UInt8):KF→Option bO
 |[]=>none
 |(k,v)::r=>if a=k then some v else C7 a r
def o5(a:List UInt8)(x:bO):KF→KF
 |[]=>[(a,x)]
 |(k,v)::r=>if a=k then(k,x)::r else(k,v)::o5 a x r
def oW(m:KF):List (List UInt8×Value):=m.map fun p=>(p.1,fv p.2)
theorem En(a:List UInt8): ∀m:KF,jb a (oW m)=(C7 a m).map fv
 |[]=>rfl
 |(k,v)::r=>by
  show(if a=k then some (fv v)else jb a (oW r))=(if a=k then some v else C7 a r).map fv;split
  ·rfl
  exact En a r
theorem z8(a:List UInt8)(x:bO): ∀m:KF,jK a (fv x) (oW m)=oW (o5 a x m)
 |[]=>rfl
 |(k,v)::r=>by
  show(if a=k then(k,fv x)::oW r else(k,fv v)::jK a (fv x) (oW r))=oW (if a=k then(k,x)::r else(k,v)::o5 a x r);split
  ·rfl
  rw[z8 a x r];rfl
theorem Kw(m:KF):(oW m).length=m.length:=List.length_map ..
theorem NV{m:KF}{j:Nat}{q:List UInt8×Value}(h:(oW m)[j]? =some q): ∃p,m[j]? =some p∧q=(p.1,fv p.2):=by
 unfold oW at h;rw[List.getElem?_map]at h;cases hm:m[j]? with
 |none=>rw[hm]at h;cases h
 |some p=>rw[hm]at h;exact⟨p,rfl,(Option.some.inj h).symm⟩
def jn(day:Int)(m:KF)(f:bO):KF:=
 if fU f=[]∨day<f.day then m
 else if(match C7 (fU f) m with|none=>true|some o=>rb f o)=true then o5 (fU f) f m else m
def kM(day:Int)(l:List bO):KF:=l.foldl (jn day) []
def iy(m:KF)(i:Nat):List bO:=(m.filter fun p=> !p.2.gone&&decide (p.2.kind=(i:Int)+1)).map (·.2)
def ofM(l:List bO)(day:Int):eL:=⟨fun i=>dC (mK i) (iy (kM day l) i)⟩
theorem yX{a:List UInt8}{x:bO}: ∀{m:KF} (k:List UInt8),k∈(o5 a x m).map (·.1)→k=a∨k∈m.map (·.1)
 |[],k,h=>by simp[o5]at h;exact .inl h
 |(b,v)::r,k,h=>by
  unfold o5 at h;split at h
  ·exact .inr (by simpa using h)
  simp only[List.map_cons,List.mem_cons]at h⊢;rcases h with h|h
  ·exact .inr (.inl h)
  rcases yX k h with h|h
  ·exact .inl h
  exact .inr (.inr h)
theorem wz{a:List UInt8}{x:bO}: ∀{m:KF},(m.map (·.1)).Nodup→((o5 a x m).map (·.1)).Nodup
 |[],_=>by simp[o5]
 |(b,v)::r,h=>by
  unfold o5;split
  ·simpa using h
  rename_i eO;simp only[List.map_cons,List.nodup_cons]at h⊢;refine⟨fun hb=>?_,wz h.2⟩;rcases yX b hb with e|e
  ·exact eO e.symm
  exact h.1 e
theorem wA{a:List UInt8}{x:bO}: ∀{m:KF} {p},p∈o5 a x m→p=(a,x)∨p∈m
 |[],p,h=>by simp[o5]at h;exact .inl h
 |(b,v)::r,p,h=>by
  unfold o5 at h;split at h
  ·rename_i e;rcases List.mem_cons.1 h with h|h
   ·subst e;exact .inl h
   exact .inr (List.mem_cons_of_mem _ h)
  rcases List.mem_cons.1 h with h|h
  ·exact .inr (h▸List.mem_cons_self ..)
  rcases wA h with h|h
  ·exact .inl h
  exact .inr (List.mem_cons_of_mem _ h)
theorem Bt{a:List UInt8}{x:bO}: ∀m:KF,(o5 a x m).length≤m.length+1
 |[]=>Nat.le_refl _
 |(b,v)::r=>by
  unfold o5;split
  ·simp
  simp only[List.length_cons];have:=Bt (a:=a) (x:=x) r;omega
def Ke(m:KF):Prop:=(m.map (·.1)).Nodup∧ ∀p∈m,p.1=fU p.2∧p.1≠[]
theorem Ke.put{m:KF}{f:bO}(h:Ke m)(hk:fU f≠[]):Ke (o5 (fU f) f m):=
 ⟨wz h.1,fun p hp=>(wA hp).elim (fun e=>by subst e;exact⟨rfl,hk⟩) (h.2 p)⟩
theorem z_(day:Int)(m:KF)(f:bO):jn day m f=m∨(fU f≠[]∧jn day m f=o5 (fU f) f m):=by
 unfold jn;by_cases hc:fU f=[]∨day<f.day
 ·exact .inl (if_pos hc)
 rw[if_neg hc];generalize(match C7 (fU f) m with|none=>true|some o=>rb f o)=b;cases b
 ·exact .inl rfl
 exact .inr ⟨fun e=>hc (.inl e),rfl⟩
theorem Ke.step{day:Int}{m:KF}{f:bO}(h:Ke m):Ke (jn day m f):=by
 rcases z_ day m f with e|⟨hk,e⟩<;>rw[e]
 ·exact h
 exact h.put hk
theorem Hg(day:Int)(l:List bO)(f:bO):kM day (l++[f])=jn day (kM day l) f:=by unfold kM;rw[List.foldl_append];rfl
theorem wB{P:KF→List bO→Prop}{day:Int}(h0:P [] [])(h1: ∀m l f,P m l→P (jn day m f) (l++[f]))(l:List bO):P (kM day l) l:=by
 unfold kM;suffices h: ∀(l2 l1:List bO) m,P m l1→P (l2.foldl (jn day) m) (l1++l2) by simpa using h l [] [] h0
 intro l2
 induction l2 with
 |nil=>intro l1 m h;simpa using h
 |cons f l2 ih=>intro l1 m h;have:=ih (l1++[f]) _ (h1 m l1 f h);simpa using this
theorem Eo(day:Int)(l:List bO):Ke (kM day l):=wB (P:=fun m _=>Ke m) ⟨by simp,by simp⟩ (fun m l f h=>h.step) l
theorem Bu(day:Int)(l:List bO):(kM day l).length≤l.length:=
 wB (P:=fun m l=>m.length≤l.length) (Nat.le_refl _) (fun m l f h=>by have:=Bt (a:=fU f) (x:=f) m;rw[List.length_append,List.length_singleton];rcases z_ day m f with e|⟨_,e⟩<;>rw[e]<;>omega) l
theorem Kx{f h:bO}(hf:fU f≠[])(hh:fU h≠[])(hk:f.kind=h.kind)(ho:mK (f.kind-1).toNat f=mK (f.kind-1).toNat h):fU f=fU h:=by
 have v1:fT f=true:=by cases e:fT f with|true=>rfl|false=>exact absurd (by unfold fU;rw[e];rfl) hf
 have v2:fT h=true:=by cases e:fT h with|true=>rfl|false=>exact absurd (by unfold fU;rw[e];rfl) hh
 obtain⟨s,hs,_⟩:=mj v1;obtain⟨_,_,_,_,_,_,h1,h2⟩:=pz hs;unfold fU;rw[v1,v2,if_pos rfl,if_pos rfl,←hk];congr 1;have:f.kind=1∨f.kind=2∨f.kind=3∨f.kind=4∨f.kind=5∨f.kind=6∨f.kind=7∨f.kind=8∨f.kind=9∨f.kind=10∨f.kind=11:=by omega
 rcases this with e|e|e|e|e|e|e|e|e|e|e<;>rw[e]at ho⊢ <;>(
  simp only[mK,Prod.mk.injEq,show((1:Int)-1).toNat=0 from rfl,show((2:Int)-1).toNat=1 from rfl,show((3:Int)-1).toNat=2 from rfl,show((4:Int)-1).toNat=3 from rfl,show((5:Int)-1).toNat=4 from rfl,show((6:Int)-1).toNat=5 from rfl,show((7:Int)-1).toNat=6 from rfl,show((8:Int)-1).toNat=7 from rfl,show((9:Int)-1).toNat=8 from rfl,show((10:Int)-1).toNat=9 from rfl,show((11:Int)-1).toNat=10 from rfl]at ho;simp[ee,nT,wv,nR,fj,eZ,tL,bO.num,ho.1,ho.2])
theorem sG{m:KF}{i:Nat}{f:bO}(h:f∈iy m i): ∃k,(k,f)∈m∧f.kind=(i:Int)+1:=by unfold iy at h;obtain⟨p,hp,rfl⟩:=List.mem_map.1 h;obtain⟨h1,h2⟩:=List.mem_filter.1 hp;simp only[Bool.and_eq_true,decide_eq_true_eq]at h2;exact⟨p.1,h1,h2.2⟩
theorem Hh{m:KF}(hm:Ke m){i:Nat}{f h:bO}(hf:f∈iy m i)(hh:h∈iy m i)(ho:mK i f=mK i h):f=h:=by
 obtain⟨k1,m1,e1⟩:=sG hf;obtain⟨k2,m2,e2⟩:=sG hh;obtain⟨a1,b1⟩:=hm.2 _ m1;obtain⟨a2,b2⟩:=hm.2 _ m2;simp only at a1 b1 a2 b2;subst a1;subst a2;have hi:(f.kind-1).toNat=i:=by omega
 have e:=Kx b1 b2 (by omega) (by rw[hi];exact ho);have yq:=hm.1;obtain⟨x,hx,ex⟩:=List.mem_iff_getElem.1 m1;obtain⟨y,hy,ey⟩:=List.mem_iff_getElem.1 m2;have Mu:x=y:=(List.getElem_inj (xs:=m.map (·.1)) (i:=x) (j:=y) (h₀:=by simpa using hx) (h₁:=by simpa using hy) yq).1 (by simp only[List.getElem_map];rw[ex,ey];exact e);subst Mu;rw[ex]at ey;exact congrArg Prod.snd ey
theorem C8{m:KF}(hm:Ke m){i:Nat}{ys:List bO}(hp:ys.Perm (iy m i)):dC (mK i) ys=dC (mK i) (iy m i):=by refine rC (((iJ ys).trans hp).trans (iJ _).symm) (jJ _) (jJ _) fun x hx y hy h=>?_;exact Hh hm (hp.mem_iff.1 ((iJ ys).mem_iff.1 hx)) (hp.mem_iff.1 ((iJ ys).mem_iff.1 hy)) h
def tO{α:Type}(m:List α)(js:List Nat):List α:=js.filterMap fun j=>m[j]?
theorem wC{α:Type}{m:List α}{js:List Nat}{j:Nat}{p:α}(h:m[j]? =some p):tO m (js++[j])=tO m js++[p]:=by unfold tO;rw[List.filterMap_append];simp[h]
theorem Hi(m r:KF)(i:Nat):iy (m++r) i=iy m i++iy r i:=by unfold iy;rw[List.filter_append,List.map_append]
theorem FH{m r:KF}(h:m.Perm r)(i:Nat):(iy m i).Perm (iy r i):=(h.filter _).map _
theorem wD(m:KF)(i:Nat):(iy m i).length≤m.length:=by unfold iy;rw[List.length_map];exact List.length_filter_le ..
theorem FI{α:Type}(m:List α):tO m (List.range m.length)=m:=by
 unfold tO
 induction m with
 |nil=>rfl
 |cons p m ih=>
  rw[List.length_cons,List.range_succ_eq_map,List.filterMap_cons];simp only[List.getElem?_cons_zero];rw[List.filterMap_map];congr 1
theorem Ep{α:Type}{m:List α}{js:List Nat}(hn:js.Nodup)(h1: ∀j∈js,j<m.length)(h2: ∀j,j<m.length→j∈js):(tO m js).Perm m:=by
 have hp:js.Perm (List.range m.length):=(List.perm_ext_iff_of_nodup hn List.nodup_range).2 fun a=>by rw[List.mem_range];exact⟨h1 a,h2 a⟩
 have:=hp.filterMap (fun j=>m[j]?);rw[show(List.range m.length).filterMap (fun j=>m[j]?)=m from FI m]at this;exact this
theorem z'{α:Type}(m:List α)(js:List Nat):(tO m js).length≤js.length:=List.length_filterMap_le ..
end Go.Proofs.YtbfjdfecgiegpaaGreatDoor
namespace Go.Proofs.YtbfjdfecgiegpaaGreatDoor
open Go Go.K Tryz
set_option maxRecDepth 10000
attribute [local irreducible] W WL cS bh bY bB bA bC cL cD
set_option maxHeartbeats 2000000
def ff(a b:Int):Int:=if a<b then -1 else if b<a then 1 else 0
def ER:List Int→Int
 |[]=>0
 |n::r=>if n=0 then ER r else n
def uo(p q:Int×Int):Int:=ER [ff p.1 q.1,ff p.2 q.2]
theorem mB{α:Type}(k:α→Int×Int)(x y:α):decide (uo (k x) (k y)<0)=kl k x y:=by
 unfold uo kl ff ER ER ER;by_cases h1:(k x).1<(k y).1
 ·simp[h1]
 by_cases h2:(k y).1<(k x).1
 ·have:(k x).1≠(k y).1:=by omega
  simp[h1,h2,this]
 have:(k x).1=(k y).1:=by omega
 by_cases h3:(k x).2<(k y).2
 ·simp[this,h3]
 by_cases h4:(k y).2<(k x).2<;>simp[this,h3,h4]
theorem E4(n:Int)(g:G):cN prog 121 #[vI n] g fun _ r=>r= .bool false:=by have hs:=St.start g;exact enter func121 rfl ntmps121 rfl<|aZ rfl<|aZ rfl<|aG (nw rfl hs (by simp))
theorem As(m n:Int)(g:G):cN prog 64 #[vI m,vI n] g fun _ r=>r=vI (ff m n):=by
 have hs:=St.start g;refine enter func64 rfl ntmps64 rfl<|aZ rfl<|cG 1 rfl<|Ev rfl (E4 _ _) hs fun g1 hs ai=>aX rfl<|cG 1 rfl<|Ev rfl (E4 _ _) hs fun g1 hs ai=>aX rfl<|az<|aZ rfl<|aar rfl<|aF<|aq<|az<|aZ rfl<|aar rfl<|aF<|aq<|az<|aZ rfl ?_;by_cases h1:m<n
 ·exact aJ (b:=decide (m<n)) (by simp[h1]) rfl<|aZ rfl<|aG (nw rfl hs (by simp[ff,h1]))
 refine aQ (b:=decide (m<n)) (by simp[h1]) rfl<|aF<|aq<|az<|aZ rfl ?_;by_cases h2:n<m
 ·exact aJ (b:=decide (n<m)) (by simp[h2]) rfl<|aZ rfl<|aG (nw rfl hs (by simp[ff,h1,h2]))
 exact aQ (b:=decide (n<m)) (by simp[h2]) rfl<|aF<|aq<|aZ rfl<|aG (nw rfl hs (by simp[ff,h1,h2]))
theorem S1(v:Value)(l:List Int)(g:G)(aH:Rs g v l):cN prog 63 #[v] g fun _ r=>r=vI (ER l):=by
 obtain⟨a,c,rfl⟩:=aH.isSlice;have hlen:=aH.ef;unfold maxLen at hlen;have hs:=St.start g;refine enter func63 rfl ntmps63 rfl<|aZ rfl<|aZ rfl<|az<|aZ rfl<|aI ?_;refine bK (fun m a' w=> ∃(k:Nat),w=g.w∧k≤l.length∧m=l.length-k∧ER (l.drop k)=ER l∧
  Fr 18 [] [(3,vI 0),(6,.slice a l.length c),(7,vI l.length),(8,vI k)] a') l.length (fun a' ha=>⟨0,rfl,Nat.zero_le _,rfl,rfl,ha.kp rfl⟩) ?_
 rintro m a' _ ⟨k,rfl,hk,rfl,de,dW⟩;revert a';refine ct<|aZ rfl<|az ?_;by_cases bt:k<l.length
 ·refine aJ (b:=decide ((k:Int)<(l.length:Int))) (by simp;omega) rfl ?_;rw[List.drop_eq_getElem_cons bt,ER]at de;refine aF<|aq<|az<|aI<|cR<|zc (y:=l[k]) aH (by simp[dJ,bt]) rfl ?_;rintro b p ys aL rfl;refine q5 1 [.e aL 0] rfl<|aX rfl<|aZ rfl ?_;by_cases hz:l[k]=0
  ·refine aQ (b:=l[k] !=0) (by simp[hz]) rfl ?_;rw[if_pos hz]at de;exact aF<|bJ<|aq<|an<|Wp 2 rfl<|aA<|fun a ha=>⟨l.length-(k+1),by omega,k+1,rfl,by omega,rfl,de,ha.keep ⟨rfl,rfl,rfl,kW rfl,trivial⟩⟩
  refine aJ (b:=l[k] !=0) (by simp[hz]) rfl ?_;rw[if_neg hz]at de;exact aZ rfl<|aG (nw rfl hs (by rw[de]))
 refine aQ (b:=decide ((k:Int)<(l.length:Int))) (by simp;omega) rfl ?_;obtain rfl:k=l.length:=by omega
 refine bc<|bg<|bg<|cA<|aq<|aZ rfl ?_;rw[List.drop_length,ER]at de;exact aG (nw rfl hs (by rw[←de]))
end Go.Proofs.YtbfjdfecgiegpaaGreatDoor
namespace Go.Proofs.YtbfjdfecgiegpaaGreatDoor
open Go Go.K Tryz
set_option maxRecDepth 10000
attribute [local irreducible] W WL cS bh bY bB bA bC cL cD
set_option maxHeartbeats 8000000
abbrev EM(b:Nat):df:=vO b [vI 0,vI 0] 97
def q8(g0:G)(i j:Nat)(ρ:Nat→Option Value)(g:G):Prop:=
 match ρ i,ρ j with
 |none,none=>St g0 g []
 |some v,none=> ∃b,v=vP b∧St g0 g [EM b]
 |none,some u=> ∃c,u=vP c∧St g0 g [EM c]
 |some v,some u=> ∃b c,v=vP b∧u=vP c∧St g0 g [EM b,EM c]
theorem F3{g0:G}{i j:Nat}(ρ:Nat→Option Value)(g g':G)(hf:a_ g g')(h:q8 g0 i j ρ g):q8 g0 i j ρ g':=by
 unfold q8 at h⊢;split at h
 ·exact h.call hf
 ·obtain⟨b,e,h⟩:=h;exact⟨b,e,h.call hf⟩
 ·obtain⟨b,e,h⟩:=h;exact⟨b,e,h.call hf⟩
 obtain⟨b,c,e1,e2,h⟩:=h;exact⟨b,c,e1,e2,h.call hf⟩
theorem Ic{g0 g:G}{F:Fence}{N:Nat}{ds:List Deferred}{Q:Exit→Act→World→Prop}{l:Env}{o:Oper}{i j:Nat}{ρ:Nat→Option Value}(eO:Nat.beq j i=false)(h1:ρ i=none)(hJ:q8 g0 i j ρ g)(ho:o.op= .alloc 97):
  cS F prog N ds o l g.w Q fun v w'=> ∃dM,dM.w=w'∧(g.le dM∧q8 g0 i j (su ρ i v) dM)∧Fact.any.p v dM:=by
 have hn: ¬j=i:=fun e=>by subst e;simp at eO
 unfold q8 at hJ;rw[h1]at hJ;cases h2:ρ j with
 |none=>
  rw[h2]at hJ;refine aN T.ok ho hJ rfl rfl fun b g' hs hle=>⟨g',rfl,⟨hle,?_⟩,trivial⟩
  unfold q8 su;rw[if_pos rfl,if_neg hn,h2];exact⟨b,rfl,hs⟩
 |some u=>
  rw[h2]at hJ;obtain⟨c,e,hJ⟩:=hJ;refine aN T.ok ho hJ rfl rfl fun b g' hs hle=>⟨g',rfl,⟨hle,?_⟩,trivial⟩
  unfold q8 su;rw[if_pos rfl,if_neg hn,h2];exact⟨b,c,rfl,e,hs⟩
theorem Ie{g0 g:G}{F:Fence}{N:Nat}{ds:List Deferred}{Q:Exit→Act→World→Prop}{l:Env}{o:Oper}{i j:Nat}{ρ:Nat→Option Value}(eO:Nat.beq j i=false)(h1:ρ j=none)(hJ:q8 g0 i j ρ g)(ho:o.op= .alloc 97):
  cS F prog N ds o l g.w Q fun v w'=> ∃dM,dM.w=w'∧(g.le dM∧q8 g0 i j (su ρ j v) dM)∧Fact.any.p v dM:=by
 have hn: ¬i=j:=fun e=>by subst e;simp at eO
 unfold q8 at hJ;cases h2:ρ i with
 |none=>
  rw[h2,h1]at hJ;refine aN T.ok ho hJ rfl rfl fun b g' hs hle=>⟨g',rfl,⟨hle,?_⟩,trivial⟩
  unfold q8 su;rw[if_neg hn,if_pos rfl,h2];exact⟨b,rfl,hs⟩
 |some u=>
  rw[h2,h1]at hJ;obtain⟨c,e,hJ⟩:=hJ;refine aN T.ok ho hJ rfl rfl fun b g' hs hle=>⟨g',rfl,⟨hle,?_⟩,trivial⟩
  unfold q8 su;rw[if_neg hn,if_pos rfl,h2];exact⟨c,b,e,rfl,hs.perm (List.Perm.swap _ _ [])⟩
def Ig(fo:Value)(k:bO→Int×Int)(g:G):Prop:=∀g',g.le g'→ ∀f,jd prog fo [fv f] g'.w (cO g' fun _ r=>r=Ia (k f))
theorem Ig.mono{fo:Value}{k:bO→Int×Int}{g g':G}(hle:g.le g')(h:Ig fo k g):Ig fo k g':=fun g1 h1=>h g1 (hle.trans h1)
theorem Ih{fo:Value}{k:bO→Int×Int}{bp:Nat}(x y:bO)(g:G)(aD:EP g bp 0 [fo])(hk:Ig fo k g):
  cN prog 62 #[fv x,fv y,vP bp] g fun _ r=>r=vI (uo (k x) (k y)):=by
 have hs:=St.start g;have ar:=G.le.refl g;refine enter func62 rfl ntmps62 rfl<|cR<|An hs rfl fun b1 g2 hs ai aM=>?_;obtain⟨ar,aD⟩:=cr ai ar aD;refine An hs rfl fun b2 g2 hs ai cE=>?_;obtain⟨ar,aD,aM⟩:=dR ai ar aD aM;refine aX rfl<|az ?_;apply ny (gU (eF (.f Fact.any:: .f Fact.any::[]))) 8 [(2,10),(5,13),(6,6),(7,7)] [6,7] [[],[]] (q8 g 6 7) F3 (by unfold q8;exact hs.dr) (by kernel_rfl) ⟨dq,dq,trivial⟩
 ·exact Um [[],[]] [.z aD,.z aM] (by kernel_rfl) rfl<|bV (cT (js:=[(0,8),(1,9)]) (by kernel_rfl) rfl fun _ g2 _ _ hf _=>cV rfl (cV rfl (bN (ay rfl (fb rfl rfl rfl rfl rfl rfl (hk g2 (ar.trans ((G.bI _).trans hf)) x) fun g' v h1 h2=>⟨g',rfl,h1,h2⟩)))))<|Um [[],[]] [.z aD,.z cE] (by kernel_rfl) rfl<|bV (cT (js:=[(3,11),(4,12)]) (by kernel_rfl) rfl fun _ g2 _ _ hf _=>cV rfl (cV rfl (bN (ay rfl (fb rfl rfl rfl rfl rfl rfl (hk g2 (ar.trans ((G.bI _).trans hf)) y) fun g' v h1 h2=>⟨g',rfl,h1,h2⟩)))))<|bV (jc (js:=[]) (by kernel_rfl) rfl fun ρ g2 h1 _ h3 _ hJ=>bN ⟨rfl,Ic rfl h3 hJ rfl⟩)<|bV (jc (js:=[]) (by kernel_rfl) rfl fun ρ g2 h1 _ h3 _ hJ=>bN ⟨rfl,Ie rfl h3 hJ rfl⟩)<|zd
 intro ρ g3 hle hJ dj;refine cV rfl (cV rfl (gk rfl fun v6 _ r6=>gk rfl fun v7 _ r7=>bN ?_));unfold q8 at hJ;rw[r6,r7]at hJ;obtain⟨b,c,rfl,rfl,hs⟩:=hJ;have ai:=(G.bI _).trans hle;obtain⟨aM,cE⟩:=cr ai aM cE;clear hle dj r6 r7 ρ;clear aM cE;refine sN 0 hs rfl fun g1 hs ai=>sN 1 hs rfl fun g1 hs ai=>?_;obtain⟨g2,bS,aV,ai,aL⟩:=hs.bd (i:=0) rfl;replace hs:=aV;clear aV;rw[←bS];have aM:=aL;clear aL;obtain⟨g2,bS,aV,ai,aL⟩:=hs.bd (i:=0) rfl;replace hs:=aV;clear aV;rw[←bS];replace aM:=aM.mono ai;have cE:=aL;clear aL;replace hs:St g _ []:=hs;refine b_<|az ?_;apply bD hs (dn (eF (.f (Fact.rs [ff (k x).1 (k y).1,ff (k x).2 (k y).2])::fe []))) 12 [(11,25)] (by kernel_rfl) rfl
 ·refine fR [] (fun gd hf=>aj (ay rfl (sU T.ok (q:=0) rfl rfl rfl rfl rfl rfl (by decide) (aav rfl))))<|pO [[0]] [.z aM] hs rfl<|fR [] (fun gd hf=>aj (ay rfl (sU T.ok (q:=0) rfl rfl rfl rfl rfl rfl (by decide) (aav rfl))))<|pO [[2],[1,3]] [.z cE,.c (Wc 64) fun g _=>As (k x).1 (k y).1 g] hs rfl<|fR [] (fun gd hf=>aj (ay rfl (sU T.ok (q:=1) rfl rfl rfl rfl rfl rfl (by decide) (aav rfl))))<|pO [[5]] [.z aM] hs rfl<|fR [] (fun gd hf=>aj (ay rfl (sU T.ok (q:=1) rfl rfl rfl rfl rfl rfl (by decide) (aav rfl))))<|pO [[7],[6,8]] [.z cE,.c (Wc 64) fun g _=>As (k x).2 (k y).2 g] hs rfl<|fR [(4,18),(9,23)] (fun gd hf=>aaw rfl (ay rfl (bE T.ok rfl (St.start gd) (vs:=[(0,vI (ff (k x).1 (k y).1)),(1,vI (ff (k x).2 (k y).2))]) (cells:=[ff (k x).1 (k y).1,ff (k x).2 (k y).2].map (Value.int .i64)) rfl rfl rfl rfl rfl rfl (by decide) (by decide) (by kernel_rfl) rfl fun b g' lB _=>?_))) ?_
  ·obtain⟨g2,e1,e2,e3⟩:=lO (α:=Int) lB (cY.ints g' [ff (k x).1 (k y).1,ff (k x).2 (k y).2]);exact⟨g2,e1,e2,e3⟩
  exact fR [(10,24)] (fun gd hf=>ba fun v h=>aj (aaz rfl (S1 v [ff (k x).1 (k y).1,ff (k x).2 (k y).2] _ h)))<|gG
 clear hs;intro g6 hs ai;exact aX rfl<|aG (nw rfl hs rfl)
end Go.Proofs.YtbfjdfecgiegpaaGreatDoor
namespace Go.K
open Go Go.RowKit
class nA(α:Type) where
 k:Nat
 enc:α→List Value
 len: ∀x,(enc x).length=k
 one: ∀x,(enc x).all Value.oneCell'=true
 pos:0<k
variable {α:Type} [nA α]
def fl(xs:List α):List Value:=xs.flatMap nA.enc
theorem vY(x:α)(xs:List α):fl (x::xs)=nA.enc x++fl xs:=by unfold fl;rw[List.flatMap_cons]
theorem mN(xs ys:List α):fl (xs++ys)=fl xs++fl ys:=by unfold fl;rw[List.flatMap_append]
theorem rU: ∀xs:List α,(fl xs).length=xs.length*nA.k α
 |[]=>by simp[fl]
 |x::xs=>by rw[vY,List.length_append,nA.len,rU xs,List.length_cons,Nat.succ_mul];omega
theorem xM(xs:List α){i:Nat}(h:i<xs.length):fl xs=fl (xs.take i)++(nA.enc xs[i]++fl (xs.drop (i+1))):=by
 conv=>lhs;rw[←List.take_append_drop i xs]
 rw[List.drop_eq_getElem_cons h,mN,vY]
theorem T_(xs:List α){i:Nat}(h:i<xs.length):((fl xs).drop (i*nA.k α)).take (nA.k α)=nA.enc xs[i]:=by
 have e:(fl (xs.take i)).length=i*nA.k α:=by rw[rU,List.length_take,Nat.min_eq_left (by omega)]
 rw[xM xs h,←e,List.drop_left,←nA.len xs[i],List.take_left]
theorem Pt(xs:List α){i:Nat}(h:i<xs.length)(y:α):nr (fl xs) (i*nA.k α) (nA.enc y)=fl (xs.set i y):=by
 have e:(fl (xs.take i)).length=i*nA.k α:=by rw[rU,List.length_take,Nat.min_eq_left (by omega)]
 unfold nr;rw[xM xs h];rw[←e,List.take_left,←List.drop_drop,List.drop_left,nA.len,←nA.len xs[i],List.drop_left];rw[xM (xs.set i y) (i:=i) (by rw[List.length_set];exact h),List.getElem_set_self,List.take_set_of_le (Nat.le_refl _),List.drop_set_of_lt (by omega),List.append_assoc]
theorem Jo(xs:List α){i:Nat}(h:i<xs.length):i*nA.k α+nA.k α≤(fl xs).length:=by rw[rU,←Nat.succ_mul];exact Nat.mul_le_mul_right _ h
variable {F:Fence} {P:Program} {N:Nat} {ds:List Deferred} {l:Env} {w:World} {Q:Exit→Act→World→Prop} {o:Oper} {g0 g:G} {L:List df} {K:Value→World→Prop}
theorem et[eK P](i:Nat){t:Nat}{ti:TI}{x:Operand}{e:TypeId}{b p c n m j:Nat}{xs:List α}(ho:o.op= .load t x)(hs:St g0 g L)
  (hi:L[i]? =some (.row e (nA.k α) (.slice (some ⟨b,p,none⟩) n c) m (fl xs))) (hx:ev l x=some (.pointer (some ⟨b,p+j*nA.k α,none⟩))) {y:α} (hj:xs[j]? =some y)
  (ht:tl (eK.tb P) t=some ti) (ha:wy ti.desc=true) (hk:ti.size=nA.k α) (k:K (.agg (nA.enc y).toArray) g.w):cS F P N ds o l g.w Q K:=by
 obtain⟨sn,rfl⟩:=List.getElem?_eq_some_iff.1 hj;refine fB eK.ok (j*nA.k α) ho (hs.own i _ hi).1 hx ?_ k;unfold Ar;rw[ht];simp only[ha,cond_true];rw[hk,show Nat.ble (j*nA.k α+nA.k α) (fl xs).length=true from Nat.ble_eq_true_of_le (Jo xs sn),cond_true,T_ xs sn]
theorem gX[eK P](i:Nat){t:Nat}{ti:TI}{x y:Operand}{e:TypeId}{b p c n m j:Nat}{xs:List α}{v:α}(ho:o.op= .store t x y)(hs:St g0 g L)
  (hi:L[i]? =some (.row e (nA.k α) (.slice (some ⟨b,p,none⟩) n c) m (fl xs))) (hx:ev l x=some (.pointer (some ⟨b,p+j*nA.k α,none⟩))) (hy:ev l y=some (.agg (nA.enc v).toArray)) (hj:j<xs.length)
  (ht:tl (eK.tb P) t=some ti) (hk:ti.size=nA.k α)
  (kk: ∀g',St g0 g' (L.set i (.row e (nA.k α) (.slice (some ⟨b,p,none⟩) n c) m (fl (xs.set j v))))→g.le g'→K undef g'.w):cS F P N ds o l g.w Q K:=
 iA eK.ok i (j*nA.k α) ho hs hi hx hy ht rfl (by rw[nA.len,hk]) (nA.one v) (by rw[nA.len];exact nA.pos) (by rw[nA.len];exact Jo xs hj) (Pt xs hj v) kk
theorem dz[eK P](i:Nat){t e:Nat}{ti tj:TI}{x ix:Operand}{ad:Option Addr}{c n m:Nat}{kk:IntKind}{z:Int}{xs:List α}(ho:o.op= .indexAddr t x ix)(hs:St g0 g L)
  (hi:L[i]? =some (.row e (nA.k α) (.slice ad n c) m (fl xs))) (h0:0≤z) (bt:z.toNat<n) (hx:ev l x=some (.slice ad n c)) (Jd:ev l ix=some (.int kk z)) (ht:tl (eK.tb P) t=some ti) (hd:ti.desc= .slice e) (hj:tl (eK.tb P) e=some tj) (hk:tj.size=nA.k α)
  (k: ∀b p,ad=some ⟨b,p,none⟩→K (.pointer (some ⟨b,p+z.toNat*nA.k α,none⟩)) g.w):cS F P N ds o l g.w Q K:=
 eo eK.ok ho (hs.own i _ hi).1 h0 bt hx Jd ht hd hj hk k
end Go.K
namespace Go.Proofs.YtbfjdfecgiegpaaGreatDoor
open Go Go.K Tryz
set_option maxRecDepth 10000
attribute [local irreducible] W WL cS bh bY bB bA bC cL cD
set_option maxHeartbeats 8000000
instance:nA bO where
 k:=19
 enc:=cB
 len _:=rfl
 one f:=by simp[cB,Value.oneCell']
 pos:=by decide
def Dw(fo:Value)(k:bO→Int×Int)(g:G):Prop:=∀g',g.le g'→ ∀x y,jd prog fo [fv x,fv y] g'.w (cO g' fun _ r=>r=vI (uo (k x) (k y)))
theorem Dw.mono{fo:Value}{k:bO→Int×Int}{g g':G}(hle:g.le g')(h:Dw fo k g):Dw fo k g':=fun g1 h1=>h g1 (hle.trans h1)
theorem KX{α:Type}{k:α→Int×Int}{A B:List α}{x:α}(h1: ∀a∈A,kl k x a=false)(h2: ∀b∈B,kl k x b=true):nb k (A++B) [x]=A++x::B:=by have e:=iI (k:=k) A [] (a2:=B) (b2:=[x]) (fun a ha y hy=>by rw[List.mem_singleton.1 hy];exact h1 a ha) (by simp);have e2:=iI (k:=k) [] [x] (a2:=B) (b2:=[]) (by simp) (fun y hy b hb=>by rw[List.mem_singleton.1 hy];exact h2 b hb);simp only[List.nil_append,List.append_nil]at e e2;rw[e,e2,ir,ir];rfl
theorem Ii{α:Type}{k:α→Int×Int}{A:List α}{x y:α}(hs:Bs k (A++[y]))(h:kl k x y=false): ∀a∈A++[y],kl k x a=false:=by
 intro a ha;rcases List.mem_append.1 ha with ha|ha
 ·exact qu h ((List.pairwise_append.1 hs).2.2 a ha y (by simp))
 rw[List.mem_singleton.1 ha];exact h
theorem BW{α:Type}(X Y:List α)(y x:α):((X++y::x::Y).set (X.length+1) y).set X.length x=X++x::y::Y:=by rw[List.set_append_right _ _ (by omega),List.set_append_right _ _ (by omega)];simp
def mR:Bool→Nat
 |false=>40
 |true=>152
def S2:Bool→Nat
 |false=>182
 |true=>234
theorem S3(tw:Bool):ag prog (S2 tw):=by
 cases tw
 ·exact(Wc 182)
 exact(Wc 234)
def S4:Bool→Nat
 |false=>260
 |true=>274
theorem OG(tw:Bool):ag prog (S4 tw):=by
 cases tw
 ·exact(Wc 260)
 exact(Wc 274)
def S5:Bool→Nat
 |false=>233
 |true=>261
theorem WK(tw:Bool):ag prog (S5 tw):=by
 cases tw
 ·exact(Wc 233)
 exact(Wc 261)
def S6:Bool→Nat
 |false=>183
 |true=>235
theorem K8(tw:Bool):ag prog (S6 tw):=by
 cases tw
 ·exact(Wc 183)
 exact(Wc 235)
def S7:Bool→Nat
 |false=>120
 |true=>184
theorem WM(tw:Bool):ag prog (S7 tw):=by
 cases tw
 ·exact(Wc 120)
 exact(Wc 184)
def S8:Bool→Nat
 |false=>61
 |true=>126
theorem S9(tw:Bool):ag prog (S8 tw):=by
 cases tw
 ·exact(Wc 61)
 exact(Wc 126)
abbrev fW(e:Nat)(ad:Option Addr)(n c:Nat)(xs:List bO):df:=.row e 19 (.slice ad n c) n (fl xs)
theorem Ng(tw:Bool){fo:Value}{kf:bO→Int×Int}{ad:Option Addr}{n c:Nat}{L:List df}(U S V:List bO){g0 g:G}(hn:n=U.length+S.length+V.length)(hm:n≤1000000000)(hk:Dw fo kf g)(hs:St g0 g (fW (mR tw) ad n c (U++S++V)::L)):
  CallsIn Wd 0 prog (S2 tw) #[.slice ad n c,vI (U.length:Nat),vI (U.length+S.length:Nat),fo] g.w (db g fun g' r=>r= .tuple #[]∧St g0 g' (fW (mR tw) ad n c (U++dC kf S++V)::L)):=by
 cases tw
 case' false=>let tw:=false
 case' true=>let tw:=true
 all_goals
  have ar:=G.le.refl g
  first|refine enter func182 rfl ntmps182 rfl ?_|refine enter func234 rfl ntmps234 rfl ?_
  refine aZ rfl<|aI ?_
  refine bK (fun m a' w=> ∃(d:Nat) (g':G),w=g'.w∧St g0 g' (fW (mR tw) ad n c (U++dC kf (S.take d)++(S.drop d++V))::L)∧G.le g g'∧1≤d∧(d≤S.length∨d=1)∧m=S.length+1-d∧
    Fr 53 [] [(0,.slice ad n c),(1,vI (U.length:Nat)),(2,vI (U.length+S.length:Nat)),(3,fo),(8,vI (U.length+d:Nat))] a') S.length
   (fun a' ha=>⟨1,g,rfl,?_,ar,Nat.le_refl _,.inr rfl,rfl,ha.keep ⟨rfl,rfl,rfl,rfl,kI rfl (by rw[wq];simp),trivial⟩⟩) ?_
  ·have e:U++dC kf (S.take 1)++(S.drop 1++V)=U++S++V:=by
    cases S with
    |nil=>simp[dC]
    |cons s S=>simp[dC,ir]
   rw[e];exact hs
  clear hs ar;rintro m a' _ ⟨d,g',rfl,hs,ar,hd,QP,rfl,dW⟩;revert a';refine ct<|az<|aZ rfl ?_;by_cases bt:d<S.length
  ·refine aJ (b:=decide (((U.length+d:Nat):Int)<((U.length+S.length:Nat):Int))) (by simp;omega) rfl<|aF<|aq<|az<|aI<|aZ rfl<|aI ?_
   have e0:U++dC kf (S.take d)++(S.drop d++V)=(U++dC kf (S.take d))++S[d]::([]++(S.drop (d+1)++V)):=by rw[List.drop_eq_getElem_cons bt];simp only[List.append_assoc,List.cons_append,List.nil_append]
   rw[e0]at hs;generalize hW:S.drop (d+1)++V=W0 at hs;generalize hx:S[d]=x at hs;have dS:(dC kf (S.take d)).length=d:=by rw[(iJ _).length_eq,List.length_take];omega
   have QR:W0.length+d+1+U.length=n:=by rw[←hW,List.length_append,List.length_drop];omega
   have WN:=jJ (k:=kf) (S.take d);have e1:dC kf (S.take (d+1))=nb kf (dC kf (S.take d)) [x]:=by rw[←hx,List.take_succ_eq_append_getElem bt,pA];rfl
   generalize hq:dC kf (S.take d)=q at hs WN dS e1;have fN:=G.le.refl g';refine bK (fun m a' w=> ∃(A B:List bO) (g2:G),w=g2.w∧St g0 g2 (fW (mR tw) ad n c (U++A++x::(B++W0))::L)∧G.le g' g2∧q=A++B∧(∀b∈B,kl kf x b=true)∧m=A.length∧
     Fr 53 [] [(0,.slice ad n c),(1,vI (U.length:Nat)),(2,vI (U.length+S.length:Nat)),(3,fo),(8,vI (U.length+d:Nat)),(9,vI (U.length+A.length:Nat))] a') d
    (fun a' ha=>⟨q,[],g',rfl,hs,fN,by simp,by simp,dS.symm,ha.keep ⟨rfl,rfl,rfl,rfl,rfl,kI rfl (by rw[dS]),trivial⟩⟩) ?_
   clear hs fN;rintro m a' _ ⟨A,B,g2,rfl,hs,fN,C1,hB,rfl,dW⟩;have tP:A.length+B.length=d:=by rw[←List.length_append,←C1,dS]
   have ar:=ar.trans fN;revert a';rcases List.eq_nil_or_concat A with rfl|⟨A,y,rfl⟩
   ·refine ct<|az<|az ?_;apply bD hs (eF (.e (.bool false)::dn (gU (eF [])))) 17 [(16,34)] (by kernel_rfl) rfl
    ·refine pO [[],[]] [] hs rfl<|fR [(0,18),(1,19)] (fun gd hf=>aaw rfl (ay rfl (aE _ T.ok rfl ⟨gd,rfl,a_.refl _,?_⟩))) ?_
     ·exact congrArg Value.bool (by simp)
     exact EG [[2],[3],[3],[3],[5,6,3],[7,3],[3],[3],[10,3],[9,11,3],[12,3],[4,8,13,3,3],[14,3],[3,15]] [] hs rfl
    clear hs;intro g5 hs ai;obtain⟨ar,fN⟩:=cr ai ar fN;refine b_<|aar rfl<|bc<|bg<|bg<|cA<|bJ<|aq<|an<|Wp 3 rfl<|aA<|fun a ha=>⟨S.length+1-(d+1),by omega,d+1,g5,rfl,?_,ar,by omega,by omega,rfl,ha.keep ⟨rfl,rfl,rfl,rfl,kW rfl,trivial⟩⟩
    have e2:=KX (A:=[]) (x:=x) (by simp) hB;rw[e1,C1,hW];simp only[List.nil_append]at e2⊢;rw[e2];simpa using hs
   rw[List.concat_eq_append]at*;obtain⟨b0,p0,rfl⟩: ∃b p,ad=some ⟨b,p,none⟩:=by
    rcases(hs.own 0 _ rfl).1.2 with⟨h0,_⟩|⟨b,off,cap,cur,hv,_⟩
    ·omega
    simp only[Value.slice.injEq]at hv;exact⟨b,off,hv.1⟩
   generalize hX:U++A=X;have K9:X.length=U.length+A.length:=by rw[←hX,List.length_append]
   have ej:U.length+(A++[y]).length=X.length+1:=by rw[K9,List.length_append];rfl
   rw[ej];have er:U++(A++[y])++x::(B++W0)=X++y::x::(B++W0):=by rw[←hX];simp
   rw[er]at hs;have QT:X.length+1<n:=by simp only[List.length_append,List.length_singleton]at tP;omega
   have gy:(X++y::x::(B++W0))[X.length]? =some y:=by simp
   have gx:(X++y::x::(B++W0))[X.length+1]? =some x:=by rw[List.getElem?_append_right (by omega)];simp
   refine ct<|az<|az ?_;apply bD hs (eF (.e (.bool true)::dn (.e (vI (X.length:Nat))::gU (fe [])))) 17 [(16,34)] (by kernel_rfl) rfl
   ·refine pO [[],[]] [] hs rfl<|fR [(0,18),(1,19)] (fun gd hf=>aaw rfl (ay rfl (aE _ T.ok rfl ⟨gd,rfl,a_.refl _,?_⟩))) ?_
    ·exact congrArg Value.bool (by simp;omega)
    refine pO [[2],[3],[3],[3]] [] hs rfl<|fR [(5,23),(6,24),(3,21)] (fun gd hf=>aay rfl (ay rfl (dz (α:=bO) 0 rfl (hs.dr.call hf) rfl (by omega) (by omega) rfl rfl rfl rfl rfl rfl fun b p hb=>⟨gd,rfl,a_.refl _,?_⟩))) ?_
    ·obtain⟨rfl,rfl⟩:b0=b∧p0=p:=by simpa using hb
     rfl
    refine fR [(7,25),(3,21)] (fun gd hf=>aaw rfl (ay rfl (et (α:=bO) 0 rfl (hs.dr.call hf) rfl rfl (j:=X.length+1) gx rfl rfl rfl (aav rfl))))<|pO [[3],[3]] [] hs rfl<|fR [(10,28),(3,21)] (fun gd hf=>aaw rfl (ay rfl (aE _ T.ok rfl ⟨gd,rfl,a_.refl _,?_⟩))) ?_
    ·exact congrArg (Value.int .i64) (by rw[wq];omega)
    refine fR [(9,27),(11,29),(3,21)] (fun gd hf=>aay rfl (ay rfl (dz (α:=bO) 0 rfl (hs.dr.call hf) rfl (by omega) (by omega) rfl rfl rfl rfl rfl rfl fun b p hb=>⟨gd,rfl,a_.refl _,?_⟩))) ?_
    ·obtain⟨rfl,rfl⟩:b0=b∧p0=p:=by simpa using hb
     rfl
    exact fR [(12,30),(3,21)] (fun gd hf=>aaw rfl (ay rfl (et (α:=bO) 0 rfl (hs.dr.call hf) rfl rfl (j:=X.length) gy rfl rfl rfl (aav rfl))))<|fR [(4,22),(8,26),(13,31),(3,21),(3,21)] (fun gd hf=>ah rfl (aaH rfl (ay rfl (fb rfl rfl rfl rfl rfl rfl (hk gd (ar.trans ((G.bI _).trans hf.le)) x y) fun g' v h1 h2=>⟨g',rfl,h1,h2⟩))))<|EG [[14,3],[3,15]] [] hs rfl
   clear hs;intro g5 hs ai;obtain⟨ar,fN⟩:=cr ai ar fN;apply b_;cases jG:kl kf x y with
   |true=>
    refine aJ (b:=decide (uo (kf x) (kf y)<0)) (by rw[mB];exact jG) rfl<|aF<|aq<|az<|aI ?_;have so:(X++y::x::(B++W0)).length=n:=by rw[List.length_append,K9];simp only[List.length_append,List.length_cons,List.length_nil]at tP⊢;omega
    apply qz (gU (.e (vI (X.length:Nat))::eF (.e (vI (X.length:Nat))::gU (eF (fe [.f Fact.any]))))) 16 [(2,39),(4,41),(13,50)] [15] [[0,1,5,6,7,8,9,10,11,12,13,14]]
     (fun s=>match s with|0=>fW (mR tw) (some ⟨b0,p0,none⟩) n c (X++y::x::(B++W0))::L|_+1=>fW (mR tw) (some ⟨b0,p0,none⟩) n c ((X++y::x::(B++W0)).set (X.length+1) y)::L) hs (by kernel_rfl) ⟨dq,trivial⟩
    ·refine Lm [[],[],[],[]] [] (by kernel_rfl) rfl<|dx (oX (js:=[(3,40)]) (by kernel_rfl) rfl fun s g' _ _ _ hf _=>aax rfl (ay rfl (aE _ T.ok rfl ⟨g',rfl,a_.refl _,?_⟩))) ?_
     ·exact congrArg (Value.int .i64) (by rw[wq];omega)
     refine Lm [[],[]] [] (by kernel_rfl) rfl<|dx (oX (js:=[(6,43)]) (by kernel_rfl) rfl fun s g' _ _ _ hf _=>aax rfl (ay rfl (aE _ T.ok rfl ⟨g',rfl,a_.refl _,?_⟩))) ?_
     ·exact congrArg (Value.int .i64) (by rw[wq];omega)
     refine dx (lA 0 0 (js:=[(5,42),(7,44)]) (by kernel_rfl) (by kernel_rfl) ?_) ?_
     ·intro s g' _ h1 hf hJ;obtain rfl:s=0:=by omega
      refine aaw rfl (ay rfl (dz (α:=bO) 0 rfl hJ rfl (by omega) (by omega) rfl rfl rfl rfl rfl rfl fun b p hb=>⟨g',rfl,a_.refl _,?_⟩));obtain⟨rfl,rfl⟩:b0=b∧p0=p:=by simpa using hb
      rfl
     refine dx (lA 0 0 (js:=[(8,45)]) (by kernel_rfl) (by kernel_rfl) ?_) ?_
     ·intro s g' _ h1 hf hJ;obtain rfl:s=0:=by omega
      exact aax rfl (ay rfl (et (α:=bO) 0 rfl hJ rfl rfl (j:=X.length) gy rfl rfl rfl ⟨g',rfl,a_.refl _,rfl⟩))
     refine Lm [[],[]] [] (by kernel_rfl) rfl<|dx (lA 0 0 (js:=[(10,47),(11,48)]) (by kernel_rfl) (by kernel_rfl) ?_) ?_
     ·intro s g' _ h1 hf hJ;obtain rfl:s=0:=by omega
      refine aaw rfl (ay rfl (dz (α:=bO) 0 rfl hJ rfl (by omega) (by omega) rfl rfl rfl rfl rfl rfl fun b p hb=>⟨g',rfl,a_.refl _,?_⟩));obtain⟨rfl,rfl⟩:b0=b∧p0=p:=by simpa using hb
      rfl
     refine dx (lA 0 0 (js:=[(12,49)]) (by kernel_rfl) (by kernel_rfl) ?_) ?_
     ·intro s g' _ h1 hf hJ;obtain rfl:s=0:=by omega
      exact aax rfl (ay rfl (et (α:=bO) 0 rfl hJ rfl rfl (j:=X.length+1) gx rfl rfl rfl ⟨g',rfl,a_.refl _,rfl⟩))
     refine dx (lA 0 0 (js:=[(0,37),(1,38),(0,37),(1,38)]) (by kernel_rfl) (by kernel_rfl) ?_) ?_
     ·intro s g' _ h1 hf hJ;obtain rfl:s=0:=by omega
      refine aaH rfl (ay rfl (dz (α:=bO) 0 rfl hJ rfl (by omega) (by omega) rfl rfl rfl rfl rfl rfl fun b p hb=>⟨g',rfl,a_.refl _,?_⟩));obtain⟨rfl,rfl⟩:b0=b∧p0=p:=by simpa using hb
      rfl
     exact dx (wO 0 (js:=[(14,51),(9,46),(9,46)]) (by kernel_rfl) rfl fun g' hf hJ=>aay rfl (rE rfl (gX (α:=bO) 0 rfl hJ rfl rfl rfl (v:=y) (j:=X.length+1) (by omega) rfl rfl fun g3 hs hle=>⟨g3,rfl,⟨hle,hs⟩,trivial⟩)))<|y9
    clear hs;intro g6 hs ai;obtain⟨ar,fN⟩:=cr ai ar fN;refine aay rfl<|ak rfl rfl (dz (α:=bO) 0 rfl hs rfl (by omega) (by omega) rfl rfl rfl rfl rfl rfl fun b p hb=>?_);obtain⟨rfl,rfl⟩:b0=b∧p0=p:=by simpa using hb
    refine bu rfl<|gX (α:=bO) 0 rfl hs rfl rfl rfl (v:=x) (j:=X.length) (by rw[List.length_set];omega) rfl rfl fun g7 hs ai=>?_;obtain⟨ar,fN⟩:=cr ai ar fN;replace hs:St g0 g7 (fW (mR tw) (some ⟨b0,p0,none⟩) n c (((X++y::x::(B++W0)).set (X.length+1) y).set X.length x)::L):=hs;rw[BW]at hs;refine aA<|bJ<|aq<|an<|Wp 3 rfl<|aA<|fun a ha=>⟨A.length,by simp,A,y::B,g7,rfl,?_,fN,by rw[C1];simp,?_,rfl,ha.keep ⟨rfl,rfl,rfl,rfl,rfl,kW rfl,trivial⟩⟩
    ·rw[←hX]at hs;simpa using hs
    intro b hb;rcases List.mem_cons.1 hb with rfl|hb
    ·exact jG
    exact hB b hb
   |false=>
    refine aQ (b:=decide (uo (kf x) (kf y)<0)) (by rw[mB];exact jG) rfl<|bc<|bg<|bg<|cA<|bJ<|aq<|an<|Wp 3 rfl<|aA<|fun a ha=>⟨S.length+1-(d+1),by omega,d+1,g5,rfl,?_,ar,by omega,by omega,rfl,ha.keep ⟨rfl,rfl,rfl,rfl,kW rfl,trivial⟩⟩
    have e2:=KX (A:=A++[y]) (x:=x) (Ii (by rw[C1]at WN;exact(List.pairwise_append.1 WN).1) jG) hB;rw[e1,C1,hW,e2];rw[←er]at hs;simpa using hs
  refine aQ (b:=decide (((U.length+d:Nat):Int)<((U.length+S.length:Nat):Int))) (by simp;omega) rfl<|bc<|bg<|bg<|cA<|lC rfl (db.intro ar ⟨rfl,?_⟩);rw[List.take_of_length_le (by omega),List.drop_of_length_le (by omega)]at hs;exact hs
end Go.Proofs.YtbfjdfecgiegpaaGreatDoor
namespace Go.Proofs.YtbfjdfecgiegpaaGreatDoor
open Go Go.K Tryz
set_option maxRecDepth 10000
attribute [local irreducible] W WL cS bh bY bB bA bC cL cD
set_option maxHeartbeats 8000000
theorem BX{α:Type}(E H G:List α)(x y:α):((E++x::(H++y::G)).set E.length y).set (E.length+1+H.length) x=E++y::(H++x::G):=by rw[List.set_append_right _ _ (by omega),List.set_append_right _ _ (by omega),Nat.sub_self,List.set_cons_zero,show E.length+1+H.length-E.length=H.length+1 from by omega,List.set_cons_succ,List.set_append_right _ _ (by omega),Nat.sub_self,List.set_cons_zero]
theorem Au{α:Type}(E H G:List α)(x y:α):(E++x::(H++y::G))[E.length+1+H.length]? =some y:=by rw[List.getElem?_append_right (by omega),show E.length+1+H.length-E.length=H.length+1 from by omega,List.getElem?_cons_succ,List.getElem?_append_right (by omega),Nat.sub_self];rfl
theorem Av(tw:Bool){fo:Value}{ad:Option Addr}{n c:Nat}{L:List df}(U X M Y V:List bO){g0 g:G}(Mu:X.length=Y.length)(hn:n=U.length+X.length+M.length+Y.length+V.length)(hm:n≤1000000000)(hs:St g0 g (fW (mR tw) ad n c (U++X++M++Y++V)::L)):
  CallsIn Wd 0 prog (S4 tw) #[.slice ad n c,vI (U.length:Nat),vI (U.length+X.length+M.length:Nat),vI (X.length:Nat),fo] g.w (db g fun g' r=>r= .tuple #[]∧St g0 g' (fW (mR tw) ad n c (U++Y++M++X++V)::L)):=by
 cases tw
 case' false=>let tw:=false
 case' true=>let tw:=true
 all_goals
  have ar:=G.le.refl g
  first|refine enter func260 rfl ntmps260 rfl ?_|refine enter func274 rfl ntmps274 rfl ?_
  refine aZ rfl<|aI ?_
  refine bK (fun m a' w=> ∃(i:Nat) (g':G),w=g'.w∧St g0 g' (fW (mR tw) ad n c (U++Y.take i++(X.drop i++M++X.take i)++(Y.drop i++V))::L)∧G.le g g'∧i≤X.length∧m=X.length-i∧
    Fr 38 [] [(0,.slice ad n c),(1,vI (U.length:Nat)),(2,vI (U.length+X.length+M.length:Nat)),(3,vI (X.length:Nat)),(4,fo),(10,vI (i:Nat))] a') X.length
   (fun a' ha=>⟨0,g,rfl,by simpa using hs,ar,Nat.zero_le _,rfl,ha.kp rfl⟩) ?_
  clear hs ar;rintro m a' _ ⟨i,g',rfl,hs,ar,hi,rfl,dW⟩;revert a';refine ct<|az<|aZ rfl ?_;by_cases bt:i<X.length
  ·refine aJ (b:=decide ((i:Int)<(X.length:Int))) (by simp;omega) rfl ?_;have Y0:i<Y.length:=by omega
   obtain⟨b0,p0,rfl⟩: ∃b p,ad=some ⟨b,p,none⟩:=by
    rcases(hs.own 0 _ rfl).1.2 with⟨h0,_⟩|⟨b,off,cap,cur,hv,_⟩
    ·omega
    simp only[Value.slice.injEq]at hv;exact⟨b,off,hv.1⟩
   have tX:X.take (i+1)=X.take i++[X[i]]:=List.take_succ_eq_append_getElem bt;have tY:Y.take (i+1)=Y.take i++[Y[i]]:=List.take_succ_eq_append_getElem Y0;have dX:X.drop i=X[i]::X.drop (i+1):=List.drop_eq_getElem_cons bt;have dY:Y.drop i=Y[i]::Y.drop (i+1):=List.drop_eq_getElem_cons Y0;have sx:(X.drop (i+1)).length=X.length-(i+1):=List.length_drop;have Y4:(X.take i).length=i:=by rw[List.length_take];omega
   have vX:(Y.take i).length=i:=by rw[List.length_take];omega
   have dL:(Y.drop (i+1)).length=Y.length-(i+1):=List.length_drop;generalize X[i]=x at tX dX;generalize Y[i]=y at tY dY;have er:U++Y.take i++(X.drop i++M++X.take i)++(Y.drop i++V)=(U++Y.take i)++x::((X.drop (i+1)++M++X.take i)++y::(Y.drop (i+1)++V)):=by rw[dX,dY];simp only[List.append_assoc,List.cons_append]
   have ew:(U++Y.take i)++y::((X.drop (i+1)++M++X.take i)++x::(Y.drop (i+1)++V))=U++Y.take (i+1)++(X.drop (i+1)++M++X.take (i+1))++(Y.drop (i+1)++V):=by rw[tX,tY];simp only[List.append_assoc,List.cons_append,List.nil_append]
   rw[er]at hs;generalize hE:U++Y.take i=E at hs ew;generalize hH:X.drop (i+1)++M++X.take i=H at hs ew;generalize hG:Y.drop (i+1)++V=Gr at hs ew;have SS:E.length=U.length+i:=by rw[←hE,List.length_append,vX]
   have SU:H.length=X.length-(i+1)+M.length+i:=by rw[←hH,List.length_append,List.length_append,sx,Y4]
   have Y5:(E++x::(H++y::Gr)).length=n:=by rw[←hG];simp only[List.length_append,List.length_cons];omega
   have gx:(E++x::(H++y::Gr))[E.length]? =some x:=by simp
   have gy:=Au E H Gr x y;clear sx Y4 vX dL;refine aF<|aq<|az<|aI ?_
   apply qz (eF (fe (.e (vI (E.length:Nat))::eF (fe (.e (vI (E.length+1+H.length:Nat))::eF (fe (.e (vI (E.length+1+H.length:Nat))::gU (fe (.e (vI (E.length:Nat))::eF (fe [.f Fact.any])))))))))) 22 [(4,20),(7,23),(19,35)] [21] [[0,1,2,3,8,9,10,11,12,13,14,15,16,17,18,19,20]]
    (fun s=>match s with|0=>fW (mR tw) (some ⟨b0,p0,none⟩) n c (E++x::(H++y::Gr))::L|_+1=>fW (mR tw) (some ⟨b0,p0,none⟩) n c ((E++x::(H++y::Gr)).set E.length y)::L) hs (by kernel_rfl) ⟨dq,trivial⟩
   ·refine Lm [[],[],[]] [] (by kernel_rfl) rfl<|dx (oX (js:=[(1,17),(2,18)]) (by kernel_rfl) rfl fun s g' _ _ _ hf _=>aaw rfl (ay rfl (aE _ T.ok rfl ⟨g',rfl,a_.refl _,?_⟩))) ?_
    ·exact congrArg (Value.int .i64) (by rw[wq];omega)
    refine Lm [[],[],[]] [] (by kernel_rfl) rfl<|dx (oX (js:=[(5,21),(6,22)]) (by kernel_rfl) rfl fun s g' _ _ _ hf _=>aaw rfl (ay rfl (aE _ T.ok rfl ⟨g',rfl,a_.refl _,?_⟩))) ?_
    ·exact congrArg (Value.int .i64) (by rw[wq];omega)
    refine Lm [[],[],[]] [] (by kernel_rfl) rfl<|dx (oX (js:=[(9,25),(10,26)]) (by kernel_rfl) rfl fun s g' _ _ _ hf _=>aaw rfl (ay rfl (aE _ T.ok rfl ⟨g',rfl,a_.refl _,?_⟩))) ?_
    ·exact congrArg (Value.int .i64) (by rw[wq];omega)
    refine dx (lA 0 0 (js:=[(8,24),(11,27)]) (by kernel_rfl) (by kernel_rfl) ?_) ?_
    ·intro s g' _ h1 hf hJ;obtain rfl:s=0:=by omega
     refine aaw rfl (ay rfl (dz (α:=bO) 0 rfl hJ rfl (by omega) (by omega) rfl rfl rfl rfl rfl rfl fun b p hb=>⟨g',rfl,a_.refl _,?_⟩));obtain⟨rfl,rfl⟩:b0=b∧p0=p:=by simpa using hb
     rfl
    refine dx (lA 0 0 (js:=[(12,28)]) (by kernel_rfl) (by kernel_rfl) ?_) ?_
    ·intro s g' _ h1 hf hJ;obtain rfl:s=0:=by omega
     exact aax rfl (ay rfl (et (α:=bO) 0 rfl hJ rfl rfl (j:=E.length+1+H.length) gy rfl rfl rfl ⟨g',rfl,a_.refl _,rfl⟩))
    refine Lm [[],[],[]] [] (by kernel_rfl) rfl<|dx (oX (js:=[(15,31),(16,32)]) (by kernel_rfl) rfl fun s g' _ _ _ hf _=>aaw rfl (ay rfl (aE _ T.ok rfl ⟨g',rfl,a_.refl _,?_⟩))) ?_
    ·exact congrArg (Value.int .i64) (by rw[wq];omega)
    refine dx (lA 0 0 (js:=[(14,30),(17,33)]) (by kernel_rfl) (by kernel_rfl) ?_) ?_
    ·intro s g' _ h1 hf hJ;obtain rfl:s=0:=by omega
     refine aaw rfl (ay rfl (dz (α:=bO) 0 rfl hJ rfl (by omega) (by omega) rfl rfl rfl rfl rfl rfl fun b p hb=>⟨g',rfl,a_.refl _,?_⟩));obtain⟨rfl,rfl⟩:b0=b∧p0=p:=by simpa using hb
     rfl
    refine dx (lA 0 0 (js:=[(18,34)]) (by kernel_rfl) (by kernel_rfl) ?_) ?_
    ·intro s g' _ h1 hf hJ;obtain rfl:s=0:=by omega
     exact aax rfl (ay rfl (et (α:=bO) 0 rfl hJ rfl rfl (j:=E.length) gx rfl rfl rfl ⟨g',rfl,a_.refl _,rfl⟩))
    refine dx (lA 0 0 (js:=[(0,16),(3,19),(0,16),(3,19)]) (by kernel_rfl) (by kernel_rfl) ?_) ?_
    ·intro s g' _ h1 hf hJ;obtain rfl:s=0:=by omega
     refine aaH rfl (ay rfl (dz (α:=bO) 0 rfl hJ rfl (by omega) (by omega) rfl rfl rfl rfl rfl rfl fun b p hb=>⟨g',rfl,a_.refl _,?_⟩));obtain⟨rfl,rfl⟩:b0=b∧p0=p:=by simpa using hb
     rfl
    exact dx (wO 0 (js:=[(20,36),(13,29),(13,29)]) (by kernel_rfl) rfl fun g' hf hJ=>aay rfl (rE rfl (gX (α:=bO) 0 rfl hJ rfl rfl rfl (v:=y) (j:=E.length) (by omega) rfl rfl fun g3 hs hle=>⟨g3,rfl,⟨hle,hs⟩,trivial⟩)))<|y9
   clear hs;intro g6 hs ai;replace ar:=G.le.trans ar ai;refine aay rfl<|ak rfl rfl (dz (α:=bO) 0 rfl hs rfl (by omega) (by omega) rfl rfl rfl rfl rfl rfl fun b p hb=>?_);obtain⟨rfl,rfl⟩:b0=b∧p0=p:=by simpa using hb
   refine bu rfl<|gX (α:=bO) 0 rfl hs rfl rfl rfl (v:=x) (j:=E.length+1+H.length) (by rw[List.length_set];omega) rfl rfl fun g7 hs ai=>?_;replace ar:=G.le.trans ar ai;replace hs:St g0 g7 (fW (mR tw) (some ⟨b0,p0,none⟩) n c (((E++x::(H++y::Gr)).set E.length y).set (E.length+1+H.length) x)::L):=hs;rw[BX,ew,←hG]at hs;exact aA<|bJ<|aq<|an<|Wp 3 rfl<|aA<|fun a ha=>⟨X.length-(i+1),by omega,i+1,g7,rfl,hs,ar,by omega,rfl,ha.keep ⟨rfl,rfl,rfl,rfl,rfl,kW rfl,trivial⟩⟩
  refine aQ (b:=decide ((i:Int)<(X.length:Int))) (by simp;omega) rfl<|bc<|bg<|bg<|cA<|lC rfl (db.intro ar ⟨rfl,?_⟩);rw[List.take_of_length_le (by omega),List.drop_of_length_le (l:=X) (by omega),List.drop_of_length_le (l:=Y) (by omega),List.take_of_length_le (l:=X) (by omega)]at hs
  simpa using hs
end Go.Proofs.YtbfjdfecgiegpaaGreatDoor
namespace Go.Proofs.YtbfjdfecgiegpaaGreatDoor
open Go Go.K Tryz
set_option maxRecDepth 10000
attribute [local irreducible] W WL cS bh bY bB bA bC cL cD
set_option maxHeartbeats 8000000
theorem Ij(tw:Bool){fo:Value}{ad:Option Addr}{n c:Nat}{L:List df}(U X Y V:List bO){g0 g:G}(hX:0<X.length)(hY:0<Y.length)(hn:n=U.length+X.length+Y.length+V.length)(hm:n≤1000000000)(hs:St g0 g (fW (mR tw) ad n c (U++X++Y++V)::L)):
  CallsIn Wd 0 prog (S5 tw) #[.slice ad n c,vI (U.length:Nat),vI (U.length+X.length:Nat),vI (U.length+X.length+Y.length:Nat),fo] g.w (db g fun g' r=>r= .tuple #[]∧St g0 g' (fW (mR tw) ad n c (U++Y++X++V)::L)):=by
 cases tw
 case' false=>let tw:=false
 case' true=>let tw:=true
 all_goals
  have ar:=G.le.refl g
  first|refine enter func233 rfl ntmps233 rfl ?_|refine enter func261 rfl ntmps261 rfl ?_
  refine aZ rfl<|aZ rfl<|az<|aI ?_
  refine bK (fun m a' w=> ∃(Y1 X2 Y2 X1:List bO) (g':G),w=g'.w∧St g0 g' (fW (mR tw) ad n c (U++Y1++X2++Y2++(X1++V))::L)∧G.le g g'∧0<X2.length∧0<Y2.length∧U.length+Y1.length+X2.length=U.length+X.length∧Y++X=Y1++(Y2++X2)++X1∧m=X2.length+Y2.length∧
    Fr 58 [] [(0,.slice ad n c),(1,vI (U.length:Nat)),(2,vI (U.length+X.length:Nat)),(3,vI (U.length+X.length+Y.length:Nat)),(4,fo),(10,vI (X2.length:Nat)),(11,vI (Y2.length:Nat))] a') (X.length+Y.length)
   (fun a' ha=>⟨[],X,Y,[],g,rfl,by simpa using hs,ar,hX,hY,by simp,by simp,rfl,ha.keep ⟨rfl,rfl,rfl,rfl,rfl,kW rfl,kW rfl,trivial⟩⟩) ?_
  clear hs ar;rintro m a' _ ⟨Y1,X2,Y2,X1,g',rfl,hs,ar,h1,h2,h3,h4,rfl,dW⟩;have h5:X.length+Y.length=Y1.length+(Y2.length+X2.length)+X1.length:=by have:=congrArg List.length h4;simp only[List.length_append]at this;omega
  revert a';refine ct<|az<|aZ rfl ?_;by_cases he:X2.length=Y2.length
  ·refine aQ (b:=(X2.length:Int) !=(Y2.length:Int)) (by simp;omega) rfl<|bc<|bg<|bg<|cA<|aq<|an<|Wp 7 rfl<|cX (vI ((U++Y1).length:Nat)) (t:=53) rfl (congrArg (Value.int .i64) (by rw[wq,List.length_append];omega))<|cX (vI ((U++Y1).length+X2.length+([]:List bO).length:Nat)) (t:=54) rfl (congrArg (Value.int .i64) (by rw[List.length_append,List.length_nil];omega))<|ak rfl rfl<|cp (OG tw) aK rfl rfl rfl rfl rfl (Av tw (U++Y1) X2 [] Y2 (X1++V) he (by simp only[List.length_append,List.length_nil];omega) hm (by simpa using hs)) ?_;clear hs;rintro g5 _ ai ⟨rfl,hs⟩;replace ar:=G.le.trans ar ai;refine aA<|lC rfl (db.intro ar ⟨rfl,?_⟩);have e:U++Y++X++V=U++Y1++Y2++[]++X2++(X1++V):=by rw[List.append_assoc U Y X,h4];simp only[List.append_assoc,List.nil_append]
   rw[e];exact hs
  refine aJ (b:=(X2.length:Int) !=(Y2.length:Int)) (by simp;omega) rfl<|aF<|aq<|aI<|aZ rfl ?_;by_cases bt:Y2.length<X2.length
  ·refine aJ (b:=decide ((Y2.length:Int)<(X2.length:Int))) (by simp;omega) rfl ?_;have l1:(X2.take Y2.length).length=Y2.length:=by rw[List.length_take];omega
   have l2:(X2.drop Y2.length).length=X2.length-Y2.length:=List.length_drop;have eX:=List.take_append_drop Y2.length X2;generalize X2.take Y2.length=Xa at l1 eX;generalize X2.drop Y2.length=Xb at l2 eX;refine cG 7 rfl<|cX (vI ((U++Y1).length:Nat)) (t:=27) rfl (congrArg (Value.int .i64) (by rw[wq,List.length_append];omega))<|cX (vI ((U++Y1).length+Xa.length+Xb.length:Nat)) (t:=28) rfl (congrArg (Value.int .i64) (by rw[List.length_append];omega))<|cX (vI (Xa.length:Nat)) (t:=29) rfl (congrArg (Value.int .i64) (by omega))<|ak rfl rfl<|cp (OG tw) aK rfl rfl rfl rfl rfl (Av tw (U++Y1) Xa Xb Y2 (X1++V) l1 (by simp only[List.length_append];omega) hm (by rw[←eX]at hs;simpa using hs)) ?_;clear hs;rintro g5 _ ai ⟨rfl,hs⟩;replace ar:=G.le.trans ar ai;refine b_<|an<|Wp 4 rfl<|aA<|bJ<|fun a ha=>⟨X2.length,by omega,Y1++Y2,Xb,Xa,X1,g5,rfl,by simpa using hs,ar,by omega,by omega,by simp only[List.length_append];omega,by rw[h4,←eX];simp only[List.append_assoc],by omega,ha.keep ⟨rfl,rfl,rfl,rfl,rfl,kW rfl,kJ rfl,trivial⟩⟩
  refine aQ (b:=decide ((Y2.length:Int)<(X2.length:Int))) (by simp;omega) rfl ?_;have l1:(Y2.take (Y2.length-X2.length)).length=Y2.length-X2.length:=by rw[List.length_take];omega
  have l2:(Y2.drop (Y2.length-X2.length)).length=Y2.length-(Y2.length-X2.length):=List.length_drop;have eY:=List.take_append_drop (Y2.length-X2.length) Y2;generalize Y2.take (Y2.length-X2.length)=Ya at l1 eY;generalize Y2.drop (Y2.length-X2.length)=Yb at l2 eY;refine cG 11 rfl<|cX (vI ((U++Y1).length:Nat)) (t:=38) rfl (congrArg (Value.int .i64) (by rw[wq,List.length_append];omega))<|cX (vI ((U++Y1).length+X2.length+Ya.length:Nat)) (t:=43) rfl (congrArg (Value.int .i64) (by rw[wq (n:=_+_),wq,List.length_append];omega))<|ak rfl rfl<|cp (OG tw) aK rfl rfl rfl rfl rfl (Av tw (U++Y1) X2 Ya Yb (X1++V) (by omega) (by simp only[List.length_append];omega) hm (by rw[←eY]at hs;simpa using hs)) ?_;clear hs;rintro g5 _ ai ⟨rfl,hs⟩;replace ar:=G.le.trans ar ai;refine b_<|an<|Wp 4 rfl<|aA<|bJ<|fun a ha=>⟨Y2.length,by omega,Y1,Yb,Ya,X2++X1,g5,rfl,by simpa using hs,ar,by omega,by omega,by omega,by rw[h4,←eY];simp only[List.append_assoc],by omega,ha.keep ⟨rfl,rfl,rfl,rfl,rfl,kJ rfl,kW rfl,trivial⟩⟩
end Go.Proofs.YtbfjdfecgiegpaaGreatDoor
namespace Go.Proofs.YtbfjdfecgiegpaaGreatDoor
open Go Go.K Tryz
set_option maxRecDepth 10000
attribute [local irreducible] W WL cS bh bY bB bA bC cL cD
set_option maxHeartbeats 8000000
theorem K_{α:Type}{k:α→Int×Int}{A B:List α}{x:α}(h1: ∀a∈A,kl k a x=true)(h2: ∀b∈B,kl k b x=false):nb k [x] (A++B)=A++x::B:=by have e:=iI (k:=k) [] A (a2:=[x]) (b2:=B) (by simp) (fun a ha y hy=>by rw[List.mem_singleton.1 hy];exact h1 a ha);have e2:=iI (k:=k) [x] [] (a2:=[]) (b2:=B) (fun y hy b hb=>by rw[List.mem_singleton.1 hy];exact h2 b hb) (by simp);simp only[List.nil_append,List.append_nil]at e e2;rw[e,e2,ir];rfl
theorem QW{n:Int}(h1:0≤n)(h2:n≤9223372036854775807):IntKind.u64.wrap n=n:=by unfold IntKind.wrap;simp[IntKind.bits,IntKind.signed];omega
theorem K'{a b:Nat}(h:a+b≤4000000000):IntKind.i64.wrap (cD .u64 (IntKind.u64.wrap (IntKind.i64.wrap ((a:Int)+(b:Int)))) 1)=(((a+b)/2:Nat):Int):=by
 rw[wq (n:=(a:Int)+b),QW (by omega) (by omega)];have e:cD .u64 ((a:Int)+b) 1=((a+b)/2:Nat):=by unfold cD;simp only[IntKind.bits];rw[show(2:Int)^(min 1 64)=2 from rfl,Int.fdiv_eq_ediv_of_nonneg _ (by omega)];omega
 rw[e,wq]
theorem w9(tw:Bool){fo:Value}{kf:bO→Int×Int}{ad:Option Addr}{n c:Nat}{L:List df}(hm:n≤1000000000): ∀(sz:Nat) (U X Y V:List bO) {g0 g:G},X.length+Y.length=sz→0<X.length→0<Y.length→Bs kf X→Bs kf Y→n=U.length+X.length+Y.length+V.length→Dw fo kf g→St g0 g (fW (mR tw) ad n c (U++X++Y++V)::L)→
  CallsIn Wd 0 prog (S6 tw) #[.slice ad n c,vI (U.length:Nat),vI (U.length+X.length:Nat),vI (U.length+X.length+Y.length:Nat),fo] g.w (db g fun g' r=>r= .tuple #[]∧St g0 g' (fW (mR tw) ad n c (U++nb kf X Y++V)::L)):=by
 cases tw
 case' false=>let tw:=false
 case' true=>let tw:=true
 all_goals
  intro sz
  induction sz using Nat.strongRecOn with
  |_ sz ih=>
  intro U X Y V g0 g cK hX hY P_ Qa hn hk hs;have ar:=G.le.refl g
  first|refine enter func183 rfl ntmps183 rfl ?_|refine enter func235 rfl ntmps235 rfl ?_
  refine az<|aZ rfl ?_;by_cases Df:X.length=1
  ·refine aJ (b:=IntKind.i64.wrap (((U.length+X.length:Nat):Int)-(U.length:Nat))==1) (by rw[wq];simp;omega) rfl ?_;obtain⟨x,rfl⟩:=List.length_eq_one_iff.1 Df;simp only[List.length_singleton]at*;refine aZ rfl<|aZ rfl<|az<|aI ?_
   refine bK (fun m a' w=> ∃(lo hi:Nat) (g':G),w=g'.w∧St g0 g' (fW (mR tw) ad n c (U++[x]++Y++V)::L)∧G.le g g'∧lo≤hi∧hi≤Y.length∧(∀t (h:t<Y.length),t<lo→kl kf Y[t] x=true)∧(∀t (h:t<Y.length),hi≤t→kl kf Y[t] x=false)∧m=hi-lo∧
     Fr 220 [] [(0,.slice ad n c),(1,vI (U.length:Nat)),(2,vI (U.length+1:Nat)),(3,vI (U.length+1+Y.length:Nat)),(4,fo),(10,vI (U.length+1+lo:Nat)),(11,vI (U.length+1+hi:Nat))] a') Y.length
    (fun a' ha=>⟨0,Y.length,g,rfl,hs,ar,by omega,by omega,by intros;omega,by intros;omega,rfl,ha.kp rfl⟩) ?_
   clear hs ar;rintro m a' _ ⟨lo,hi,g',rfl,hs,ar,h1,h2,h3,h4,rfl,dW⟩;revert a';refine ct<|az<|aZ rfl ?_;by_cases bt:lo<hi
   ·refine aJ (b:=decide (((U.length+1+lo:Nat):Int)<((U.length+1+hi:Nat):Int))) (by simp;omega) rfl<|aF<|aq<|aI<|aZ rfl<|az ?_;obtain⟨md,Y7⟩: ∃md,md=(lo+hi)/2:=⟨_,rfl⟩;have Qb:lo≤md:=by omega
    have Y8:md<hi:=by omega
    have BY:md<Y.length:=by omega
    refine rR (l':=[(0,.slice ad n c),(1,vI (U.length:Nat)),(2,vI (U.length+1:Nat)),(3,vI (U.length+1+Y.length:Nat)),(4,fo),(10,vI (U.length+1+lo:Nat)),(11,vI (U.length+1+hi:Nat)),(12,vI (U.length+1+md:Nat))]) ⟨rfl,rfl,rfl,rfl,rfl,rfl,rfl,kI rfl ((K' (by omega)).trans (by omega)),trivial⟩ ?_;obtain⟨b0,p0,rfl⟩: ∃b p,ad=some ⟨b,p,none⟩:=by
     rcases(hs.own 0 _ rfl).1.2 with⟨h0,_⟩|⟨b,off,cap,cur,hv,_⟩
     ·omega
     simp only[Value.slice.injEq]at hv;exact⟨b,off,hv.1⟩
    have gx:(U++[x]++Y++V)[U.length]? =some x:=by simp
    have gy:(U++[x]++Y++V)[U.length+1+md]? =some Y[md]:=by rw[List.append_assoc,List.getElem?_append_right (by simp only[List.length_append,List.length_singleton];omega),List.getElem?_append_left (by simp only[List.length_append,List.length_singleton];omega),List.length_append,List.length_singleton,Nat.add_sub_cancel_left,List.getElem?_eq_getElem BY]
    obtain⟨y,Ik⟩: ∃y,y=Y[md]:=⟨_,rfl⟩;rw[←Ik]at gy;apply bD hs (dn (eF (fe []))) 11 [(10,50)] (by kernel_rfl) rfl
    ·refine pO [[],[],[]] [] hs rfl<|fR [(1,41),(2,42)] (fun gd hf=>aaw rfl (ay rfl (dz (α:=bO) 0 rfl (hs.dr.call hf) rfl (by omega) (by omega) rfl rfl rfl rfl rfl rfl fun b p hb=>⟨gd,rfl,a_.refl _,?_⟩))) ?_
     ·obtain⟨rfl,rfl⟩:b0=b∧p0=p:=by simpa using hb
      rfl
     refine fR [(3,43)] (fun gd hf=>aax rfl (ay rfl (et (α:=bO) 0 rfl (hs.dr.call hf) rfl rfl (j:=U.length+1+md) gy rfl rfl rfl (aav rfl))))<|pO [[],[]] [] hs rfl<|fR [(5,45),(6,46)] (fun gd hf=>aaw rfl (ay rfl (dz (α:=bO) 0 rfl (hs.dr.call hf) rfl (by omega) (by omega) rfl rfl rfl rfl rfl rfl fun b p hb=>⟨gd,rfl,a_.refl _,?_⟩))) ?_
     ·obtain⟨rfl,rfl⟩:b0=b∧p0=p:=by simpa using hb
      rfl
     exact fR [(7,47)] (fun gd hf=>aax rfl (ay rfl (et (α:=bO) 0 rfl (hs.dr.call hf) rfl rfl (j:=U.length) gx rfl rfl rfl (aav rfl))))<|fR [(0,40),(4,44),(8,48)] (fun gd hf=>aay rfl (ay rfl (fb rfl rfl rfl rfl rfl rfl (hk gd (ar.trans ((G.bI _).trans hf.le)) y x) fun g' v h1 h2=>⟨g',rfl,h1,h2⟩)))<|EG [[9]] [] hs rfl
    clear hs;intro g5 hs ai;replace ar:=G.le.trans ar ai;apply b_;cases jG:kl kf y x with
    |true=>
     refine aJ (b:=decide (uo (kf y) (kf x)<0)) (by rw[mB];exact jG) rfl<|an<|Wp 3 rfl<|aA<|bJ<|fun a ha=>⟨hi-(md+1),by omega,md+1,hi,g5,rfl,hs,ar,by omega,h2,?_,h4,rfl,ha.keep ⟨rfl,rfl,rfl,rfl,rfl,kW rfl,rfl,trivial⟩⟩
     rw[Ik]at jG;intro t ht WO;by_cases F4:t=md
     ·subst F4;exact jG
     have:=List.pairwise_iff_getElem.1 Qa t md ht BY (by omega);rw[tN]at jG⊢;rw[iZ]at this;omega
    |false=>
     refine aQ (b:=decide (uo (kf y) (kf x)<0)) (by rw[mB];exact jG) rfl<|an<|Wp 2 rfl<|aA<|bJ<|fun a ha=>⟨md-lo,by omega,lo,md,g5,rfl,hs,ar,by omega,by omega,h3,?_,rfl,ha.kp rfl⟩
     rw[Ik]at jG;intro t ht WO;by_cases F4:t=md
     ·subst F4;exact jG
     have:=List.pairwise_iff_getElem.1 Qa md t BY ht (by omega);rw[iZ]at jG this⊢;omega
   refine aQ (b:=decide (((U.length+1+lo:Nat):Int)<((U.length+1+hi:Nat):Int))) (by simp;omega) rfl<|bc<|bg<|bg<|cA<|aq<|az<|aZ rfl<|aI ?_;obtain rfl:lo=hi:=by omega
   have eY:=List.take_append_drop lo Y;have S_:(Y.take lo).length=lo:=by rw[List.length_take];omega
   have hM:nb kf [x] Y=Y.take lo++x::Y.drop lo:=by
    have e:=K_ (k:=kf) (A:=Y.take lo) (B:=Y.drop lo) (x:=x) (fun a ha=>by
     obtain⟨t,ht,rfl⟩:=List.mem_iff_getElem.1 ha;rw[List.getElem_take];exact h3 _ _ (by omega)) (fun b hb=>by
     obtain⟨t,ht,rfl⟩:=List.mem_iff_getElem.1 hb;rw[List.getElem_drop];exact h4 _ _ (by omega))
    rw[eY]at e;exact e
   have er:U++[x]++Y++V=U++[]++x::(Y.take lo++(Y.drop lo++V)):=by
    conv=>lhs;rw[←eY]
    simp only[List.append_assoc,List.cons_append,List.nil_append]
   rw[er]at hs;rw[hM];have UZ:(Y.drop lo).length=Y.length-lo:=List.length_drop;generalize Y.take lo=Y1 at hs S_;generalize Y.drop lo=Y2 at hs UZ;have QR:(Y2++V).length=Y2.length+V.length:=List.length_append;refine bK (fun m a' w=> ∃(A B:List bO) (g2:G),w=g2.w∧St g0 g2 (fW (mR tw) ad n c (U++A++x::(B++(Y2++V)))::L)∧G.le g g2∧Y1=A++B∧m=B.length∧
     Fr 220 [] [(0,.slice ad n c),(1,vI (U.length:Nat)),(2,vI (U.length+1:Nat)),(3,vI (U.length+1+Y.length:Nat)),(4,fo),(10,vI (U.length+1+lo:Nat)),(13,vI (U.length+A.length:Nat))] a') Y1.length
    (fun a' ha=>⟨[],Y1,g',rfl,hs,ar,by simp,rfl,ha.kp rfl⟩) ?_
   clear hs ar;rintro m a' _ ⟨A,B,g2,rfl,hs,ar,C1,rfl,dW⟩;have tP:A.length+B.length=lo:=by rw[←List.length_append,←C1,S_]
   revert a';refine ct<|az<|aZ rfl ?_;cases B with
   |nil=>
    refine aQ (b:=decide (((U.length+A.length:Nat):Int)<IntKind.i64.wrap (((U.length+1+lo:Nat):Int)-1))) (by rw[wq];simp only[List.length_nil]at tP;simp;omega) rfl<|bc<|bg<|bg<|cA<|aq<|aG (rO rfl (db.intro ar ⟨rfl,?_⟩));rw[C1]
    simpa using hs
   |cons z B=>
    refine aJ (b:=decide (((U.length+A.length:Nat):Int)<IntKind.i64.wrap (((U.length+1+lo:Nat):Int)-1))) (by rw[wq];simp only[List.length_cons]at tP;simp;omega) rfl ?_;simp only[List.length_cons]at tP;obtain⟨b0,p0,rfl⟩: ∃b p,ad=some ⟨b,p,none⟩:=by
     rcases(hs.own 0 _ rfl).1.2 with⟨h0,_⟩|⟨b,off,cap,cur,hv,_⟩
     ·omega
     simp only[Value.slice.injEq]at hv;exact⟨b,off,hv.1⟩
    have ej:U.length+A.length=(U++A).length:=by rw[List.length_append]
    have eN:A++[z]=A++[z]:=rfl;have DA:(U++A)++z::([]++x::(B++(Y2++V)))=U++(A++[z])++x::(B++(Y2++V)):=by simp
    have WQ:U++A++x::(z::B++(Y2++V))=(U++A)++x::([]++z::(B++(Y2++V))):=rfl;rw[WQ]at hs;rw[ej];have K9:(U++A).length=U.length+A.length:=List.length_append;generalize U++A=X at hs K9 DA;have Y5:(X++x::([]++z::(B++(Y2++V)))).length=n:=by rw[List.length_append,K9];simp only[List.length_cons,List.length_append,List.length_nil];omega
    have gx:(X++x::([]++z::(B++(Y2++V))))[X.length]? =some x:=by simp
    have gz:(X++x::([]++z::(B++(Y2++V))))[X.length+1]? =some z:=Au X [] _ x z;refine aF<|aq<|az<|aI ?_
    apply qz (gU (.e (vI (X.length+1:Nat))::eF (.e (vI (X.length+1:Nat))::gU (eF (fe [.f Fact.any]))))) 16 [(2,63),(4,65),(13,74)] [15] [[0,1,5,6,7,8,9,10,11,12,13,14]]
     (fun s=>match s with|0=>fW (mR tw) (some ⟨b0,p0,none⟩) n c (X++x::([]++z::(B++(Y2++V))))::L|_+1=>fW (mR tw) (some ⟨b0,p0,none⟩) n c ((X++x::([]++z::(B++(Y2++V)))).set X.length z)::L) hs (by kernel_rfl) ⟨dq,trivial⟩
    ·refine Lm [[],[],[],[]] [] (by kernel_rfl) rfl<|dx (oX (js:=[(3,64)]) (by kernel_rfl) rfl fun s g' _ _ _ hf _=>aax rfl (ay rfl (aE _ T.ok rfl ⟨g',rfl,a_.refl _,?_⟩))) ?_
     ·exact congrArg (Value.int .i64) (by rw[wq];omega)
     refine Lm [[],[]] [] (by kernel_rfl) rfl<|dx (oX (js:=[(6,67)]) (by kernel_rfl) rfl fun s g' _ _ _ hf _=>aax rfl (ay rfl (aE _ T.ok rfl ⟨g',rfl,a_.refl _,?_⟩))) ?_
     ·exact congrArg (Value.int .i64) (by rw[wq];omega)
     refine dx (lA 0 0 (js:=[(5,66),(7,68)]) (by kernel_rfl) (by kernel_rfl) ?_) ?_
     ·intro s g' _ h1 hf hJ;obtain rfl:s=0:=by omega
      refine aaw rfl (ay rfl (dz (α:=bO) 0 rfl hJ rfl (by omega) (by omega) rfl rfl rfl rfl rfl rfl fun b p hb=>⟨g',rfl,a_.refl _,?_⟩));obtain⟨rfl,rfl⟩:b0=b∧p0=p:=by simpa using hb
      rfl
     refine dx (lA 0 0 (js:=[(8,69)]) (by kernel_rfl) (by kernel_rfl) ?_) ?_
     ·intro s g' _ h1 hf hJ;obtain rfl:s=0:=by omega
      exact aax rfl (ay rfl (et (α:=bO) 0 rfl hJ rfl rfl (j:=X.length+1) gz rfl rfl rfl ⟨g',rfl,a_.refl _,rfl⟩))
     refine Lm [[],[]] [] (by kernel_rfl) rfl<|dx (lA 0 0 (js:=[(10,71),(11,72)]) (by kernel_rfl) (by kernel_rfl) ?_) ?_
     ·intro s g' _ h1 hf hJ;obtain rfl:s=0:=by omega
      refine aaw rfl (ay rfl (dz (α:=bO) 0 rfl hJ rfl (by omega) (by omega) rfl rfl rfl rfl rfl rfl fun b p hb=>⟨g',rfl,a_.refl _,?_⟩));obtain⟨rfl,rfl⟩:b0=b∧p0=p:=by simpa using hb
      rfl
     refine dx (lA 0 0 (js:=[(12,73)]) (by kernel_rfl) (by kernel_rfl) ?_) ?_
     ·intro s g' _ h1 hf hJ;obtain rfl:s=0:=by omega
      exact aax rfl (ay rfl (et (α:=bO) 0 rfl hJ rfl rfl (j:=X.length) gx rfl rfl rfl ⟨g',rfl,a_.refl _,rfl⟩))
     refine dx (lA 0 0 (js:=[(0,61),(1,62),(0,61),(1,62)]) (by kernel_rfl) (by kernel_rfl) ?_) ?_
     ·intro s g' _ h1 hf hJ;obtain rfl:s=0:=by omega
      refine aaH rfl (ay rfl (dz (α:=bO) 0 rfl hJ rfl (by omega) (by omega) rfl rfl rfl rfl rfl rfl fun b p hb=>⟨g',rfl,a_.refl _,?_⟩));obtain⟨rfl,rfl⟩:b0=b∧p0=p:=by simpa using hb
      rfl
     exact dx (wO 0 (js:=[(14,75),(9,70),(9,70)]) (by kernel_rfl) rfl fun g' hf hJ=>aay rfl (rE rfl (gX (α:=bO) 0 rfl hJ rfl rfl rfl (v:=z) (j:=X.length) (by omega) rfl rfl fun g3 hs hle=>⟨g3,rfl,⟨hle,hs⟩,trivial⟩)))<|y9
    clear hs;intro g6 hs ai;replace ar:=G.le.trans ar ai;refine aay rfl<|ak rfl rfl (dz (α:=bO) 0 rfl hs rfl (by omega) (by omega) rfl rfl rfl rfl rfl rfl fun b p hb=>?_);obtain⟨rfl,rfl⟩:b0=b∧p0=p:=by simpa using hb
    refine bu rfl<|gX (α:=bO) 0 rfl hs rfl rfl rfl (v:=x) (j:=X.length+1) (by rw[List.length_set];omega) rfl rfl fun g7 hs ai=>?_;replace ar:=G.le.trans ar ai;replace hs:St g0 g7 (fW (mR tw) (some ⟨b0,p0,none⟩) n c (((X++x::([]++z::(B++(Y2++V)))).set X.length z).set (X.length+1+([]:List bO).length) x)::L):=hs;rw[BX,DA]at hs;exact aA<|bJ<|aq<|an<|Wp 3 rfl<|aA<|fun a ha=>⟨B.length,by simp,A++[z],B,g7,rfl,hs,ar,by rw[C1];simp,rfl,ha.keep ⟨rfl,rfl,rfl,rfl,rfl,rfl,kI rfl (by rw[wq,List.length_append,List.length_singleton];omega),trivial⟩⟩
  refine aQ (b:=IntKind.i64.wrap (((U.length+X.length:Nat):Int)-(U.length:Nat))==1) (by rw[wq];simp;omega) rfl<|aF<|aq<|az<|aZ rfl ?_;by_cases QX:Y.length=1
  ·refine aJ (b:=IntKind.i64.wrap (((U.length+X.length+Y.length:Nat):Int)-(U.length+X.length:Nat))==1) (by rw[wq];simp;omega) rfl ?_;obtain⟨y,rfl⟩:=List.length_eq_one_iff.1 QX;simp only[List.length_singleton]at*;refine aZ rfl<|aZ rfl<|az<|aI ?_
   refine bK (fun m a' w=> ∃(lo hi:Nat) (g':G),w=g'.w∧St g0 g' (fW (mR tw) ad n c (U++X++[y]++V)::L)∧G.le g g'∧lo≤hi∧hi≤X.length∧(∀t (h:t<X.length),t<lo→kl kf y X[t]=false)∧(∀t (h:t<X.length),hi≤t→kl kf y X[t]=true)∧m=hi-lo∧
     Fr 220 [] [(0,.slice ad n c),(1,vI (U.length:Nat)),(2,vI (U.length+X.length:Nat)),(3,vI (U.length+X.length+1:Nat)),(4,fo),(14,vI (U.length+lo:Nat)),(15,vI (U.length+hi:Nat))] a') X.length
    (fun a' ha=>⟨0,X.length,g,rfl,hs,ar,by omega,by omega,by intros;omega,by intros;omega,rfl,ha.kp rfl⟩) ?_
   clear hs ar;rintro m a' _ ⟨lo,hi,g',rfl,hs,ar,h1,h2,h3,h4,rfl,dW⟩;revert a';refine ct<|az<|aZ rfl ?_;by_cases bt:lo<hi
   ·refine aJ (b:=decide (((U.length+lo:Nat):Int)<((U.length+hi:Nat):Int))) (by simp;omega) rfl<|aF<|aq<|aI<|aZ rfl<|az ?_;obtain⟨md,Y7⟩: ∃md,md=(lo+hi)/2:=⟨_,rfl⟩;have Qb:lo≤md:=by omega
    have Y8:md<hi:=by omega
    have BY:md<X.length:=by omega
    refine rR (l':=[(0,.slice ad n c),(1,vI (U.length:Nat)),(2,vI (U.length+X.length:Nat)),(3,vI (U.length+X.length+1:Nat)),(4,fo),(14,vI (U.length+lo:Nat)),(15,vI (U.length+hi:Nat)),(16,vI (U.length+md:Nat))]) ⟨rfl,rfl,rfl,rfl,rfl,rfl,rfl,kI rfl ((K' (by omega)).trans (by omega)),trivial⟩ ?_;obtain⟨b0,p0,rfl⟩: ∃b p,ad=some ⟨b,p,none⟩:=by
     rcases(hs.own 0 _ rfl).1.2 with⟨h0,_⟩|⟨b,off,cap,cur,hv,_⟩
     ·omega
     simp only[Value.slice.injEq]at hv;exact⟨b,off,hv.1⟩
    have gy:(U++X++[y]++V)[U.length+X.length]? =some y:=by rw[List.append_assoc,List.getElem?_append_right (by rw[List.length_append];omega),List.length_append,Nat.sub_self];rfl
    have gx:(U++X++[y]++V)[U.length+md]? =some X[md]:=by rw[List.append_assoc,List.append_assoc,List.getElem?_append_right (by omega),Nat.add_sub_cancel_left,List.getElem?_append_left BY,List.getElem?_eq_getElem BY]
    obtain⟨x,Ik⟩: ∃x,x=X[md]:=⟨_,rfl⟩;rw[←Ik]at gx;apply bD hs (dn (gU [])) 12 [(11,103)] (by kernel_rfl) rfl
    ·refine pO [[],[],[]] [] hs rfl<|fR [(1,93),(2,94)] (fun gd hf=>aaw rfl (ay rfl (dz (α:=bO) 0 rfl (hs.dr.call hf) rfl (by omega) (by omega) rfl rfl rfl rfl rfl rfl fun b p hb=>⟨gd,rfl,a_.refl _,?_⟩))) ?_
     ·obtain⟨rfl,rfl⟩:b0=b∧p0=p:=by simpa using hb
      rfl
     refine fR [(3,95)] (fun gd hf=>aax rfl (ay rfl (et (α:=bO) 0 rfl (hs.dr.call hf) rfl rfl (j:=U.length+X.length) gy rfl rfl rfl (aav rfl))))<|pO [[],[]] [] hs rfl<|fR [(5,97),(6,98)] (fun gd hf=>aaw rfl (ay rfl (dz (α:=bO) 0 rfl (hs.dr.call hf) rfl (by omega) (by omega) rfl rfl rfl rfl rfl rfl fun b p hb=>⟨gd,rfl,a_.refl _,?_⟩))) ?_
     ·obtain⟨rfl,rfl⟩:b0=b∧p0=p:=by simpa using hb
      rfl
     exact fR [(7,99)] (fun gd hf=>aax rfl (ay rfl (et (α:=bO) 0 rfl (hs.dr.call hf) rfl rfl (j:=U.length+md) gx rfl rfl rfl (aav rfl))))<|fR [(0,92),(4,96),(8,100)] (fun gd hf=>aay rfl (ay rfl (fb rfl rfl rfl rfl rfl rfl (hk gd (ar.trans ((G.bI _).trans hf.le)) y x) fun g' v h1 h2=>⟨g',rfl,h1,h2⟩)))<|EG [[9],[10]] [] hs rfl
    clear hs;intro g5 hs ai;replace ar:=G.le.trans ar ai;apply b_;cases jG:kl kf y x with
    |false=>
     refine aJ (b:=!decide (uo (kf y) (kf x)<0)) (by rw[mB,jG];rfl) rfl<|an<|Wp 3 rfl<|aA<|bJ<|fun a ha=>⟨hi-(md+1),by omega,md+1,hi,g5,rfl,hs,ar,by omega,h2,?_,h4,rfl,ha.keep ⟨rfl,rfl,rfl,rfl,rfl,kW rfl,rfl,trivial⟩⟩
     rw[Ik]at jG;intro t ht WO;by_cases F4:t=md
     ·subst F4;exact jG
     have:=List.pairwise_iff_getElem.1 P_ t md ht BY (by omega);rw[iZ]at jG this⊢;omega
    |true=>
     refine aQ (b:=!decide (uo (kf y) (kf x)<0)) (by rw[mB,jG];rfl) rfl<|an<|Wp 2 rfl<|aA<|bJ<|fun a ha=>⟨md-lo,by omega,lo,md,g5,rfl,hs,ar,by omega,by omega,h3,?_,rfl,ha.kp rfl⟩
     rw[Ik]at jG;intro t ht WO;by_cases F4:t=md
     ·subst F4;exact jG
     have:=List.pairwise_iff_getElem.1 P_ md t BY ht (by omega);rw[tN]at jG⊢;rw[iZ]at this;omega
   refine aQ (b:=decide (((U.length+lo:Nat):Int)<((U.length+hi:Nat):Int))) (by simp;omega) rfl<|bc<|bg<|bg<|cA<|aq<|az<|aZ rfl<|aI ?_;obtain rfl:lo=hi:=by omega
   have eX:=List.take_append_drop lo X;have S':(X.take lo).length=lo:=by rw[List.length_take];omega
   have hM:nb kf X [y]=X.take lo++y::X.drop lo:=by
    have e:=KX (k:=kf) (A:=X.take lo) (B:=X.drop lo) (x:=y) (fun a ha=>by
     obtain⟨t,ht,rfl⟩:=List.mem_iff_getElem.1 ha;rw[List.getElem_take];exact h3 _ _ (by omega)) (fun b hb=>by
     obtain⟨t,ht,rfl⟩:=List.mem_iff_getElem.1 hb;rw[List.getElem_drop];exact h4 _ _ (by omega))
    rw[eX]at e;exact e
   have er:U++X++[y]++V=U++X.take lo++X.drop lo++y::([]++V):=by
    conv=>lhs;rw[←eX]
    simp only[List.append_assoc,List.cons_append,List.nil_append]
   rw[er]at hs;rw[hM];have Qc:(X.drop lo).length=X.length-lo:=List.length_drop;generalize X.take lo=X1 at hs S';generalize X.drop lo=X2 at hs Qc;refine bK (fun m a' w=> ∃(A B:List bO) (g2:G),w=g2.w∧St g0 g2 (fW (mR tw) ad n c (U++X1++A++y::(B++V))::L)∧G.le g g2∧X2=A++B∧m=A.length∧
     Fr 220 [] [(0,.slice ad n c),(1,vI (U.length:Nat)),(2,vI (U.length+X.length:Nat)),(3,vI (U.length+X.length+1:Nat)),(4,fo),(14,vI (U.length+lo:Nat)),(17,vI (U.length+lo+A.length:Nat))] a') X2.length
    (fun a' ha=>⟨X2,[],g',rfl,hs,ar,by simp,rfl,ha.keep ⟨rfl,rfl,rfl,rfl,rfl,rfl,kI rfl (by rw[Qc];omega),trivial⟩⟩) ?_
   clear hs ar;rintro m a' _ ⟨A,B,g2,rfl,hs,ar,C1,rfl,dW⟩;have tP:A.length+B.length=X.length-lo:=by rw[←List.length_append,←C1,Qc]
   revert a';rcases List.eq_nil_or_concat A with rfl|⟨A,z,rfl⟩
   ·refine ct<|az<|aZ rfl<|aQ (b:=decide (((U.length+lo:Nat):Int)<((U.length+lo+([]:List bO).length:Nat):Int))) (by simp) rfl<|bc<|bg<|bg<|cA<|aq<|aG (rO rfl (db.intro ar ⟨rfl,?_⟩));rw[C1]
    simpa using hs
   rw[List.concat_eq_append]at*;simp only[List.length_append,List.length_singleton]at tP;obtain⟨b0,p0,rfl⟩: ∃b p,ad=some ⟨b,p,none⟩:=by
    rcases(hs.own 0 _ rfl).1.2 with⟨h0,_⟩|⟨b,off,cap,cur,hv,_⟩
    ·omega
    simp only[Value.slice.injEq]at hv;exact⟨b,off,hv.1⟩
   have WQ:U++X1++(A++[z])++y::(B++V)=(U++X1++A)++z::y::(B++V):=by simp
   rw[WQ]at hs;have K9:(U++X1++A).length=U.length+lo+A.length:=by rw[List.length_append,List.length_append,S']
   have ej:U.length+lo+(A++[z]).length=(U++X1++A).length+1:=by rw[K9,List.length_append];rfl
   rw[ej];generalize hW:U++X1++A=W0 at hs K9;have Y5:(W0++z::y::(B++V)).length=n:=by rw[List.length_append,K9];simp only[List.length_cons,List.length_append];omega
   have gz:(W0++z::y::(B++V))[W0.length]? =some z:=by simp
   have gy:(W0++z::y::(B++V))[W0.length+1]? =some y:=Au W0 [] _ z y;refine ct<|az<|aZ rfl<|aJ (b:=decide (((U.length+lo:Nat):Int)<((W0.length+1:Nat):Int))) (by simp;omega) rfl<|aF<|aq<|az<|aI ?_
   apply qz (gU (.e (vI (W0.length:Nat))::eF (.e (vI (W0.length:Nat))::gU (eF (fe [.f Fact.any]))))) 16 [(2,115),(4,117),(13,126)] [15] [[0,1,5,6,7,8,9,10,11,12,13,14]]
    (fun s=>match s with|0=>fW (mR tw) (some ⟨b0,p0,none⟩) n c (W0++z::y::(B++V))::L|_+1=>fW (mR tw) (some ⟨b0,p0,none⟩) n c ((W0++z::y::(B++V)).set (W0.length+1) z)::L) hs (by kernel_rfl) ⟨dq,trivial⟩
   ·refine Lm [[],[],[],[]] [] (by kernel_rfl) rfl<|dx (oX (js:=[(3,116)]) (by kernel_rfl) rfl fun s g' _ _ _ hf _=>aax rfl (ay rfl (aE _ T.ok rfl ⟨g',rfl,a_.refl _,?_⟩))) ?_
    ·exact congrArg (Value.int .i64) (by rw[wq];omega)
    refine Lm [[],[]] [] (by kernel_rfl) rfl<|dx (oX (js:=[(6,119)]) (by kernel_rfl) rfl fun s g' _ _ _ hf _=>aax rfl (ay rfl (aE _ T.ok rfl ⟨g',rfl,a_.refl _,?_⟩))) ?_
    ·exact congrArg (Value.int .i64) (by rw[wq];omega)
    refine dx (lA 0 0 (js:=[(5,118),(7,120)]) (by kernel_rfl) (by kernel_rfl) ?_) ?_
    ·intro s g' _ h1 hf hJ;obtain rfl:s=0:=by omega
     refine aaw rfl (ay rfl (dz (α:=bO) 0 rfl hJ rfl (by omega) (by omega) rfl rfl rfl rfl rfl rfl fun b p hb=>⟨g',rfl,a_.refl _,?_⟩));obtain⟨rfl,rfl⟩:b0=b∧p0=p:=by simpa using hb
     rfl
    refine dx (lA 0 0 (js:=[(8,121)]) (by kernel_rfl) (by kernel_rfl) ?_) ?_
    ·intro s g' _ h1 hf hJ;obtain rfl:s=0:=by omega
     exact aax rfl (ay rfl (et (α:=bO) 0 rfl hJ rfl rfl (j:=W0.length) gz rfl rfl rfl ⟨g',rfl,a_.refl _,rfl⟩))
    refine Lm [[],[]] [] (by kernel_rfl) rfl<|dx (lA 0 0 (js:=[(10,123),(11,124)]) (by kernel_rfl) (by kernel_rfl) ?_) ?_
    ·intro s g' _ h1 hf hJ;obtain rfl:s=0:=by omega
     refine aaw rfl (ay rfl (dz (α:=bO) 0 rfl hJ rfl (by omega) (by omega) rfl rfl rfl rfl rfl rfl fun b p hb=>⟨g',rfl,a_.refl _,?_⟩));obtain⟨rfl,rfl⟩:b0=b∧p0=p:=by simpa using hb
     rfl
    refine dx (lA 0 0 (js:=[(12,125)]) (by kernel_rfl) (by kernel_rfl) ?_) ?_
    ·intro s g' _ h1 hf hJ;obtain rfl:s=0:=by omega
     exact aax rfl (ay rfl (et (α:=bO) 0 rfl hJ rfl rfl (j:=W0.length+1) gy rfl rfl rfl ⟨g',rfl,a_.refl _,rfl⟩))
    refine dx (lA 0 0 (js:=[(0,113),(1,114),(0,113),(1,114)]) (by kernel_rfl) (by kernel_rfl) ?_) ?_
    ·intro s g' _ h1 hf hJ;obtain rfl:s=0:=by omega
     refine aaH rfl (ay rfl (dz (α:=bO) 0 rfl hJ rfl (by omega) (by omega) rfl rfl rfl rfl rfl rfl fun b p hb=>⟨g',rfl,a_.refl _,?_⟩));obtain⟨rfl,rfl⟩:b0=b∧p0=p:=by simpa using hb
     rfl
    exact dx (wO 0 (js:=[(14,127),(9,122),(9,122)]) (by kernel_rfl) rfl fun g' hf hJ=>aay rfl (rE rfl (gX (α:=bO) 0 rfl hJ rfl rfl rfl (v:=z) (j:=W0.length+1) (by omega) rfl rfl fun g3 hs hle=>⟨g3,rfl,⟨hle,hs⟩,trivial⟩)))<|y9
   clear hs;intro g6 hs ai;replace ar:=G.le.trans ar ai;refine aay rfl<|ak rfl rfl (dz (α:=bO) 0 rfl hs rfl (by omega) (by omega) rfl rfl rfl rfl rfl rfl fun b p hb=>?_);obtain⟨rfl,rfl⟩:b0=b∧p0=p:=by simpa using hb
   refine bu rfl<|gX (α:=bO) 0 rfl hs rfl rfl rfl (v:=y) (j:=W0.length) (by rw[List.length_set];omega) rfl rfl fun g7 hs ai=>?_;replace ar:=G.le.trans ar ai;replace hs:St g0 g7 (fW (mR tw) (some ⟨b0,p0,none⟩) n c (((W0++z::y::(B++V)).set (W0.length+1) z).set W0.length y)::L):=hs;rw[BW,←hW]at hs;exact aA<|bJ<|aq<|an<|Wp 3 rfl<|aA<|fun a ha=>⟨A.length,by simp,A,z::B,g7,rfl,hs,ar,by rw[C1];simp,rfl,ha.keep ⟨rfl,rfl,rfl,rfl,rfl,rfl,kW rfl,trivial⟩⟩
  refine aQ (b:=IntKind.i64.wrap (((U.length+X.length+Y.length:Nat):Int)-(U.length+X.length:Nat))==1) (by rw[wq];simp;omega) rfl<|aF<|aq ?_;(iterate 3 refine aZ rfl ?_);refine az<|aZ rfl ?_;obtain⟨h,hh⟩: ∃h,h=(X.length+Y.length)/2:=⟨_,rfl⟩;have hU:U.length≤1000000000:=by omega
  have F5:IntKind.i64.wrap (cD .u64 (IntKind.u64.wrap (IntKind.i64.wrap (((U.length:Nat):Int)+((U.length+X.length+Y.length:Nat):Int)))) 1)=((U.length+h:Nat):Int):=(K' (by omega)).trans (by omega);refine rR (l':=[(0,.slice ad n c),(1,vI (U.length:Nat)),(2,vI (U.length+X.length:Nat)),(3,vI (U.length+X.length+Y.length:Nat)),(4,fo),(18,vI (U.length+h:Nat)),(19,vI (U.length+h+(U.length+X.length):Nat)),(20,vI 0),(21,vI 0),(140,.bool (decide (((U.length+h:Nat):Int)<((U.length+X.length:Nat):Int))))])
   ⟨rfl,rfl,rfl,rfl,rfl,kI rfl F5,kI rfl ((congrArg (fun z:Int=>IntKind.i64.wrap (z+((U.length+X.length:Nat):Int))) F5).trans (by show IntKind.i64.wrap _=_;rw[wq];omega)),rfl,rfl,congrArg (fun z:Int=>some (Value.bool (decide (z<((U.length+X.length:Nat):Int))))) F5,trivial⟩ ?_
  refine mu (fun a' w=>w=g.w∧ ∃p q,p≤q∧q≤h∧q≤X.length∧h≤p+Y.length∧(∀u v,0<p→X[p-1]? =some u→Y[h-p]? =some v→kl kf v u=false)∧(∀u v,q<h→X[q]? =some u→Y[h-1-q]? =some v→kl kf v u=true)∧
    Fr 220 [] [(0,.slice ad n c),(1,vI (U.length:Nat)),(2,vI (U.length+X.length:Nat)),(3,vI (U.length+X.length+Y.length:Nat)),(4,fo),(18,vI (U.length+h:Nat)),(19,vI (U.length+h+(U.length+X.length):Nat)),(20,vI (U.length+p:Nat)),(21,vI (U.length+q:Nat))] a') ?_ ?_
  ·by_cases aah:h<X.length
   ·exact aJ (b:=decide (((U.length+h:Nat):Int)<((U.length+X.length:Nat):Int))) (by simp;omega) rfl<|aZ rfl<|an<|Wp 2 rfl<|aA<|fun a ha=>⟨rfl,h-Y.length,h,by omega,by omega,by omega,by omega,fun u v _ _ hv=>(by rw[List.getElem?_eq_none (by omega)]at hv;cases hv),fun u v hq=>absurd hq (by omega),ha.keep ⟨rfl,rfl,rfl,rfl,rfl,rfl,rfl,kW rfl,rfl,trivial⟩⟩
   exact aQ (b:=decide (((U.length+h:Nat):Int)<((U.length+X.length:Nat):Int))) (by simp;omega) rfl<|aZ rfl<|an<|Wp 2 rfl<|aA<|fun a ha=>⟨rfl,0,X.length,by omega,by omega,by omega,by omega,fun u v hp=>absurd hp (by omega),fun u v _ hu=>(by rw[List.getElem?_eq_none (by omega)]at hu;cases hu),ha.kp rfl⟩
  rintro a' _ ⟨rfl,p,q,h1,h2,h3,h4,i1,i2,dW⟩;revert a';refine ct<|aZ rfl<|az<|aI ?_;have OH:=ar;refine bK (fun m a' w=> ∃(p q:Nat) (g':G),w=g'.w∧St g0 g' (fW (mR tw) ad n c (U++X++Y++V)::L)∧G.le g g'∧p≤q∧q≤h∧q≤X.length∧h≤p+Y.length∧(∀u v,0<p→X[p-1]? =some u→Y[h-p]? =some v→kl kf v u=false)∧(∀u v,q<h→X[q]? =some u→Y[h-1-q]? =some v→kl kf v u=true)∧m=q-p∧
    Fr 220 [] [(0,.slice ad n c),(1,vI (U.length:Nat)),(2,vI (U.length+X.length:Nat)),(3,vI (U.length+X.length+Y.length:Nat)),(4,fo),(18,vI (U.length+h:Nat)),(19,vI (U.length+h+(U.length+X.length):Nat)),(20,vI (U.length+p:Nat)),(21,vI (U.length+q:Nat)),(22,vI (U.length+h+(U.length+X.length)-1:Nat))] a') (q-p)
   (fun a' ha=>⟨p,q,g,rfl,hs,ar,h1,h2,h3,h4,i1,i2,rfl,ha.keep ⟨rfl,rfl,rfl,rfl,rfl,rfl,rfl,rfl,rfl,kW rfl,trivial⟩⟩) ?_
  clear hs ar i1 i2 h1 h2 h3 h4 p q;rintro m a' _ ⟨p,q,g',rfl,hs,ar,h1,h2,h3,h4,i1,i2,rfl,dW⟩;revert a';refine ct<|az<|aZ rfl ?_;by_cases bt:p<q
  ·refine aJ (b:=decide (((U.length+p:Nat):Int)<((U.length+q:Nat):Int))) (by simp;omega) rfl<|aF<|aq<|aI<|aZ rfl<|az ?_;obtain⟨md,Y7⟩: ∃md,md=(p+q)/2:=⟨_,rfl⟩;have Qb:p≤md:=by omega
   have Y8:md<q:=by omega
   have U0:md<X.length:=by omega
   have BY:h-1-md<Y.length:=by omega
   refine rR (l':=[(0,.slice ad n c),(1,vI (U.length:Nat)),(2,vI (U.length+X.length:Nat)),(3,vI (U.length+X.length+Y.length:Nat)),(4,fo),(18,vI (U.length+h:Nat)),(19,vI (U.length+h+(U.length+X.length):Nat)),(20,vI (U.length+p:Nat)),(21,vI (U.length+q:Nat)),(22,vI (U.length+h+(U.length+X.length)-1:Nat)),(23,vI (U.length+md:Nat))]) ⟨rfl,rfl,rfl,rfl,rfl,rfl,rfl,rfl,rfl,rfl,kI rfl ((K' (by omega)).trans (by omega)),trivial⟩ ?_;obtain⟨b0,p0,rfl⟩: ∃b p,ad=some ⟨b,p,none⟩:=by
    rcases(hs.own 0 _ rfl).1.2 with⟨h0,_⟩|⟨b,off,cap,cur,hv,_⟩
    ·omega
    simp only[Value.slice.injEq]at hv;exact⟨b,off,hv.1⟩
   have gx:(U++X++Y++V)[U.length+md]? =some X[md]:=by rw[List.append_assoc,List.append_assoc,List.getElem?_append_right (by omega),Nat.add_sub_cancel_left,List.getElem?_append_left U0,List.getElem?_eq_getElem U0]
   have gy:(U++X++Y++V)[U.length+X.length+(h-1-md)]? =some Y[h-1-md]:=by rw[List.append_assoc,List.getElem?_append_right (by rw[List.length_append];omega),List.length_append,Nat.add_sub_cancel_left,List.getElem?_append_left BY,List.getElem?_eq_getElem BY]
   obtain⟨x,OI⟩: ∃x,x=X[md]:=⟨_,rfl⟩;obtain⟨y,Ik⟩: ∃y,y=Y[h-1-md]:=⟨_,rfl⟩;rw[←OI]at gx;rw[←Ik]at gy;apply bD hs (gU (.e (vI (U.length+X.length+(h-1-md):Nat))::dn (fe []))) 14 [(13,171)] (by kernel_rfl) rfl
   ·refine pO [[],[],[],[]] [] hs rfl<|fR [(2,160),(3,161)] (fun gd hf=>aaw rfl (ay rfl (aE _ T.ok rfl ⟨gd,rfl,a_.refl _,?_⟩))) ?_
    ·exact congrArg (Value.int .i64) (by rw[wq];omega)
    refine fR [(1,159),(4,162)] (fun gd hf=>aaw rfl (ay rfl (dz (α:=bO) 0 rfl (hs.dr.call hf) rfl (by omega) (by omega) rfl rfl rfl rfl rfl rfl fun b p hb=>⟨gd,rfl,a_.refl _,?_⟩))) ?_
    ·obtain⟨rfl,rfl⟩:b0=b∧p0=p:=by simpa using hb
     rfl
    refine fR [(5,163)] (fun gd hf=>aax rfl (ay rfl (et (α:=bO) 0 rfl (hs.dr.call hf) rfl rfl (j:=U.length+X.length+(h-1-md)) gy rfl rfl rfl (aav rfl))))<|pO [[],[]] [] hs rfl<|fR [(7,165),(8,166)] (fun gd hf=>aaw rfl (ay rfl (dz (α:=bO) 0 rfl (hs.dr.call hf) rfl (by omega) (by omega) rfl rfl rfl rfl rfl rfl fun b p hb=>⟨gd,rfl,a_.refl _,?_⟩))) ?_
    ·obtain⟨rfl,rfl⟩:b0=b∧p0=p:=by simpa using hb
     rfl
    exact fR [(9,167)] (fun gd hf=>aax rfl (ay rfl (et (α:=bO) 0 rfl (hs.dr.call hf) rfl rfl (j:=U.length+md) gx rfl rfl rfl (aav rfl))))<|fR [(0,158),(6,164),(10,168)] (fun gd hf=>aay rfl (ay rfl (fb rfl rfl rfl rfl rfl rfl (hk gd (ar.trans ((G.bI _).trans hf.le)) y x) fun g' v h1 h2=>⟨g',rfl,h1,h2⟩)))<|EG [[11],[12]] [] hs rfl
   clear hs;intro g5 hs ai;replace ar:=G.le.trans ar ai;apply b_;cases jG:kl kf y x with
   |false=>
    refine aJ (b:=!decide (uo (kf y) (kf x)<0)) (by rw[mB,jG];rfl) rfl<|an<|Wp 3 rfl<|aA<|bJ<|fun a ha=>⟨q-(md+1),by omega,md+1,q,g5,rfl,hs,ar,by omega,h2,h3,by omega,?_,i2,rfl,ha.keep ⟨rfl,rfl,rfl,rfl,rfl,rfl,rfl,kW rfl,rfl,rfl,trivial⟩⟩
    intro u v _ hu hv;rw[Nat.add_sub_cancel,List.getElem?_eq_getElem U0]at hu;rw[show h-(md+1)=h-1-md from by omega,List.getElem?_eq_getElem BY]at hv;obtain rfl:=Option.some.inj hu;obtain rfl:=Option.some.inj hv;rw[OI,Ik]at jG;exact jG
   |true=>
    refine aQ (b:=!decide (uo (kf y) (kf x)<0)) (by rw[mB,jG];rfl) rfl<|an<|Wp 2 rfl<|aA<|bJ<|fun a ha=>⟨md-p,by omega,p,md,g5,rfl,hs,ar,by omega,by omega,by omega,h4,i1,?_,rfl,ha.kp rfl⟩
    intro u v _ hu hv;rw[List.getElem?_eq_getElem U0]at hu;rw[List.getElem?_eq_getElem BY]at hv;obtain rfl:=Option.some.inj hu;obtain rfl:=Option.some.inj hv;rw[OI,Ik]at jG;exact jG
  refine aQ (b:=decide (((U.length+p:Nat):Int)<((U.length+q:Nat):Int))) (by simp;omega) rfl ?_;obtain rfl:p=q:=by omega
  have eX:=List.take_append_drop p X;have eY:=List.take_append_drop (h-p) Y;have S':(X.take p).length=p:=by rw[List.length_take];omega
  have Qc:(X.drop p).length=X.length-p:=List.length_drop;have S_:(Y.take (h-p)).length=h-p:=by rw[List.length_take];omega
  have UZ:(Y.drop (h-p)).length=Y.length-(h-p):=List.length_drop;have c1: ∀x∈X.take p,∀y∈Y.drop (h-p),kl kf y x=false:=by
   intro x hx y hy;obtain⟨t,ht,rfl⟩:=List.mem_iff_getElem.1 hx;obtain⟨u,hu,rfl⟩:=List.mem_iff_getElem.1 hy;rw[S']at ht;rw[UZ]at hu;rw[List.getElem_take,List.getElem_drop];have e:=i1 _ _ (by omega) (List.getElem?_eq_getElem (by omega:p-1<X.length)) (List.getElem?_eq_getElem (by omega:h-p<Y.length));have ex:kl kf X[p-1] X[t]=false:=by
    by_cases F4:t=p-1
    ·subst F4;rw[iZ];omega
    exact List.pairwise_iff_getElem.1 P_ t (p-1) (by omega) (by omega) (by omega)
   have ey:kl kf Y[h-p+u] Y[h-p]=false:=by
    by_cases WR:u=0
    ·subst WR;rw[iZ];simp
    exact List.pairwise_iff_getElem.1 Qa (h-p) (h-p+u) (by omega) (by omega) (by omega)
   rw[iZ]at e ex ey⊢;omega
  have c2: ∀y∈Y.take (h-p),∀x∈X.drop p,kl kf y x=true:=by
   intro y hy x hx;obtain⟨t,ht,rfl⟩:=List.mem_iff_getElem.1 hx;obtain⟨u,hu,rfl⟩:=List.mem_iff_getElem.1 hy;rw[Qc]at ht;rw[S_]at hu;rw[List.getElem_take,List.getElem_drop];have e:=i2 _ _ (by omega) (List.getElem?_eq_getElem (by omega:p<X.length)) (List.getElem?_eq_getElem (by omega:h-1-p<Y.length));have ex:kl kf X[p+t] X[p]=false:=by
    by_cases F4:t=0
    ·subst F4;rw[iZ];simp
    exact List.pairwise_iff_getElem.1 P_ p (p+t) (by omega) (by omega) (by omega)
   have ey:kl kf Y[h-1-p] Y[u]=false:=by
    by_cases WR:u=h-1-p
    ·subst WR;rw[iZ];omega
    exact List.pairwise_iff_getElem.1 Qa u (h-1-p) (by omega) (by omega) (by omega)
   rw[tN]at e⊢;rw[iZ]at ex ey;omega
  have hM:=iI (X.take p) (Y.take (h-p)) c1 c2;rw[eX,eY]at hM;(repeat (first|refine bc ?_|with_reducible refine bg ?_|with_reducible refine cA ?_|with_reducible refine aq ?_));have Y9:Bs kf (X.take p):=P_.sublist (List.take_sublist ..);have Y_:Bs kf (X.drop p):=P_.sublist (List.drop_sublist ..);have Y':Bs kf (Y.take (h-p)):=Qa.sublist (List.take_sublist ..);have Za:Bs kf (Y.drop (h-p)):=Qa.sublist (List.drop_sublist ..);have er:U++X++Y++V=U++X.take p++X.drop p++Y.take (h-p)++(Y.drop (h-p)++V):=by
   conv=>lhs;rw[←eX,←eY]
   simp only[List.append_assoc]
  rw[er]at hs;rw[hM];clear c1 c2 eX eY i1 i2 hM er;generalize X.take p=X1 at hs S' Y9;generalize X.drop p=X2 at hs Qc Y_;generalize Y.take (h-p)=Y1 at hs S_ Y';generalize Y.drop (h-p)=Y2 at hs UZ Za;refine aZ rfl<|rR (l':=[(0,.slice ad n c),(1,vI (U.length:Nat)),(2,vI (U.length+X.length:Nat)),(3,vI (U.length+X.length+Y.length:Nat)),(4,fo),(18,vI (U.length+h:Nat)),(20,vI (U.length+p:Nat)),(24,vI (U.length+X.length+(h-p):Nat))]) ⟨rfl,rfl,rfl,rfl,rfl,rfl,rfl,kW rfl,trivial⟩<|az<|mu (fun a' w=> ∃g',w=g'.w∧St g0 g' (fW (mR tw) ad n c (U++X1++Y1++(X2++Y2++V))::L)∧G.le g g'∧Fr 220 [] [(0,.slice ad n c),(1,vI (U.length:Nat)),(2,vI (U.length+X.length:Nat)),(3,vI (U.length+X.length+Y.length:Nat)),(4,fo),(18,vI (U.length+h:Nat)),(20,vI (U.length+p:Nat)),(24,vI (U.length+X.length+(h-p):Nat))] a') ?_ ?_
  ·by_cases hp:p<X.length
   ·refine az<|an<|Wp 4 rfl<|cX (.bool true) (t:=181) rfl (congrArg Value.bool (by simp;omega))<|aX rfl ?_;by_cases hq:0<h-p
    ·refine aJ (b:=decide (((U.length+X.length:Nat):Int)<((U.length+X.length+(h-p):Nat):Int))) (by simp;omega) rfl<|an<|Wp 5 rfl<|cX (vI ((U++X1).length:Nat)) (t:=187) rfl (congrArg (Value.int .i64) (by rw[List.length_append];omega))<|cX (vI ((U++X1).length+X2.length:Nat)) (t:=188) rfl (congrArg (Value.int .i64) (by rw[List.length_append];omega))<|cX (vI ((U++X1).length+X2.length+Y1.length:Nat)) (t:=189) rfl (congrArg (Value.int .i64) (by rw[List.length_append];omega))<|ak rfl rfl<|cp (WK tw) aK rfl rfl rfl rfl rfl (Ij tw (U++X1) X2 Y1 (Y2++V) (by omega) (by omega) (by simp only[List.length_append];omega) hm hs) ?_;clear hs;rintro g6 _ ai ⟨rfl,hs⟩;replace ar:=G.le.trans ar ai;exact aA<|fun a ha=>⟨g6,rfl,by simpa using hs,ar,ha.kp rfl⟩
    refine aQ (b:=decide (((U.length+X.length:Nat):Int)<((U.length+X.length+(h-p):Nat):Int))) (by simp;omega) rfl<|aF ?_;obtain rfl:Y1=[]:=List.length_eq_zero_iff.1 (by omega);exact fun a ha=>⟨g',rfl,by simpa using hs,ar,ha.kp rfl⟩
   refine az<|an<|Wp 4 rfl<|cX (.bool false) (t:=181) rfl (congrArg Value.bool (by simp;omega))<|aX rfl<|aar rfl<|aF ?_;obtain rfl:X2=[]:=List.length_eq_zero_iff.1 (by omega);exact fun a ha=>⟨g',rfl,by simpa using hs,ar,ha.kp rfl⟩
  clear hs ar;rintro a' _ ⟨g7,rfl,hs,ar,dW⟩;revert a';refine ct<|az<|mu (fun a' w=> ∃g',w=g'.w∧St g0 g' (fW (mR tw) ad n c (U++nb kf X1 Y1++(X2++Y2++V))::L)∧G.le g g'∧Fr 220 [] [(0,.slice ad n c),(1,vI (U.length:Nat)),(2,vI (U.length+X.length:Nat)),(3,vI (U.length+X.length+Y.length:Nat)),(4,fo),(18,vI (U.length+h:Nat)),(20,vI (U.length+p:Nat)),(24,vI (U.length+X.length+(h-p):Nat))] a') ?_ ?_
  ·by_cases hp:0<p
   ·refine az<|an<|Wp 4 rfl<|cX (.bool true) (t:=195) rfl (congrArg Value.bool (by simp;omega))<|aX rfl ?_;by_cases hq:p<h
    ·refine aJ (b:=decide (((U.length+p:Nat):Int)<((U.length+h:Nat):Int))) (by simp;omega) rfl<|an<|Wp 5 rfl<|cX (vI (U.length+X1.length:Nat)) (t:=202) rfl (congrArg (Value.int .i64) (by omega))<|cX (vI (U.length+X1.length+Y1.length:Nat)) (t:=203) rfl (congrArg (Value.int .i64) (by omega))<|ak rfl rfl<|cp (K8 tw) aK rfl rfl rfl rfl rfl (ih (X1.length+Y1.length) (by omega) U X1 Y1 (X2++Y2++V) rfl (by omega) (by omega) Y9 Y' (by simp only[List.length_append];omega) (hk.mono ar) hs) ?_;clear hs;rintro g6 _ ai ⟨rfl,hs⟩;replace ar:=G.le.trans ar ai;exact aA<|fun a ha=>⟨g6,rfl,hs,ar,ha.kp rfl⟩
    refine aQ (b:=decide (((U.length+p:Nat):Int)<((U.length+h:Nat):Int))) (by simp;omega) rfl<|aF ?_;obtain rfl:Y1=[]:=List.length_eq_zero_iff.1 (by omega);exact fun a ha=>⟨g7,rfl,by simpa [ir]using hs,ar,ha.kp rfl⟩
   refine az<|an<|Wp 4 rfl<|cX (.bool false) (t:=195) rfl (congrArg Value.bool (by simp;omega))<|aX rfl<|aar rfl<|aF ?_;obtain rfl:X1=[]:=List.length_eq_zero_iff.1 (by omega);exact fun a ha=>⟨g7,rfl,by simpa [nb]using hs,ar,ha.kp rfl⟩
  clear hs ar;rintro a' _ ⟨g8,rfl,hs,ar,dW⟩;revert a';apply ct;have lM:(nb kf X1 Y1).length=X1.length+Y1.length:=by rw[(pB (k:=kf) X1 Y1).length_eq,List.length_append]
  generalize nb kf X1 Y1=M1 at hs lM;by_cases hp:p<X.length
  ·refine az<|an<|Wp 4 rfl<|cX (.bool true) (t:=209) rfl (congrArg Value.bool (by simp;omega))<|aX rfl ?_;by_cases hq:h-p<Y.length
   ·refine aJ (b:=decide (((U.length+X.length+(h-p):Nat):Int)<((U.length+X.length+Y.length:Nat):Int))) (by simp;omega) rfl<|an<|Wp 5 rfl<|cX (vI ((U++M1).length:Nat)) (t:=215) rfl (congrArg (Value.int .i64) (by rw[List.length_append];omega))<|cX (vI ((U++M1).length+X2.length:Nat)) (t:=216) rfl (congrArg (Value.int .i64) (by rw[List.length_append];omega))<|cX (vI ((U++M1).length+X2.length+Y2.length:Nat)) (t:=217) rfl (congrArg (Value.int .i64) (by rw[List.length_append];omega))<|ak rfl rfl<|cp (K8 tw) aK rfl rfl rfl rfl rfl (ih (X2.length+Y2.length) (by omega) (U++M1) X2 Y2 V rfl (by omega) (by omega) Y_ Za (by simp only[List.length_append];omega) (hk.mono ar) (by simpa using hs)) ?_;clear hs;rintro g6 _ ai ⟨rfl,hs⟩;replace ar:=G.le.trans ar ai;exact aA<|lC rfl (db.intro ar ⟨rfl,by simpa using hs⟩)
   refine aQ (b:=decide (((U.length+X.length+(h-p):Nat):Int)<((U.length+X.length+Y.length:Nat):Int))) (by simp;omega) rfl<|aF ?_;obtain rfl:Y2=[]:=List.length_eq_zero_iff.1 (by omega);exact lC rfl (db.intro ar ⟨rfl,by simpa [ir]using hs⟩)
  refine az<|an<|Wp 4 rfl<|cX (.bool false) (t:=209) rfl (congrArg Value.bool (by simp;omega))<|aX rfl<|aar rfl<|aF ?_;obtain rfl:X2=[]:=List.length_eq_zero_iff.1 (by omega);exact lC rfl (db.intro ar ⟨rfl,by simpa [nb]using hs⟩)
end Go.Proofs.YtbfjdfecgiegpaaGreatDoor
namespace Go.Proofs.YtbfjdfecgiegpaaGreatDoor
open Go Go.K Tryz
set_option maxRecDepth 10000
attribute [local irreducible] W WL cS bh bY bB bA bC cL cD
set_option maxHeartbeats 8000000
def vJ{α:Type}(k:α→Int×Int)(B:Nat):Nat→List α→List α
 |0,l=>dC k l
 |n+1,l=>dC k (l.take B)++vJ k B n (l.drop B)
def bk{α:Type}(k:α→Int×Int)(B:Nat)(l:List α):List α:=vJ k B (l.length/B) l
theorem sV{α:Type}{k:α→Int×Int}{B:Nat}{l:List α}(h:l.length<B):bk k B l=dC k l:=by unfold bk;rw[Nat.div_eq_of_lt h];rfl
theorem qG{α:Type}{k:α→Int×Int}{B:Nat}{l:List α}(h0:0<B)(h:B≤l.length):bk k B l=dC k (l.take B)++bk k B (l.drop B):=by unfold bk;rw[List.length_drop,Nat.div_eq_sub_div h0 h];rfl
theorem Il{α:Type}{k:α→Int×Int}{B:Nat}{l:List α}(h0:0<B)(h:l.length≤B):bk k B l=dC k l:=by
 rcases Nat.lt_or_ge l.length B with h1|h1
 ·exact sV h1
 rw[qG h0 h1,List.take_of_length_le h,List.drop_of_length_le h,sV (by simpa using h0)];simp[dC]
theorem fG{α:Type}{k:α→Int×Int}(l:List α):(dC k l).length=l.length:=(iJ l).length_eq
theorem EN{α:Type}{k:α→Int×Int}{B:Nat}: ∀(n:Nat) (l:List α),(vJ k B n l).length=l.length
 |0,l=>fG l
 |n+1,l=>by show(dC k (l.take B)++vJ k B n (l.drop B)).length=_;rw[List.length_append,fG,EN n,List.length_take,List.length_drop];omega
theorem OJ{α:Type}{k:α→Int×Int}{B:Nat}(l:List α):(bk k B l).length=l.length:=EN _ l
theorem Im(tw:Bool){fo:Value}{kf:bO→Int×Int}{ad:Option Addr}{n c:Nat}{L:List df}(Z:List bO){g0 g:G}(hn:Z.length=n)(hm:n≤1000000000)(hk:Dw fo kf g)(hs:St g0 g (fW (mR tw) ad n c Z::L)):
  CallsIn Wd 0 prog (S7 tw) #[.slice ad n c,vI (n:Nat),fo] g.w (db g fun g' r=>r= .tuple #[]∧St g0 g' (fW (mR tw) ad n c (dC kf Z)::L)):=by
 cases tw
 case' false=>let tw:=false
 case' true=>let tw:=true
 all_goals
  have ar:=G.le.refl g
  first|refine enter func120 rfl ntmps120 rfl ?_|refine enter func184 rfl ntmps184 rfl ?_
  refine aZ rfl<|aZ rfl<|az<|aI ?_
  refine bK (fun m a' w=> ∃(X Y:List bO) (g':G),w=g'.w∧St g0 g' (fW (mR tw) ad n c (X++Y)::L)∧G.le g g'∧X++bk kf 20 Y=bk kf 20 Z∧X.length+Y.length=n∧m=Y.length∧
    Fr 63 [] [(0,.slice ad n c),(1,vI (n:Nat)),(2,fo),(6,vI 20),(7,vI (X.length:Nat)),(8,vI (X.length+20:Nat))] a') n
   (fun a' ha=>⟨[],Z,g,rfl,hs,ar,rfl,by simpa using hn,hn.symm,ha.kp rfl⟩) ?_
  clear hs ar;rintro m a' _ ⟨X,Y,g',rfl,hs,ar,h1,h2,rfl,dW⟩;revert a';refine ct<|az<|aZ rfl ?_;by_cases bt:20≤Y.length
  ·refine aJ (b:=decide (((X.length+20:Nat):Int)≤((n:Nat):Int))) (by simp;omega) rfl<|aF<|aq<|aI<|cG 4 rfl ?_;have hS:(Y.take 20).length=20:=by rw[List.length_take];omega
   have hV:(Y.drop 20).length=Y.length-20:=List.length_drop;refine cX (vI (X.length+(Y.take 20).length:Nat)) (t:=16) rfl (congrArg (Value.int .i64) (by rw[hS]))<|ak rfl rfl<|cp (S3 tw) aK rfl rfl rfl rfl rfl (Ng tw X (Y.take 20) (Y.drop 20) (by omega) hm (hk.mono ar) (by rw[List.append_assoc,List.take_append_drop];exact hs)) ?_;clear hs;rintro g5 _ ai ⟨rfl,hs⟩;replace ar:=G.le.trans ar ai;refine b_<|aZ rfl<|an<|Wp 4 rfl<|aA<|bJ ?_;rw[qG (by decide) bt]at h1;have hl:=fG (k:=kf) (Y.take 20);exact fun a ha=>⟨(Y.drop 20).length,by omega,X++dC kf (Y.take 20),Y.drop 20,g5,rfl,hs,ar,by rw[List.append_assoc];exact h1,by rw[List.length_append];omega,rfl,ha.keep ⟨rfl,rfl,rfl,rfl,kI rfl (by rw[List.length_append];omega),kI rfl (by rw[wq,List.length_append];omega),trivial⟩⟩
  refine aQ (b:=decide (((X.length+20:Nat):Int)≤((n:Nat):Int))) (by simp;omega) rfl<|bc<|bg<|bg<|cA<|aq<|cG 4 rfl<|cX (vI (X.length+Y.length:Nat)) (t:=25) rfl (congrArg (Value.int .i64) (by rw[h2]))<|ak rfl rfl<|cp (S3 tw) aK rfl rfl rfl rfl rfl (Ng tw X Y [] (by simpa using h2.symm) hm (hk.mono ar) (by rw[List.append_nil];exact hs)) ?_;clear hs;rintro g5 _ ai ⟨rfl,hs⟩;replace ar:=G.le.trans ar ai;rw[List.append_nil,←sV (k:=kf) (B:=20) (l:=Y) (by omega),h1]at hs;clear h1 h2 bt;refine b_<|aI ?_
  refine bK (fun m a' w=> ∃(B:Nat) (g':G),w=g'.w∧St g0 g' (fW (mR tw) ad n c (bk kf B Z)::L)∧G.le g g'∧1≤B∧B≤2000000000∧m=n-B∧
    Fr 63 [] [(0,.slice ad n c),(1,vI (n:Nat)),(2,fo),(6,vI (B:Nat))] a') (n-20)
   (fun a' ha=>⟨20,g5,rfl,hs,ar,by omega,by omega,rfl,ha.kp rfl⟩) ?_
  clear hs ar;rintro m a' _ ⟨B,g',rfl,hs,ar,hB,SV,rfl,dW⟩;revert a';refine ct<|az<|aZ rfl ?_;by_cases bt:B<n
  ·refine aJ (b:=decide (((B:Nat):Int)<((n:Nat):Int))) (by simp;omega) rfl<|aF<|aq<|aI<|aZ rfl<|az<|aI ?_
   refine bK (fun m a' w=> ∃(X Y:List bO) (g':G),w=g'.w∧St g0 g' (fW (mR tw) ad n c (X++bk kf B Y)::L)∧G.le g g'∧X++bk kf (2*B) Y=bk kf (2*B) Z∧X.length+Y.length=n∧m=Y.length∧
     Fr 63 [] [(0,.slice ad n c),(1,vI (n:Nat)),(2,fo),(6,vI (B:Nat)),(7,vI (X.length:Nat)),(8,vI (X.length+2*B:Nat))] a') n
    (fun a' ha=>⟨[],Z,g',rfl,hs,ar,rfl,by simpa using hn,hn.symm,ha.keep ⟨rfl,rfl,rfl,rfl,rfl,kI rfl (by rw[wq];simp),trivial⟩⟩) ?_
   clear hs ar;rintro m a' _ ⟨X,Y,g',rfl,hs,ar,h1,h2,rfl,dW⟩;revert a';refine ct<|az<|aZ rfl ?_;by_cases hle:2*B≤Y.length
   ·refine aJ (b:=decide (((X.length+2*B:Nat):Int)≤((n:Nat):Int))) (by simp;omega) rfl<|aF<|aq<|aI<|cG 7 rfl ?_;have l1:(Y.take B).length=B:=by rw[List.length_take];omega
    have l2:((Y.drop B).take B).length=B:=by rw[List.length_take,List.length_drop];omega
    have l3:(Y.drop (2*B)).length=Y.length-2*B:=List.length_drop;rw[qG (by omega) (by omega),qG (l:=Y.drop B) (by omega) (by rw[List.length_drop];omega),List.drop_drop,show B+B=2*B from by omega,←List.append_assoc,←List.append_assoc]at hs;rw[qG (by omega) hle]at h1;have e1:dC kf (Y.take (2*B))=nb kf (dC kf (Y.take B)) (dC kf ((Y.drop B).take B)):=by rw[←pA,show 2*B=B+B from by omega,List.take_add]
    have m1:=fG (k:=kf) (Y.take B);have m2:=fG (k:=kf) ((Y.drop B).take B);have s1:=jJ (k:=kf) (Y.take B);have s2:=jJ (k:=kf) ((Y.drop B).take B);have m4:=OJ (k:=kf) (B:=B) (Y.drop (2*B));generalize dC kf (Y.take B)=XA at hs e1 m1 s1;generalize dC kf ((Y.drop B).take B)=XB at hs e1 m2 s2;refine cX (vI (X.length+XA.length:Nat)) (t:=40) rfl (congrArg (Value.int .i64) (by rw[wq];omega))<|cX (vI (X.length+XA.length+XB.length:Nat)) (t:=41) rfl (congrArg (Value.int .i64) (by omega))<|ak rfl rfl<|cp (K8 tw) aK rfl rfl rfl rfl rfl (w9 tw hm _ X XA XB _ rfl (by omega) (by omega) s1 s2 (by omega) (hk.mono ar) hs) ?_;clear hs;rintro g6 _ ai ⟨rfl,hs⟩;replace ar:=G.le.trans ar ai;refine b_<|aZ rfl<|an<|Wp 5 rfl<|aA<|bJ ?_;rw[←e1]at hs;have m3:=fG (k:=kf) (Y.take (2*B));have l4:(Y.take (2*B)).length=2*B:=by rw[List.length_take];omega
    exact fun a ha=>⟨(Y.drop (2*B)).length,by omega,X++dC kf (Y.take (2*B)),Y.drop (2*B),g6,rfl,hs,ar,by rw[List.append_assoc];exact h1,by rw[List.length_append];omega,rfl,ha.keep ⟨rfl,rfl,rfl,rfl,kI rfl (by rw[List.length_append];omega),kI rfl (by rw[wq (n:=2*_),wq,List.length_append];omega),trivial⟩⟩
   refine aQ (b:=decide (((X.length+2*B:Nat):Int)≤((n:Nat):Int))) (by simp;omega) rfl<|bc<|bg<|bg<|cA<|aq<|az<|aZ rfl<|aZ rfl ?_;rw[sV (by omega)]at h1;by_cases FP:B<Y.length
   ·refine aJ (b:=decide (IntKind.i64.wrap (((X.length:Nat):Int)+((B:Nat):Int))<((n:Nat):Int))) (by rw[wq];simp;omega) rfl<|an<|Wp 5 rfl ?_;have l1:(Y.take B).length=B:=by rw[List.length_take];omega
    have l2:(Y.drop B).length=Y.length-B:=List.length_drop;rw[qG (by omega) (by omega),sV (l:=Y.drop B) (by omega),←List.append_assoc]at hs;have e1:dC kf Y=nb kf (dC kf (Y.take B)) (dC kf (Y.drop B)):=by rw[←pA,List.take_append_drop]
    have m1:=fG (k:=kf) (Y.take B);have m2:=fG (k:=kf) (Y.drop B);have s1:=jJ (k:=kf) (Y.take B);have s2:=jJ (k:=kf) (Y.drop B);generalize dC kf (Y.take B)=XA at hs e1 m1 s1;generalize dC kf (Y.drop B)=XB at hs e1 m2 s2;refine cX (vI (X.length+XA.length:Nat)) (t:=57) rfl (congrArg (Value.int .i64) (by rw[wq];omega))<|cX (vI (X.length+XA.length+XB.length:Nat)) (t:=58) rfl (congrArg (Value.int .i64) (by omega))<|ak rfl rfl<|cp (K8 tw) aK rfl rfl rfl rfl rfl (w9 tw hm _ X XA XB [] rfl (by omega) (by omega) s1 s2 (by simp only[List.length_nil];omega) (hk.mono ar) (by rw[List.append_nil];exact hs)) ?_;clear hs;rintro g6 _ ai ⟨rfl,hs⟩;replace ar:=G.le.trans ar ai;refine b_<|an<|Wp 3 rfl<|aA<|bJ ?_;rw[←e1,List.append_nil,h1]at hs;exact fun a ha=>⟨n-2*B,by omega,2*B,g6,rfl,hs,ar,by omega,by omega,rfl,ha.keep ⟨rfl,rfl,rfl,kW rfl,trivial⟩⟩
   refine aQ (b:=decide (IntKind.i64.wrap (((X.length:Nat):Int)+((B:Nat):Int))<((n:Nat):Int))) (by rw[wq];simp;omega) rfl<|aF<|aq<|an<|Wp 3 rfl<|aA<|bJ ?_;rw[Il (by omega) (by omega),h1]at hs;exact fun a ha=>⟨n-2*B,by omega,2*B,g',rfl,hs,ar,by omega,by omega,rfl,ha.keep ⟨rfl,rfl,rfl,kW rfl,trivial⟩⟩
  refine aQ (b:=decide (((B:Nat):Int)<((n:Nat):Int))) (by simp;omega) rfl<|bc<|bg<|bg<|cA ?_;rw[Il (by omega) (by omega)]at hs;exact lC rfl (db.intro ar ⟨rfl,hs⟩)
theorem zk(tw:Bool){fo:Value}{kf:bO→Int×Int}{ad:Option Addr}{n c:Nat}{L:List df}(Z:List bO){g0 g:G}(hn:Z.length=n)(hm:n≤1000000000)(hk:Dw fo kf g)(hs:St g0 g (fW (mR tw) ad n c Z::L)):
  CallsIn Wd 0 prog (S8 tw) #[.slice ad n c,fo] g.w (db g fun g' r=>r= .tuple #[]∧St g0 g' (fW (mR tw) ad n c (dC kf Z)::L)):=by
 cases tw
 case' false=>let tw:=false
 case' true=>let tw:=true
 all_goals
  have ar:=G.le.refl g
  first|refine enter func61 rfl ntmps61 rfl ?_|refine enter func126 rfl ntmps126 rfl ?_
  refine an<|Wp 4 rfl<|ak rfl rfl<|cp (WM tw) aK rfl rfl rfl rfl rfl (Im tw Z hn hm hk hs) ?_;clear hs;rintro g6 _ ai ⟨rfl,hs⟩;replace ar:=G.le.trans ar ai;exact aA<|lC rfl (db.intro ar ⟨rfl,hs⟩)
theorem Io{fi:Nat}{kf:bO→Int×Int}{ad:Option Addr}{n c:Nat}{L:List df}(Z:List bO){g0 g:G}(hn:Z.length=n)(hm:n≤1000000000)(hk:Ig (.func (.func fi) #[] #[]) kf g)(hs:St g0 g (fW 40 ad n c Z::L)):
  CallsIn Wd 0 prog 19 #[.slice ad n c,.func (.func fi) #[] #[]] g.w (db g fun g' r=>r= .tuple #[]∧St g0 g' (fW 40 ad n c (dC kf Z)::L)):=by
 have ar:=G.le.refl g;refine enter func19 rfl ntmps19 rfl<|cR<|An hs rfl fun b1 g2 hs ai aD=>?_;replace ar:=G.le.trans ar ai;refine b_<|an<|Wp 2 rfl<|ak rfl rfl<|cp (S9 false) aK rfl rfl rfl rfl rfl (zk false Z hn hm (fun g' h x y=>dy (first:=#[]) (args:=[fv x,fv y]) (captured:=#[vP b1]) (Wc 62) rfl (Ih x y g' (aD.mono h) (hk.mono (ar.trans h)))) hs) ?_;clear hs;rintro g6 _ ai ⟨rfl,hs⟩;replace ar:=G.le.trans ar ai;exact aA<|lC rfl (db.intro ar ⟨rfl,hs⟩)
end Go.Proofs.YtbfjdfecgiegpaaGreatDoor
