/- Parts of the proof, from: The walk through flow.Valid. -/
import Derived.Test.YtgehbndkogohpaaGreatDoorYe
import Derived.Test.YtgehbndkogohpaaGreatDoorYb
import Derived.Lib.ItoaNum
import Derived.Lib.AtoiAll
import Derived.Lib.SplitLaws
import Derived.Lib.CutLaws
import Derived.Test.YtgehbndkogohpaaGreatDoorYd
import Derived.Lib.AppendIntMem
import Derived.Test.YtgehbndkogohpaaGreatDoorShelfP
import Derived.Test.YtgehbndkogohpaaGreatDoorYc
namespace Go.Proofs.YtgehbndkogohpaaGreatDoor
open Go Go.K
set_option maxRecDepth 10000
attribute [local irreducible] W WL cD bc bK bd bg bh cq ck
set_option maxHeartbeats 400000
theorem xZ(v:Value)(f:bQ)(g:G)(dj:ff g v f):CallsIn Wd 0 Tryz.prog 46 #[v] g.w (cF g fun _ r=>r= .bool (valid f)):=by
 obtain⟨a1,n1,c1,a2,n2,c2,rfl,aH,aU⟩:=id dj;obtain⟨_,_,e⟩:=aH.isSlice;obtain⟨rfl,rfl,rfl⟩:=Value.slice.inj e;clear e;obtain⟨_,_,e⟩:=aU.isSlice;obtain⟨rfl,rfl,rfl⟩:=Value.slice.inj e;clear e;have hlen:=aH.dJ;have zH:=aU.dJ;unfold maxLen at hlen zH;have hs:=St.start g;have aq:=G.le.refl g;refine enter Tryz.func46 rfl Tryz.ntmps46 rfl ?_;apply cM;refine ak rfl rfl (aO rfl hs rfl rfl ?_);clear hs;rintro b1 g1 hs ah;obtain⟨aH,aU,dj⟩:=dy ah aH aU dj;refine bj rfl ?_;refine dz 3 [.o 0] hs rfl ?_
 rename Nat=>b0
 refine ak rfl rfl (aK T.ok rfl hs rfl rfl ?_);clear hs;rintro b1 g1 hs ah;obtain⟨aH,aU,dj⟩:=dy ah aH aU dj;skip;refine bA rfl (az T.ok 0 rfl hs rfl rfl rfl rfl rfl rfl rfl rfl rfl ?_);replace hs:=hs;rintro g1 hs ah;obtain⟨aH,aU,dj⟩:=dy ah aH aU dj;obtain⟨g2,bL,aT,ah,aL⟩:=hs.ba (i:=0) rfl;replace hs:=aT;clear aT;rw[←bL];obtain⟨aH,aU,dj⟩:=dy ah aH aU dj;have aC:=aL;clear aL bL ah;obtain⟨g2,bL,aT,ah,aL⟩:=hs.ba (i:=0) rfl;replace hs:=aT;clear aT;rw[←bL];obtain⟨aC,aH,aU,dj⟩:=eS ah aC aH aU dj;have aR:=aL;clear aL bL ah;have KJ:=aR;have pK:=aC;have uD:=aU;have cC:=G.le.refl g2;apply bW;apply aD;refine dz 1 [.z aR] (St.start _) rfl ?_;refine ak rfl rfl (au Jo aJ rfl rfl rfl rfl rfl (rl _ f _ dj) ?_);rintro g1 _ aP rfl;replace hs:=hs.call aP;have ah:=aP.le;obtain⟨cC,aC,aR,aH,aU⟩:=kO ah cC aC aR aH aU;refine Wp 2 rfl ?_;refine cp (want:=false) (x:=!within f.steps.length 1 40) 3 aJ rfl rfl rfl rfl (.inr ⟨rfl,rfl,rfl⟩) rfl rfl rfl rfl (fun hb Q' eG=>?_) (fun g' hf=>?_)
 ·refine Wm 1 [.z aC] (St.start _) rfl ?_;refine ak rfl rfl (au qp aJ rfl rfl rfl rfl rfl (jD _ _ _ _) ?_);rintro g1 _ aP rfl;replace hs:=hs.call aP;have ah:=aP.le;obtain⟨cC,aC,aR,aH,aU⟩:=kO ah cC aC aR aH aU;refine Wp 1 rfl ?_;apply aE;exact fun a ha=>eG _ a aP (ha.keep (by(repeat (first|exact trivial|refine⟨rfl,?_⟩))))
 replace hs:=hs.call hf;have ah:=hf.le;obtain⟨cC,aC,aR,aH,aU⟩:=kO ah cC aC aR aH aU;refine Wp 1 rfl ?_;refine cp (want:=false) (x:=decide (20<(f.windows.length:Int))) 4 aJ rfl rfl rfl rfl (.inr ⟨rfl,rfl,rfl⟩) rfl rfl rfl rfl (fun hb Q' eG=>?_) (fun g' hf=>?_)
 ·refine Wm 4 [.z aR] (St.start _) rfl ?_;apply aE;exact fun a ha=>eG _ a (a_.refl _) (ha.keep (by(repeat (first|exact trivial|refine⟨rfl,?_⟩))))
 replace hs:=hs.call hf;have ah:=hf.le;obtain⟨cC,aC,aR,aH,aU⟩:=kO ah cC aC aR aH aU;apply bW;by_cases oD:((!dA f|| !within f.steps.length 1 40)||decide (20<(f.windows.length:Int)))=true
 ·refine aM oD rfl ?_;refine aY rfl ?_;refine aI (aX rfl rfl (hs.ret ?_));have:valid f=false:=by
   simp only[Bool.or_eq_true,Bool.not_eq_true',decide_eq_true_eq]at oD;unfold valid;rcases oD with(h|h)|h
   ·rw[h];simp
   ·rw[h];simp
   rw[show decide ((f.windows.length:Int)≤20)=false from by simp;omega];simp
  rw[this]
 refine aV (Bool.eq_false_iff.2 oD) rfl ?_;apply aF;apply ar;apply aD;refine dz 3 [.z aR] (St.start _) rfl ?_;refine ak rfl rfl (au Ni aJ rfl rfl rfl rfl rfl (vh _ _ f.steps (fun s=> !bT s f.steps.length) _ aH (fun g' x u hle hx=>cW Nj rfl (GV u x _ _ g' hx (aC.mono hle) (by omega) (by omega)))) ?_);rintro g1 _ aP rfl;replace hs:=hs.call aP;have ah:=aP.le;obtain⟨cC,aC,aR,aU⟩:=eS ah cC aC aR aU;apply bW;by_cases yY:(f.steps.any fun s=> !bT s f.steps.length)=true
 ·refine aM yY rfl ?_;refine aY rfl ?_;refine aI (aX rfl rfl (hs.ret ?_));have:(f.steps.all fun s=>bT s f.steps.length)=false:=by rw[List.any_eq_true]at yY;obtain⟨x,hx,h⟩:=yY;rw[List.all_eq_false];exact⟨x,hx,by simpa using h⟩
  unfold valid;rw[this];simp
 refine aV (Bool.eq_false_iff.2 yY) rfl ?_;apply aF;apply ar;apply aD;refine l_ [.z aR] (St.start _) rfl ?_;apply aG;have hinv:dB f.steps.length [] f.windows=valid f:=by
  simp only[Bool.not_eq_true,Bool.or_eq_false_iff,Bool.not_eq_false',decide_eq_false_iff_not]at oD;unfold valid;rw[oD.1.1,oD.1.2,show decide ((f.windows.length:Int)≤20)=true from by simp;omega];have:(f.steps.all fun s=>bT s f.steps.length)=true:=by
   rw[List.all_eq_true];intro x hx;cases h:bT x f.steps.length with
   |true=>rfl
   |false=>exact absurd (List.any_eq_true.2 ⟨x,hx,by simp[h]⟩) yY
  rw[this];simp
 refine bM (fun m a' w=> ∃(k:Nat) (g':G),w=g'.w∧St g g' []∧G.le g2 g'∧k≤f.windows.length∧m=f.windows.length-k∧dB f.steps.length (f.windows.take k) (f.windows.drop k)=valid f∧
  Fr 49 [] [(1,.pointer (some ⟨b0,0,none⟩)),(3,.pointer (some ⟨b1,0,none⟩)),(28,.slice a2 f.windows.length c2),(29,.int .i64 f.windows.length),(30,.int .i64 k)] a') f.windows.length
  (fun a' ha=>⟨0,_,rfl,hs,cC,Nat.zero_le _,rfl,by simpa using hinv,ha.keep (by(repeat (first|exact trivial|refine⟨rfl,?_⟩)))⟩) ?_
 clear hs cC aq aC aR aH aU dj;rintro m a' _ ⟨k,g',rfl,hs,cC,hk,rfl,dx,eF⟩;have aC:=pK.mono cC;have aR:=KJ.mono cC;have aU:=uD.mono cC;revert a';apply cI;refine aY rfl ?_;apply aD;by_cases bC:k<f.windows.length
 ·refine aM (b:=decide ((k:Int)<(f.windows.length:Int))) (by simp;omega) rfl ?_;rw[List.drop_eq_getElem_cons bC,dB]at dx;apply aF;apply ar;apply aD;apply aG;refine cN 1 rfl ?_;refine ak rfl rfl (aW T.ok rfl aU (y:=f.windows[k]) (by simp[dS,bC]) rfl rfl rfl rfl rfl rfl ?_);rintro b q ys aL rfl;refine Wm 1 [.e aL 0] (St.start _) rfl ?_;skip;refine ak rfl rfl (aK T.ok rfl hs rfl rfl ?_);clear hs;rintro b1 g1 hs ah;obtain⟨cC,aC,aR,aU⟩:=eS ah cC aC aR aU;refine Wp 1 rfl ?_;refine bA rfl (az T.ok 0 rfl hs rfl rfl rfl rfl rfl rfl rfl rfl rfl ?_);replace hs:=hs;rintro g1 hs ah;obtain⟨cC,aC,aR,aU⟩:=eS ah cC aC aR aU;apply bW;apply aD;cases Cq:de f.windows[k] f.steps.length with
  |false=>
   apply bP hs (eO (iY (fe []))) 13 [(12,47)] (by kernel_rfl) rfl
   ·refine Dm [[],[]] [.o 0,.e aC 0] hs (by kernel_rfl) rfl ?_;refine ay (an (js:=[(0,35),(1,36)]) (by kernel_rfl) fun gd hf=>?_) ?_
    ·skip;refine ai rfl ?_;refine ai rfl ?_;apply aj;refine aB rfl ?_;refine(au tP aJ rfl rfl rfl rfl rfl (fN _ _ _ (by omega) (by omega)) fun g' v h1 h2=>⟨g',rfl,h1,?_⟩);exact h2.trans (congrArg Value.bool Cq)
    exact Dy [[2],[3],[4],[5,4],[4],[6,7,4],[4],[8,9,4,4],[10,4],[4,11]] (by kernel_rfl) rfl
   clear hs;intro g1 hs ah;obtain⟨cC,aC,aR,aU⟩:=eS ah cC aC aR aU;apply bW;refine aM rfl rfl ?_;refine aY rfl ?_;refine aI (aX rfl rfl (hs.ret ?_));rw[←dx,Cq];rfl
  |true=>
   have uj:=aU.cut (a:=0) (b:=k) (Nat.zero_le _) (by omega);apply bP hs (eO (iY (fe []))) 13 [(12,47)] (by kernel_rfl) rfl
   ·refine Dm [[],[]] [.o 0,.e aC 0] hs (by kernel_rfl) rfl ?_;refine ay (an (js:=[(0,35),(1,36)]) (by kernel_rfl) fun gd hf=>?_) ?_
    ·skip;refine ai rfl ?_;refine ai rfl ?_;apply aj;refine aB rfl ?_;refine(au tP aJ rfl rfl rfl rfl rfl (fN _ _ _ (by omega) (by omega)) fun g' v h1 h2=>⟨g',rfl,h1,?_⟩);exact h2.trans (congrArg Value.bool Cq)
    refine Dm [[2],[3],[4],[5,4],[4]] [.e aR 3] (St.start _) (by kernel_rfl) rfl ?_;refine ay (an (js:=[(6,41),(7,42),(4,39)]) (by kernel_rfl) fun gd hf=>?_) ?_
    ·skip;refine ai rfl ?_;refine ai rfl ?_;refine ai rfl ?_;apply aj;refine aB rfl ?_;refine(kF T.ok rfl rfl rfl rfl rfl (a:=0) (b:=k) rfl ⟨_,rfl⟩ (Nat.zero_le _) (by have:=(aU.Be).2.1;omega) ?_);exact⟨_,rfl,a_.refl _,rfl⟩
    refine Dm [[4]] [.o 0] hs (by kernel_rfl) rfl ?_;refine ay (an (js:=[(8,43),(9,44),(4,39),(4,39)]) (by kernel_rfl) fun gd hf=>?_) ?_
    ·have dG:=(G.bu _).trans hf.le;refine ai rfl ?_;refine ai rfl ?_;refine ai rfl ?_;refine ai rfl ?_;apply aj;refine aB rfl ?_;refine(au EA aJ rfl rfl rfl rfl rfl (sj _ _ _ _ (uj.mono dG)) fun g' v h1 h2=>⟨g',rfl,h1,?_⟩);exact h2
    exact Dy [[10,4],[4,11]] (by kernel_rfl) rfl
   clear hs;intro g1 hs ah;replace cC:=G.le.trans cC ah;apply bW;cases vm:follows (f.windows.take k) f.windows[k]with
   |false=>
    refine aM (by simp[vm]) rfl ?_;refine aY rfl ?_;refine aI (aX rfl rfl (hs.ret ?_));rw[←dx,Cq,vm];rfl
   |true=>
    refine aV (by simp[vm]) rfl ?_;apply aF;apply bR;apply ar;apply aA;refine Wp 2 rfl ?_;apply aE;refine fun a ha=>⟨f.windows.length-(k+1),by omega,k+1,_,rfl,hs.drop 0,cC,by omega,rfl,?_,ha.keep ⟨rfl,rfl,rfl,rfl,kI rfl (by rw[wr (by omega) (by omega)];omega),trivial⟩⟩
    rw[←dx,Cq,vm,List.take_succ_eq_append_getElem bC];rfl
 refine aV (b:=decide ((k:Int)<(f.windows.length:Int))) (by simp;omega) rfl ?_;apply bF;apply bG;apply bG;apply c_;apply ar;refine aY rfl ?_;obtain rfl:k=f.windows.length:=by omega
 refine aI (aX rfl rfl (hs.ret ?_));rw[←dx];simp[dB]
end Go.Proofs.YtgehbndkogohpaaGreatDoor
namespace Go.Proofs.YtgehbndkogohpaaGreatDoor
open Go
def dec(n:Nat):List UInt8:=Lib.decDigits n
def j_(b:UInt8):Bool:=decide (48≤b.toNat)&&decide (b.toNat≤57)
def jI(acc:Nat)(l:List UInt8):Nat:=l.foldl (fun a b=>10*a+(b.toNat-48)) acc
def val(l:List UInt8):Nat:=jI 0 l
theorem ic{n:Nat}(h:n<10):dec n=[UInt8.ofNat (48+n)]:=by unfold dec;rw[Lib.decDigits,dif_pos h]
theorem nd{n:Nat}(h: ¬n<10):dec n=dec (n/10)++[UInt8.ofNat (48+n % 10)]:=by unfold dec;rw[Lib.decDigits,dif_neg h]
theorem DY(acc:Nat)(l m:List UInt8):jI acc (l++m)=jI (jI acc l) m:=by unfold jI;rw[List.foldl_append]
theorem r'{k:Nat}(h:k<10):(UInt8.ofNat (48+k)).toNat=48+k:=by rw[UInt8.toNat_ofNat'];omega
theorem Ad{k:Nat}(h:k<10):j_ (UInt8.ofNat (48+k))=true:=by unfold j_;rw[r' h];simp;omega
theorem CV(n:Nat):val (dec n)=n:=by
 induction n using Nat.strongRecOn with
 |_ n ih=>
  by_cases h:n<10
  ·rw[ic h];unfold val jI;simp only[List.foldl_cons,List.foldl_nil];rw[r' h];omega
  rw[nd h];unfold val;rw[DY,show jI 0 (dec (n/10))=n/10 from ih (n/10) (by omega)];unfold jI;simp only[List.foldl_cons,List.foldl_nil];rw[r' (by omega)];omega
theorem q8(n:Nat): ∀b∈dec n,j_ b=true:=by
 induction n using Nat.strongRecOn with
 |_ n ih=>
  by_cases h:n<10
  ·rw[ic h];intro b hb;obtain rfl:=List.mem_singleton.1 hb;exact Ad h
  rw[nd h];intro b hb;rcases List.mem_append.1 hb with hb|hb
  ·exact ih (n/10) (by omega) b hb
  obtain rfl:=List.mem_singleton.1 hb;exact Ad (by omega)
theorem p9(n:Nat):dec n≠[]:=by
 by_cases h:n<10
 ·rw[ic h];simp
 rw[nd h];simp
theorem IT{n:Nat}(h:0<n): ∀r,dec n≠48::r:=by
 induction n using Nat.strongRecOn with
 |_ n ih=>
  intro r;by_cases hs:n<10
  ·rw[ic hs];intro e;have:=congrArg (fun l:List UInt8=>(l.headD 0).toNat) e;simp only[List.headD_cons]at this;rw[r' hs]at this;have Zv:(48:UInt8).toNat=48:=rfl;omega
  rw[nd hs];intro e;cases hd:dec (n/10)with
  |nil=>exact p9 _ hd
  |cons x t=>
   rw[hd,List.cons_append]at e;obtain⟨e1,_⟩:=List.cons.inj e;exact ih (n/10) (by omega) (by omega) t (by rw[hd,e1])
def canon(l:List UInt8):Bool:=l.all j_&&(match l with|[]=>false|[_]=>true|b::_=>b !=48)
theorem DZ(n:Nat):canon (dec n)=true:=by
 unfold canon;rw[Bool.and_eq_true];refine⟨List.all_eq_true.2 (q8 n),?_⟩;cases hd:dec n with
 |nil=>exact absurd hd (p9 n)
 |cons b t=>
  cases t with
  |nil=>rfl
  |cons c t=>
   have hn:0<n:=by refine Nat.pos_of_ne_zero fun h0=>?_;subst h0;rw[ic (by decide)]at hd;simp at hd
   have:=IT hn;simp only[bne_iff_ne,ne_eq];intro e;subst e;exact this _ hd
theorem Gt{n:Nat}(h:0<n){b:UInt8}(hb:j_ b=true):dec (10*n+(b.toNat-48))=dec n++[b]:=by unfold j_ at hb;simp only[Bool.and_eq_true,decide_eq_true_eq]at hb;rw[nd (by omega),show(10*n+(b.toNat-48))/10=n from by omega,show(10*n+(b.toNat-48)) % 10=b.toNat-48 from by omega,show 48+(b.toNat-48)=b.toNat from by omega,UInt8.ofNat_toNat]
theorem D0(l:List UInt8): ∀n,0<n→l.all j_=true→dec (jI n l)=dec n++l:=by
 induction l with
 |nil=>intro n _ _;simp[jI]
 |cons b t ih=>
  intro n hn hl;rw[List.all_cons,Bool.and_eq_true]at hl;show dec (jI (10*n+(b.toNat-48)) t)=_;have hb:=hl.1;unfold j_ at hb;simp only[Bool.and_eq_true,decide_eq_true_eq]at hb;rw[ih _ (by omega) hl.2,Gt hn hl.1,List.append_assoc];rfl
theorem IU{l:List UInt8}(h:canon l=true):dec (val l)=l:=by
 unfold canon at h;rw[Bool.and_eq_true]at h;obtain⟨h1,h2⟩:=h;cases l with
 |nil=>simp at h2
 |cons b t=>
  rw[List.all_cons,Bool.and_eq_true]at h1;have hb:=h1.1;unfold j_ at hb;simp only[Bool.and_eq_true,decide_eq_true_eq]at hb;have e0:val (b::t)=jI (b.toNat-48) t:=by unfold val jI;simp
  have u1:dec (b.toNat-48)=[b]:=by rw[ic (by omega),show 48+(b.toNat-48)=b.toNat from by omega,UInt8.ofNat_toNat]
  cases t with
  |nil=>rw[e0];exact u1
  |cons c t=>
   have fB:b≠48:=by simpa using h2
   have nA:0<b.toNat-48:=by have:b.toNat≠48:=fun e=>fB (UInt8.toNat_inj.1 e);omega
   rw[e0,D0 _ _ nA h1.2,u1];rfl
def fH(l:List UInt8):Option Nat:=if canon l=true∧val l≤1000000 then some (val l)else none
theorem gX{l:List UInt8}{n:Nat}:fH l=some n↔l=dec n∧n≤1000000:=by
 unfold fH;constructor
 ·intro h;split at h
  ·rename_i hc;obtain rfl:=Option.some.inj h;exact⟨(IU hc.1).symm,hc.2⟩
  cases h
 rintro⟨rfl,hn⟩;rw[CV,if_pos ⟨DZ n,hn⟩]
theorem iI{n:Nat}(h:n≤1000000):fH (dec n)=some n:=gX.2 ⟨rfl,h⟩
theorem sL: ∀(l:List UInt8) (acc:Nat),l.all j_=true→jI acc l≤1000000000→Lib.parseUint10 acc l= .ok (jI acc l)
 |[],acc,_,_=>rfl
 |b::t,acc,h,hv=>by
  rw[List.all_cons,Bool.and_eq_true]at h;have hb:=h.1;unfold j_ at hb;simp only[Bool.and_eq_true,decide_eq_true_eq]at hb;have Hj: ∀(t:List UInt8) (a:Nat),a≤jI a t:=by
   intro t
   induction t with
   |nil=>intro a;exact Nat.le_refl _
   |cons c t ih=>intro a;exact Nat.le_trans (by omega) (ih (10*a+(c.toNat-48)))
  have DN:jI (10*acc+(b.toNat-48)) t≤1000000000:=hv;have h1:=Hj t (10*acc+(b.toNat-48));unfold Lib.parseUint10;rw[if_pos hb,if_neg (by omega),if_neg (by omega),show acc*10+(b.toNat-48)=10*acc+(b.toNat-48)from by omega];exact sL t _ h.2 DN
theorem Gu{n:Nat}(h:n≤1000000):Lib.atoiAll (dec n)= .ok (n:Int):=by
 have hd:=q8 n;have hv:=CV n;have hp:=sL (dec n) 0 (List.all_eq_true.2 hd) (by show val (dec n)≤_;rw[hv];omega);rw[show jI 0 (dec n)=n from hv]at hp;cases hl:dec n with
 |nil=>exact absurd hl (p9 n)
 |cons c r=>
  have hc:=hd c (by rw[hl];simp);unfold j_ at hc;simp only[Bool.and_eq_true,decide_eq_true_eq]at hc;unfold Lib.atoiAll;simp only;rw[if_neg (by omega)];unfold Lib.parseMag;rw[if_neg (by simp),←hl,hp];simp only;rw[if_neg (by omega),if_neg (by omega),if_neg (by omega)]
theorem u3(n:Nat):Lib.itoa (n:Int)=dec n:=by unfold Lib.itoa dec;rw[if_neg (by omega),Int.toNat_natCast]
theorem Gv{l:List UInt8}{v:Int}(h:Lib.atoiAll l= .ok v)(h0:0≤v)(h1:v≤1000000)(h2:Lib.itoa v=l):fH l=some v.toNat:=by
 obtain⟨n,rfl⟩: ∃n:Nat,v=n:=⟨v.toNat,by omega⟩
 rw[u3]at h2;rw[←h2,Int.toNat_natCast];exact iI (by omega)
theorem LW{l:List UInt8}{n:Nat}(h:fH l=some n):Lib.atoiAll l= .ok (n:Int)∧Lib.itoa (n:Int)=l∧n≤1000000:=by obtain⟨rfl,hn⟩:=gX.1 h;exact⟨Gu hn,u3 n,hn⟩
def bN(c:UInt8):List UInt8→List (List UInt8)
 |[]=>[[]]
 |b::t=>if b=c then []::bN c t else
  match bN c t with
  |[]=>[[b]]
  |x::r=>(b::x)::r
def dP(c:UInt8):List (List UInt8)→List UInt8
 |[]=>[]
 |[x]=>x
 |x::y::r=>x++c::dP c (y::r)
theorem oV(c:UInt8)(l:List UInt8):bN c l≠[]:=by
 cases l with
 |nil=>simp[bN]
 |cons b t=>
  unfold bN;split
  ·simp
  split<;>simp
theorem BM(c:UInt8)(b:UInt8)(x:List UInt8)(r:List (List UInt8)):dP c ((b::x)::r)=b::dP c (x::r):=by cases r<;>rfl
theorem u4(c:UInt8){ps:List (List UInt8)}(h:ps≠[]):dP c ([]::ps)=c::dP c ps:=by
 cases ps with
 |nil=>exact absurd rfl h
 |cons x r=>rfl
theorem BN(c:UInt8)(l:List UInt8):dP c (bN c l)=l:=by
 induction l with
 |nil=>rfl
 |cons b t ih=>
  unfold bN;split
  ·rename_i h;rw[u4 c (oV c t),ih,h]
  split
  ·rename_i h;exact absurd h (oV c t)
  rename_i x r h;rw[BM,←h,ih]
theorem Gw(c:UInt8)(l:List UInt8): ∀p∈bN c l,c∉p:=by
 induction l with
 |nil=>intro p hp;simp[bN]at hp;subst hp;simp
 |cons b t ih=>
  intro p hp;unfold bN at hp;split at hp
  ·rcases List.mem_cons.1 hp with rfl|hp
   ·simp
   exact ih p hp
  rename_i hb;split at hp
  ·rename_i h;exact absurd h (oV c t)
  rename_i x r h;rcases List.mem_cons.1 hp with rfl|hp
  ·intro hc;rcases List.mem_cons.1 hc with hc|hc
   ·exact hb hc.symm
   exact ih x (by rw[h];simp) hc
  exact ih p (by rw[h];simp[hp])
theorem sM(c:UInt8): ∀x:List UInt8,c∉x→bN c x=[x]
 |[],_=>rfl
 |b::t,h=>by rw[List.mem_cons,not_or]at h;unfold bN;rw[if_neg (fun e=>h.1 e.symm),sM c t h.2]
theorem sb(c:UInt8): ∀(x r:List UInt8),c∉x→bN c (x++c::r)=x::bN c r
 |[],r,_=>by show bN c (c::r)=_;rw[bN,if_pos rfl]
 |b::t,r,h=>by rw[List.mem_cons,not_or]at h;show bN c (b::(t++c::r))=_;rw[bN,if_neg (fun e=>h.1 e.symm),sb c t r h.2]
theorem u5(c:UInt8): ∀ps:List (List UInt8),ps≠[]→(∀p∈ps,c∉p)→bN c (dP c ps)=ps
 |[],h,_=>absurd rfl h
 |[x],_,h=>sM c x (h x (by simp))
 |x::y::r,_,h=>by show bN c (x++c::dP c (y::r))=_;rw[sb c x _ (h x (by simp)),u5 c (y::r) (by simp) fun p hp=>h p (by simp[hp])]
theorem ie(c:UInt8){l:List UInt8}{ps:List (List UInt8)}:bN c l=ps↔l=dP c ps∧ps≠[]∧ ∀p∈ps,c∉p:=by
 constructor
 ·rintro rfl;exact⟨(BN c l).symm,oV c l,Gw c l⟩
 rintro⟨rfl,h1,h2⟩;exact u5 c ps h1 h2
theorem index_one(c b:UInt8)(l:List UInt8):Lib.index (b::l) [c]=if c=b then 0 else if Lib.index l [c]= -1 then -1 else Lib.index l [c]+1:=by
 by_cases h:c=b
 ·subst h;rw[Lib.index];simp[List.isPrefixOf]
 have hp:([c]:List UInt8).isPrefixOf (b::l)=false:=by simp[List.isPrefixOf,h]
 rw[Lib.index,hp,if_neg h];by_cases h2:Lib.index l [c]= -1
 ·simp[h2]
 simp[h2]
theorem w6(c:UInt8): ∀s:List UInt8,Lib.splitK [c] 0 (s.count c) s=bN c s
 |[]=>rfl
 |b::l=>by
  have ih:=w6 c l;by_cases h:b=c
  ·subst h;rw[List.count_cons_self,Lib.splitK,bN,if_pos rfl];have h0:Lib.index (b::l) [b]=0:=by rw[index_one,if_pos rfl]
   rw[if_neg (by rw[h0];decide),h0];exact congrArg _ ih
  rw[List.count_cons_of_ne (by simpa using h),bN,if_neg h,←ih];cases hk:l.count c with
  |zero=>rfl
  |succ k=>
   have fB:Lib.index l [c]≠ -1:=by intro e;have h1:=Lib.count_miss e;rw[Lib.count_one,hk]at h1;omega
   have Hj:=Lib.index_ge l [c];obtain⟨j,hj⟩: ∃j:Nat,Lib.index l [c]=j:=⟨(Lib.index l [c]).toNat,by omega⟩
   have hb:Lib.index (b::l) [c]=((j+1:Nat):Int):=by rw[index_one,if_neg (fun e=>h e.symm),if_neg fB,hj];omega
   unfold Lib.splitK;rw[hb,hj,if_neg (by simp;omega),if_neg (by simp)];simp
theorem Ae(c:UInt8)(s:List UInt8):Lib.split s [c]=bN c s:=by unfold Lib.split;rw[Lib.count_one];exact w6 c s
def kJ{α:Type}:List (Option α)→Option (List α)
 |[]=>some []
 |none::_=>none
 |some x::r=>(kJ r).map fun l=>x::l
theorem lF{α:Type}: ∀{l:List (Option α)} {xs:List α},kJ l=some xs↔l=xs.map some
 |[],xs=>by cases xs<;>simp[kJ]
 |none::r,xs=>by cases xs<;>simp[kJ]
 |some x::r,xs=>by
  have ih:=fun ys:List α=>lF (l:=r) (xs:=ys);unfold kJ;cases xs with
  |nil=>simp
  |cons y ys=>
   rw[Option.map_eq_some_iff];constructor
   ·rintro⟨a,h1,h2⟩;obtain⟨rfl,rfl⟩:=List.cons.inj h2;rw[(ih a).1 h1];rfl
   intro h;simp only[List.map_cons,List.cons.injEq,Option.some.injEq]at h;exact⟨ys,(ih ys).2 h.2,by rw[h.1]⟩
def mu(s:List UInt8):Option (List Nat):=kJ ((bN 44 s).map fH)
theorem BO{c:UInt8}(h:j_ c=false)(n:Nat):c∉dec n:=fun hc=>by rw[q8 n c hc]at h;cases h
theorem sd{s:List UInt8}{l:List Nat}:mu s=some l↔s=dP 44 (l.map dec)∧l≠[]∧ ∀n∈l,n≤1000000:=by
 unfold mu;rw[lF];constructor
 ·intro h;have cR: ∀(ps:List (List UInt8)) (l:List Nat),ps.map fH=l.map some→ps=l.map dec∧ ∀n∈l,n≤1000000:=by
   intro ps
   induction ps with
   |nil=>intro l h;cases l<;>simp at h;exact⟨rfl,by simp⟩
   |cons p ps ih=>
    intro l h;cases l with
    |nil=>simp at h
    |cons n l=>
     rw[List.map_cons,List.map_cons]at h;obtain⟨h1,h2⟩:=List.cons.inj h;obtain⟨e1,e2⟩:=gX.1 h1;obtain⟨e3,e4⟩:=ih l h2;exact⟨by rw[e1,e3];rfl,fun m hm=>by rcases List.mem_cons.1 hm with rfl|hm;exact e2;exact e4 m hm⟩
  obtain⟨h1,h2⟩:=cR _ _ h;obtain⟨h3,h4,_⟩:=(ie 44).1 h1;exact⟨h3,fun e=>by subst e;exact h4 rfl,h2⟩
 rintro⟨h1,h2,h3⟩;have:bN 44 s=l.map dec:=(ie 44).2 ⟨h1,by simpa using h2,fun p hp=>by obtain⟨n,_,rfl⟩:=List.mem_map.1 hp;exact BO rfl n⟩;rw[this,List.map_map];exact List.map_congr_left fun n hn=>iI (h3 n hn)
def mv(s:List UInt8):Option (Nat×Nat):=
 if Lib.index s [46,46]<0 then none
 else match fH (s.take (Lib.index s [46,46]).toNat),fH (s.drop ((Lib.index s [46,46]).toNat+2))with
  |some a,some b=>some (a,b)
  |_,_=>none
theorem BP(a:Nat)(r:List UInt8):Lib.index (dec a++46::46::r) [46,46]=((dec a).length:Int):=by
 refine Lib.index_first (by simp) ?_ fun j hj=>?_
 ·unfold Lib.occAt;rw[List.drop_left];simp[List.isPrefixOf]
 unfold Lib.occAt;rw[List.drop_append_of_le_length (by omega),List.drop_eq_getElem_cons hj,List.cons_append];have hd:=q8 a _ (List.getElem_mem hj);have fB:((46:UInt8)==(dec a)[j])=false:=by rw[beq_eq_false_iff_ne];intro e;rw[←e]at hd;cases hd
 simp[List.isPrefixOf,fB]
theorem oW{s:List UInt8}{a b:Nat}:mv s=some (a,b)↔s=dec a++46::46::dec b∧a≤1000000∧b≤1000000:=by
 unfold mv;constructor
 ·intro h;split at h
  ·cases h
  rename_i h0;rcases Lib.index_spec s [46,46]with⟨h1,_⟩|⟨i,h1,h2,h3,_⟩
  ·omega
  rw[h1]at h;simp only[Int.toNat_natCast]at h;split at h
  ·rename_i x y h4 h5;simp only[Option.some.injEq,Prod.mk.injEq]at h;obtain⟨rfl,rfl⟩:=h;obtain⟨e1,l1⟩:=gX.1 h4;obtain⟨e2,l2⟩:=gX.1 h5;refine⟨?_,l1,l2⟩;unfold Lib.occAt at h3;have h6:s.drop i=46::46::s.drop (i+2):=by
    rw[←List.drop_drop];cases hd:s.drop i with
    |nil=>rw[hd]at h3;cases h3
    |cons p t=>
     cases t with
     |nil=>rw[hd]at h3;simp[List.isPrefixOf]at h3
     |cons q t=>
      rw[hd]at h3;simp only[List.isPrefixOf,Bool.and_eq_true,beq_iff_eq,and_true]at h3;obtain⟨rfl,rfl⟩:=h3;rfl
   rw[←e1,←e2,←h6,List.take_append_drop]
  cases h
 rintro⟨rfl,h1,h2⟩;rw[BP,if_neg (by omega),Int.toNat_natCast,List.take_left];have h3:(dec a++46::46::dec b).drop ((dec a).length+2)=dec b:=by rw[←List.drop_drop,List.drop_left];rfl
 rw[h3,iI h1,iI h2]
end Go.Proofs.YtgehbndkogohpaaGreatDoor
namespace Go.Proofs.YtgehbndkogohpaaGreatDoor
open Go Go.K Go.RowKit
set_option maxRecDepth 10000
attribute [local irreducible] W WL cD bc bK bd bg bh cq ck
set_option maxHeartbeats 1000000
theorem Lu:Tryz.prog.globalNamed "internal/strconv.uint64pow10" =some 1:=by kernel_rfl
structure jv(g:G):Prop where
 len: ∃m,EP g 0 0 [.int .i64 m]
 X_:g.im 1∧Lib.TabIs Tryz.prog g.w "internal/strconv.uint64pow10" .u64 Lib.pow10Tab
 X': ∃ev,EP g 6 0 [ev]∧(ev= .nilIface∨ ∃te pe,ev= .iface te pe)
 Yc: ∃ev,EP g 7 0 [ev]∧(ev= .nilIface∨ ∃te pe,ev= .iface te pe)
theorem jv.mono{g g':G}(h:jv g)(hle:g.le g'):jv g':=by obtain⟨⟨m,h1⟩,⟨h2,h3⟩,⟨e1,h4,h5⟩,⟨e2,h6,h7⟩⟩:=h;refine⟨⟨m,h1.mono hle⟩,⟨(hle _ h2).1,?_⟩,⟨e1,h4.mono hle,h5⟩,⟨e2,h6.mono hle,h7⟩⟩;unfold Lib.TabIs World.var? at h3⊢;rw[Lu]at h3⊢;simp only[Option.bind_some]at h3⊢;rw[(hle _ h2).2];exact h3
instance{g g':G}:Mn (jv g) g g' (jv g'):=⟨fun h a=>a.mono h⟩
theorem tJ{g:G}{b:Nat}{v:Value}(h:EP g b 0 [v]):g.w.cell? ⟨b,0,none⟩=some v:=h.2 0 v rfl
def qN(n:Int):Prop:=-9223372036854775808≤n∧n≤9223372036854775807
theorem GK(n:Int)(g:G)(hn:qN n)(hF:jv g):CallsIn Wd 0 Tryz.prog 49 #[.int .i64 n] g.w (cF g fun _ r=>r= .string (bs (Lib.itoa n))):=by unfold qN at hn;refine kE ((Tryz.strconv_Itoa n hn.1 hn.2 g.w hF.X_.2).mono ?_) fun _ _=>rfl;rintro e w' ⟨rfl,k,os,rfl⟩;exact⟨rfl,Lib.below_grow _ _ (Nat.le_refl _) k os⟩
theorem Ar(s p:List UInt8)(g:G):CallsIn Wd 0 Tryz.prog 217 #[.string (bs s),.string (bs p)] g.w (cF g fun _ r=>r= .bool (p.isPrefixOf s)):=by refine kE ((Tryz.strings_HasPrefix (bs s) (bs p) g.w).mono ?_) fun _ _=>rfl;rintro e w' ⟨rfl,rfl⟩;exact⟨rfl,Below.refl _ _⟩
theorem QN(s p:List UInt8)(g:G)(hs:s.length≤1000000)(hF:jv g):CallsIn Wd 0 Tryz.prog 301 #[.string (bs s),.string (bs p)] g.w (cF g fun _ r=>r= .tuple #[.string (bs (Lib.cut s p).1),.string (bs (Lib.cut s p).2.1),.bool (Lib.cut s p).2.2]):=by obtain⟨m,hm⟩:=hF.len;refine kE ((Tryz.strings_Cut (bs s) (bs p) m g.w (by rw[fC];omega) (tJ hm)).mono ?_) fun _ _=>rfl;rintro e w' ⟨rfl,n,rfl⟩;exact⟨rfl,below_drewN (Below.refl _ _) n⟩
def C6(s:List UInt8)(r:Value):Prop:=∃v err,r= .tuple #[.int .i64 v,err]∧match Lib.atoiAll s with
 | .ok x=>v=x∧err= .nilIface
 |_=> ∃t p,err= .iface t p
theorem L_(s:List UInt8)(g:G)(hs:s.length≤1000000)(hF:jv g):CallsIn Wd 0 Tryz.prog 302 #[.string (bs s)] g.w (cF g fun _ r=>C6 s r):=by
 have cP:(bs s).size≤281474976710656:=by rw[fC];omega
 unfold C6;cases ha:Lib.atoiAll s with
 |ok x=>
  refine callsIn_wide.2 ((Tryz.strconv_Atoi_ok (bs s) (by omega) x ha g.w).mono ?_);rintro e w' ⟨rfl,hw⟩;refine cF.below ?_ fun _ _ _=>⟨x,_,rfl,rfl,rfl⟩
  rcases hw with rfl|⟨t,rfl⟩
  ·exact Below.refl _ _
  exact Lib.bytesWorld_below _ _ _
 |range=>
  obtain⟨ev,h1,h2⟩:=hF.Yc;refine callsIn_wide.2 ((Tryz.strconv_Atoi_range (bs s) cP ha ev g.w (tJ h1) h2).mono ?_);rintro e w' ⟨N,rfl,_,_,hb⟩;exact cF.below hb fun _ _ _=>⟨_,_,rfl,_,_,rfl⟩
 |_=>
  obtain⟨ev,h1,h2⟩:=hF.X';refine callsIn_wide.2 ((Any.strconv_Atoi_syntax Tryz.laysC172 (bs s) cP ha ev g.w (tJ h1) h2).mono ?_);rintro e w' ⟨N,rfl,_,_,hb⟩;exact cF.below hb fun _ _ _=>⟨_,_,rfl,_,_,rfl⟩
theorem cG.strs(g:G): ∀l:List (List UInt8),cG g (l.map fun s=>Value.string (bs s)) (l.map yf.mk)
 |[]=>rfl
 |s::l=>⟨[.string (bs s)],_,rfl,rfl,cG.strs g l⟩
theorem yG(s:List UInt8)(c:UInt8)(g:G)(hs:s.length≤1000000)(hF:jv g):CallsIn Wd 0 Tryz.prog 216 #[.string (bs s),.string (bs [c])] g.w (cF g (km 9 g ((bN c s).map yf.mk))):=by
 obtain⟨m,hm⟩:=hF.len;refine callsIn_wide.2 ((Tryz.strings_Split (bs s) (bs [c]) m g.w (by rw[fC];omega) (tJ hm) (by rw[fC];exact Nat.le_refl 1)).mono ?_);have Km:(Lib.splitB (bs [c]) 0 (Lib.countB (bs s) (bs [c])) (bs s)).map (fun b=>b.data.toList)=bN c s:=by rw[Lib.splitB_data];exact Ae c s
 have hlen:=Lib.splitB_all (bs [c]) (by rw[fC];exact Nat.le_refl 1) 0 _ (bs s) rfl;have hn:Lib.countB (bs s) (bs [c])+1=(bN c s).length:=by rw[←Km,List.length_map,hlen]
 have Ma:(Lib.splitB (bs [c]) 0 (Lib.countB (bs s) (bs [c])) (bs s)).map Value.string=(bN c s).map fun x=>Value.string (bs x):=by rw[←Km,List.map_map];exact List.map_congr_left fun b _=>congrArg Value.string (Qa b)
 rw[hn,Ma];rintro e w' ⟨rfl,rfl⟩;let cells:=(bN c s).map fun x=>Value.string (bs x)
 let W:=g.w.alloc (.cells cells.toArray 9)
 have QO:Below g.w.heap.size g.w W:=(Below.refl _ _).alloc (Nat.le_refl _) _;let g':G:=⟨W,g.im,fun b h=>Nat.lt_of_lt_of_le (g.lt b h) QO.size⟩
 have A_:W.heap[g.w.heap.size]? =some (.cells cells.toArray 9 (0,0)):=by show(g.w.heap.push _)[g.w.heap.size]? =_;rw[Array.getElem?_push_size]
 have fr:cells.length=(bN c s).length:=List.length_map _;refine⟨g',_,rfl,⟨QO,fun _ _=>Iff.rfl⟩,rfl,cells,⟨⟨?_,.inr ⟨g.w.heap.size,0,_,cells.toArray,?_,Nat.le_refl _,fh.plain A_,Nat.le_refl _,?_,?_,?_⟩⟩,?_⟩,cG.strs _ _⟩
 ·rw[fr,List.length_map];exact(Nat.mul_one _).symm
 ·rw[List.length_map]
 ·unfold maxLen;rw[List.length_map,←hn];have:=Lib.countB_le (bs [c]) (by rw[fC];exact Nat.le_refl 1) (bs s).size (bs s) (Nat.le_refl _);rw[fC]at this;omega
 ·rw[List.size_toArray,fr,List.length_map,Nat.zero_add];exact(Nat.mul_one _).symm
 ·rw[List.drop_zero,List.length_map];show cells.take _=cells;rw[List.take_of_length_le (by rw[fr];exact Nat.le_of_eq (Nat.mul_one _).symm)]
 intro b hb oa;have:b=g.w.heap.size:=by obtain⟨a,n,c',e1,_,e2⟩:=jz hb;simp only[Value.slice.injEq,Option.some.injEq]at e1;rw[←e2,←e1.1]
 have:=g.lt b oa;omega
end Go.Proofs.YtgehbndkogohpaaGreatDoor
namespace Go.K
open Go Go.RowKit
variable {F:Fence} {P:Program} {N:Nat} {ds:List Deferred} {l l':Env} {a:Act} {w:World} {Q:Exit→Act→World→Prop} {ops:Array Oper} {os:List Oper} {o:Oper}
variable {g0 g g1:G} {L:List cS} {K:Value→World→Prop} {R:G→Value→Prop} {ch:List PanicEntry} {b:Prop}
def vq(g:G)(R:G→Value→Prop)(ch:List PanicEntry)(b:Prop):Ending→World→Prop:=fun e w'=>cF g R e w'∨(b∧fg g ch (fun g'=>a_ g g') e w')
theorem vq.ok{e:Ending}{w':World}(h:cF g R e w'):vq g R ch b e w':=.inl h
theorem vq.th(hb:b)(hf:a_ g g1):vq g R ch b (.panicked ch) g1.w:=.inr ⟨hb,g1,rfl,rfl,hf.le,hf⟩
theorem cj{f:FuncId}(hc:ag P f)(hF: ∀f,F.fn f)(uL:F.depth=none){x:Operand}{args:Array Operand}{ts:Array TypeId}{first captured:Array Value}{vs U6:List Value}
  (ho:o.op= .call {callee:=.value x,args,argTypes:=ts}) (hx:ev l x=some (.func (.func f) first captured)) (ha:sY l args.toList=some vs) (has:first.toList++vs++captured.toList=U6)
  (h:CallsIn F 0 P f U6.toArray g.w (vq g R ch b)) (k: ∀g' v,a_ g g'→R g' v→K v g'.w) (kb:b→ ∀g',a_ g g'→ ∀a,Fr N ds l a→Q (.panic ch) a g'.w):cD F P N ds o l g.w Q K:=
 oS hc hF uL ho hx ha has (CallsIn.mono h fun _ _ hh=>by
  rcases hh with⟨g',v,hw,hf,he,hr⟩|⟨hb,g',hw,he,_,hf⟩
  ·exact .inl ⟨v,he,hw▸k g' v hf hr⟩
  exact .inr ⟨ch,he,hw▸kb hb g' hf⟩)
def IE:TypeDesc→Bool
 | .interface .. =>false
 |_=>true
theorem IF{t:TypeId}{d:TypeDesc}{x:Operand}{v:Value}(ho:o.op= .makeInterface t x)(hd:P.underlying t=some d)(hn:IE d=true)(hx:ev l x=some v)(k:K (.iface t v) w):cD F P N ds o l w Q K:=
 bO (fun c=>⟨by rw[ho];simp,by rw[ho];simp⟩) (fun a ha=>by cases d<;>first|(simp[IE]at hn;done)|simp[execOp,ho,ha.ev hx,Instr.makeInterface,run_underlying hd]) k
def BD:Value→Option Bool
 | .nilIface=>some true
 | .iface _ _=>some false
 |_=>none
theorem og{t t':TypeId}{d:TypeDesc}{x:Operand}{v:Value}{b neg:Bool}(ho:o.op= .binOp (if neg then .neq else .eql) t x (.const .nilIface) t')(hd:P.underlying t=some d)(hn:IE d=false)(hx:ev l x=some v)(hb:BD v=some b)(k:K (.bool (neg !=b)) w):cD F P N ds o l w Q K:=
 bO (fun c=>⟨by rw[ho];simp,by rw[ho];simp⟩) (fun a ha=>by
  have hq:(Op.equal t v .nilIface).run P w= .ok b w:=by show(Op.equalIn (9999+1) t v .nilIface).run P w=_;unfold Op.equalIn;cases d<;>first|(simp[IE]at hn;done)|(cases v<;>simp[BD]at hb<;>subst hb<;>simp[run_underlying hd])
  have hg: ∀op,(eqGuard op t x (.const .nilIface) v .nilIface).run P w= .ok () w:=fun op=>by unfold eqGuard;cases v<;>simp[BD]at hb<;>(split<;>simp)
  have he:a.eval (.const .nilIface)= .nilIface:=rfl;cases neg<;>simp[execOp,ho,ha.ev hx,he,hg,binOp,hq]) k
end Go.K
namespace Go.Proofs.YtgehbndkogohpaaGreatDoor
open Go
def kA:List UInt8:=[115,116,101,112]
def jB:List UInt8:=[114,101,99,105,112,101]
def k9:List UInt8:=[116,111,111,108,115]
def oq:List UInt8:=[116,105,109,101]
def ot:List UInt8:=[110,101,120,116]
def ou:List UInt8:=[98,97,99,107]
def k_:List UInt8:=[108,105,109,105,116]
def ij:List UInt8:=[119,105,110,100,111,119]
def ov:List UInt8:=[109,111,118,101]
def kK(n:Int):Prop:=0≤n∧n≤1000000
def cz(n:Int):List UInt8:=dec n.toNat
def fq(l:List Int):List UInt8:=if l=[]then [45]else dP 44 (l.map cz)
def iV(a b:Int):List UInt8:=cz a++46::46::cz b
def ow(i:Nat)(s:Step):List (List UInt8):=
 [kA,dec i,jB,cz s.cE,k9,fq s.dt,oq,iV s.min s.max,ot,fq s.next]++if 0≤s.back then [ou,cz s.back,k_,cz s.dI]else []
def oX(w:bZ):List (List UInt8):=[ij,cz w.src,cz w.dst,cz w.dI]
def w7(a b:Int):List (List UInt8):=[ov,iV a b]
def ed(i:Nat)(s:Step):List UInt8:=dP 32 (ow i s)
def dE(w:bZ):List UInt8:=dP 32 (oX w)
def gY(a b:Int):List UInt8:=dP 32 (w7 a b)
def ints(l:List Nat):List Int:=l.map fun n:Nat=>(n:Int)
def pz(w:List UInt8):Option (List Nat):=if w=[45]then some []else mu w
def iJ(a3 a5 a7 a9:List UInt8)(bk:Option (Int×Int)):Option Step:=
 match fH a3,mu a5,mv a7,pz a9,bk with
 |some r,some t,some mm,some nx,some bl=>some ⟨r,ints t,mm.1,mm.2,ints nx,bl.1,bl.2⟩
 |_,_,_,_,_=>none
def sN(x y:List UInt8):Option (Int×Int):=
 match fH x,fH y with
 |some a,some b=>some (a,b)
 |_,_=>none
def jC(i:Nat)(a0 a1 a2 a4 a6 a8:List UInt8):Bool:=a0==kA&&a1==dec i&&a2==jB&&a4==k9&&a6==oq&&a8==ot
def eR(i:Nat)(line:List UInt8):Option Step:=
 match bN 32 line with
 |[a0,a1,a2,a3,a4,a5,a6,a7,a8,a9]=>if jC i a0 a1 a2 a4 a6 a8=true then iJ a3 a5 a7 a9 (some (-1,0))else none
 |[a0,a1,a2,a3,a4,a5,a6,a7,a8,a9,b0,b1,b2,b3]=>if jC i a0 a1 a2 a4 a6 a8=true∧b0=ou∧b2=k_ then iJ a3 a5 a7 a9 (sN b1 b3)else none
 |_=>none
def jR(line:List UInt8):Option bZ:=
 match bN 32 line with
 |[a0,a1,a2,a3]=>if a0=ij then
   match fH a1,fH a2,fH a3 with
   |some x,some y,some z=>some ⟨x,y,z⟩
   |_,_,_=>none
  else none
 |_=>none
def q_(line:List UInt8):Option (Int×Int):=
 match bN 32 line with
 |[a0,a1]=>if a0=ov then(mv a1).map fun p=>((p.1:Int),(p.2:Int))else none
 |_=>none
structure Kg(s:Step):Prop where
 cE:kK s.cE
 dt:s.dt≠[]
 u6: ∀n∈s.dt,kK n
 min:kK s.min
 max:kK s.max
 next: ∀n∈s.next,kK n
 back:(s.back= -1∧s.dI=0)∨(kK s.back∧kK s.dI)
theorem Gx(l:List Nat):(ints l).map cz=l.map dec:=by unfold ints;rw[List.map_map];rfl
theorem Af{l:List Nat}(h: ∀n∈l,n≤1000000): ∀n∈ints l,kK n:=by intro n hn;obtain⟨m,hm,rfl⟩:=List.mem_map.1 hn;have:=h m hm;exact⟨by omega,by omega⟩
theorem CW{l:List Nat}:ints l=[]↔l=[]:=by unfold ints;exact List.map_eq_nil_iff
theorem yw{l:List Int}(h: ∀n∈l,kK n):ints (l.map Int.toNat)=l:=by
 unfold ints;rw[List.map_map];conv=>rhs;rw[←List.map_id l]
 exact List.map_congr_left fun n hn=>by have:=(h n hn).1;show((n.toNat:Nat):Int)=n;omega
theorem rb{l:List Nat}(h:l≠[]):fq (ints l)=dP 44 (l.map dec):=by unfold fq;rw[if_neg (fun e=>h (CW.1 e)),Gx]
theorem D1{c:UInt8}{x:List UInt8}{r:List (List UInt8)}(h:x≠[]):(dP c (x::r)).head? =x.head?:=by
 cases x with
 |nil=>exact absurd rfl h
 |cons b t=>cases r<;>rfl
theorem Gy(l:List Nat)(h:l≠[]):dP 44 (l.map dec)≠[45]:=by
 cases l with
 |nil=>exact absurd rfl h
 |cons n l=>
  intro e;have:=D1 (c:=44) (r:=l.map dec) (p9 n);rw[List.map_cons]at e;rw[e]at this;cases hd:dec n with
  |nil=>exact p9 n hd
  |cons b t=>
   rw[hd]at this;simp only[List.head?_cons,Option.some.injEq]at this;have hb:=q8 n b (by rw[hd];simp);rw[←this]at hb;cases hb
theorem w8{w:List UInt8}{l:List Nat}:pz w=some l↔w=fq (ints l)∧ ∀n∈l,n≤1000000:=by
 unfold pz;by_cases hw:w=[45]
 ·rw[if_pos hw];constructor
  ·intro h;obtain rfl:=Option.some.inj h;exact⟨by rw[hw];rfl,by simp⟩
  rintro⟨h,_⟩;cases l with
  |nil=>rfl
  |cons n l=>
   rw[rb (by simp),hw]at h;exact absurd h.symm (Gy (n::l) (by simp))
 rw[if_neg hw,sd];constructor
 ·rintro⟨h1,h2,h3⟩;exact⟨by rw[rb h2];exact h1,h3⟩
 rintro⟨h1,h3⟩;have hl:l≠[]:=fun e=>by subst e;exact hw (by rw[h1];rfl)
 exact⟨by rw[←rb hl];exact h1,hl,h3⟩
theorem oY{a3 a5 a7 a9:List UInt8}{bk:Option (Int×Int)}{s:Step}:iJ a3 a5 a7 a9 bk=some s↔
  a3=cz s.cE∧a5=fq s.dt∧a7=iV s.min s.max∧a9=fq s.next∧bk=some (s.back,s.dI)∧kK s.cE∧s.dt≠[]∧(∀n∈s.dt,kK n)∧kK s.min∧kK s.max∧ ∀n∈s.next,kK n:=by
 unfold iJ;constructor
 ·intro h;split at h
  ·rename_i r t mm nx bl h1 h2 h3 h4;obtain rfl:=Option.some.inj h;obtain⟨e1,l1⟩:=gX.1 h1;obtain⟨e2,n2,l2⟩:=sd.1 h2;obtain⟨e3,l3,l4⟩:=oW.1 h3;obtain⟨e4,l5⟩:=w8.1 h4;refine⟨?_,?_,?_,e4,rfl,⟨Int.natCast_nonneg _,by show(r:Int)≤_;omega⟩,fun e=>n2 (CW.1 e),Af l2,⟨Int.natCast_nonneg _,by show(mm.1:Int)≤_;omega⟩,⟨Int.natCast_nonneg _,by show(mm.2:Int)≤_;omega⟩,Af l5⟩
   ·unfold cz;rw[Int.toNat_natCast];exact e1
   ·rw[rb n2];exact e2
   unfold iV cz;rw[Int.toNat_natCast,Int.toNat_natCast];exact e3
  cases h
 rintro⟨rfl,rfl,rfl,rfl,rfl,⟨h1,h2⟩,h3,h4,⟨h5,h6⟩,⟨h7,h8⟩,h9⟩;have e1:fH (cz s.cE)=some s.cE.toNat:=iI (by omega);have e2:mu (fq s.dt)=some (s.dt.map Int.toNat):=by
  rw[sd];refine⟨?_,by simpa using h3,fun n hn=>?_⟩
  ·unfold fq;rw[if_neg h3,List.map_map];rfl
  obtain⟨m,hm,rfl⟩:=List.mem_map.1 hn;have:=(h4 m hm).2;omega
 have e3:mv (iV s.min s.max)=some (s.min.toNat,s.max.toNat):=oW.2 ⟨rfl,by omega,by omega⟩;have e4:pz (fq s.next)=some (s.next.map Int.toNat):=by rw[w8,yw h9];refine⟨rfl,fun n hn=>?_⟩;obtain⟨m,hm,rfl⟩:=List.mem_map.1 hn;have:=(h9 m hm).2;omega
 rw[e1,e2,e3,e4];simp only;rw[yw h4,yw h9,Int.toNat_of_nonneg h1,Int.toNat_of_nonneg h5,Int.toNat_of_nonneg h7]
theorem jS{c:UInt8}(h:j_ c=false)(n:Int):c∉cz n:=BO h _
theorem yx{c d:UInt8}(hd:c≠d): ∀{ps:List (List UInt8)},(∀p∈ps,c∉p)→c∉dP d ps
 |[],_=>by simp[dP]
 |[x],h=>h x (by simp)
 |x::y::r,h=>by show c∉x++d::dP d (y::r);rw[List.mem_append,List.mem_cons,not_or,not_or];exact⟨h x (by simp),hd,yx hd fun p hp=>h p (by simp[hp])⟩
theorem Gz{c:UInt8}(h:j_ c=false)(h1:c≠44)(h2:c≠45)(l:List Int):c∉fq l:=by
 unfold fq;split
 ·simpa using h2
 exact yx h1 fun p hp=>by obtain⟨n,_,rfl⟩:=List.mem_map.1 hp;exact jS h n
theorem se{c:UInt8}(h:j_ c=false)(h1:c≠46)(a b:Int):c∉iV a b:=by unfold iV;rw[List.mem_append,List.mem_cons,List.mem_cons,not_or,not_or,not_or];exact⟨jS h a,h1,h1,jS h b⟩
theorem Ag{c:UInt8}(h:j_ c=false)(h1:c≠44)(h2:c≠45)(h3:c≠46)(h4:c∉kA++jB++k9++oq++ot++ou++k_)(i:Nat)(s:Step): ∀p∈ow i s,c∉p:=by
 simp only[List.mem_append,not_or]at h4;obtain⟨⟨⟨⟨⟨⟨k1,k2⟩,k3⟩,k4⟩,k5⟩,k6⟩,k7⟩:=h4;intro p hp;unfold ow at hp;have hd:=fun n=>jS h n;have hn:=fun l=>Gz h h1 h2 l;have hr:=fun a b=>se h h3 a b;have hi:=BO h i;rcases List.mem_append.1 hp with hp|hp
 ·simp only[List.mem_cons,List.not_mem_nil,or_false]at hp;rcases hp with rfl|rfl|rfl|rfl|rfl|rfl|rfl|rfl|rfl|rfl
  ·exact k1
  ·exact hi
  ·exact k2
  ·exact hd _
  ·exact k3
  ·exact hn _
  ·exact k4
  ·exact hr _ _
  ·exact k5
  exact hn _
 split at hp
 ·simp only[List.mem_cons,List.not_mem_nil,or_false]at hp;rcases hp with rfl|rfl|rfl|rfl
  ·exact k6
  ·exact hd _
  ·exact k7
  exact hd _
 cases hp
theorem w9{i:Nat}{line:List UInt8}{s:Step}:eR i line=some s↔line=ed i s∧Kg s:=by
 unfold eR;constructor
 ·intro h;split at h
  ·rename_i a0 a1 a2 a3 a4 a5 a6 a7 a8 a9 hs;split at h
   ·rename_i hf;unfold jC at hf;simp only[Bool.and_eq_true,beq_iff_eq]at hf;obtain⟨⟨⟨⟨⟨rfl,rfl⟩,rfl⟩,rfl⟩,rfl⟩,rfl⟩:=hf;obtain⟨rfl,rfl,rfl,rfl,hb,k1,k2,k3,k4,k5,k6⟩:=oY.1 h;simp only[Option.some.injEq,Prod.mk.injEq]at hb;refine⟨?_,k1,k2,k3,k4,k5,k6,.inl ⟨hb.1.symm,hb.2.symm⟩⟩;unfold ed ow;rw[if_neg (by rw[←hb.1];decide),List.append_nil];exact((ie 32).1 hs).1
   cases h
  ·rename_i a0 a1 a2 a3 a4 a5 a6 a7 a8 a9 b0 b1 b2 b3 hs;split at h
   ·rename_i hf;obtain⟨hf,rfl,rfl⟩:=hf;unfold jC at hf;simp only[Bool.and_eq_true,beq_iff_eq]at hf;obtain⟨⟨⟨⟨⟨rfl,rfl⟩,rfl⟩,rfl⟩,rfl⟩,rfl⟩:=hf;obtain⟨rfl,rfl,rfl,rfl,hb,k1,k2,k3,k4,k5,k6⟩:=oY.1 h;unfold sN at hb;split at hb
    ·rename_i x y h1 h2;obtain⟨e1,l1⟩:=gX.1 h1;obtain⟨e2,l2⟩:=gX.1 h2;simp only[Option.some.injEq,Prod.mk.injEq]at hb;refine⟨?_,k1,k2,k3,k4,k5,k6,.inr ⟨⟨by omega,by omega⟩,⟨by omega,by omega⟩⟩⟩;have f1:b1=cz s.back:=by unfold cz;rw[←hb.1,Int.toNat_natCast];exact e1
     have f2:b3=cz s.dI:=by unfold cz;rw[←hb.2,Int.toNat_natCast];exact e2
     unfold ed ow;rw[if_pos (by omega),←f1,←f2];exact((ie 32).1 hs).1
    cases hb
   cases h
  cases h
 rintro⟨rfl,hN⟩;have hs:bN 32 (ed i s)=ow i s:=(ie 32).2 ⟨rfl,by unfold ow;simp,Ag rfl (by decide) (by decide) (by decide) (by decide) i s⟩;rw[hs];have hf:jC i kA (dec i) jB k9 oq ot=true:=by unfold jC;simp
 rcases hN.back with⟨h1,h2⟩|⟨⟨h1,Vc⟩,⟨h2,Vd⟩⟩
 ·unfold ow;rw[if_neg (by rw[h1];decide),List.append_nil];simp only;rw[if_pos hf,oY];exact⟨rfl,rfl,rfl,rfl,by rw[h1,h2],hN.cE,hN.dt,hN.u6,hN.min,hN.max,hN.next⟩
 unfold ow;rw[if_pos h1];simp only[List.cons_append,List.nil_append];rw[if_pos (by refine⟨hf,?_,?_⟩<;>trivial),oY];refine⟨rfl,rfl,rfl,rfl,?_,hN.cE,hN.dt,hN.u6,hN.min,hN.max,hN.next⟩;unfold sN cz;rw[iI (by omega),iI (by omega)];simp only;rw[Int.toNat_of_nonneg h1,Int.toNat_of_nonneg h2]
theorem sO{line:List UInt8}{w:bZ}:jR line=some w↔line=dE w∧kK w.src∧kK w.dst∧kK w.dI:=by
 unfold jR;constructor
 ·intro h;split at h
  ·rename_i a0 a1 a2 a3 hs;split at h
   ·rename_i h0;subst h0;split at h
    ·rename_i x y z h1 h2 h3;obtain⟨rfl,l1⟩:=gX.1 h1;obtain⟨rfl,l2⟩:=gX.1 h2;obtain⟨rfl,l3⟩:=gX.1 h3;obtain rfl:=Option.some.inj h;exact⟨((ie 32).1 hs).1,⟨by show(0:Int)≤x;omega,by show(x:Int)≤_;omega⟩,⟨by show(0:Int)≤y;omega,by show(y:Int)≤_;omega⟩,⟨by show(0:Int)≤z;omega,by show(z:Int)≤_;omega⟩⟩
    cases h
   cases h
  cases h
 rintro⟨rfl,⟨h1,Vc⟩,⟨h2,Vd⟩,⟨h3,Zw⟩⟩;have hs:bN 32 (dE w)=oX w:=(ie 32).2 ⟨rfl,by unfold oX;simp,fun p hp=>by
  unfold oX at hp;simp only[List.mem_cons,List.not_mem_nil,or_false]at hp;rcases hp with rfl|rfl|rfl|rfl
  ·decide
  ·exact jS rfl _
  ·exact jS rfl _
  exact jS rfl _⟩
 rw[hs];unfold oX;simp only[if_true];unfold cz;rw[iI (by omega),iI (by omega),iI (by omega)];simp only;rw[Int.toNat_of_nonneg h1,Int.toNat_of_nonneg h2,Int.toNat_of_nonneg h3]
theorem w_{line:List UInt8}{a b:Int}:q_ line=some (a,b)↔line=gY a b∧kK a∧kK b:=by
 unfold q_;constructor
 ·intro h;split at h
  ·rename_i a0 a1 hs;split at h
   ·rename_i h0;subst h0;rw[Option.map_eq_some_iff]at h;obtain⟨⟨x,y⟩,h1,h2⟩:=h;obtain⟨rfl,l1,l2⟩:=oW.1 h1;simp only[Prod.mk.injEq]at h2;obtain⟨rfl,rfl⟩:=h2;exact⟨((ie 32).1 hs).1,⟨by omega,by omega⟩,⟨by omega,by omega⟩⟩
   cases h
  cases h
 rintro⟨rfl,⟨h1,Vc⟩,⟨h2,Vd⟩⟩;have hs:bN 32 (gY a b)=w7 a b:=(ie 32).2 ⟨rfl,by unfold w7;simp,fun p hp=>by
  unfold w7 at hp;simp only[List.mem_cons,List.not_mem_nil,or_false]at hp;rcases hp with rfl|rfl
  ·decide
  exact se rfl (by decide) _ _⟩
 rw[hs];unfold w7;simp only[if_true];have rp:mv (iV a b)=some (a.toNat,b.toNat):=oW.2 ⟨rfl,by omega,by omega⟩;rw[rp];simp only[Option.map_some];rw[Int.toNat_of_nonneg h1,Int.toNat_of_nonneg h2]
def Kh(bl:Int×Int):List UInt8:=if 0≤bl.1 then(32::ou++[32])++(cz bl.1++((32::k_++[32])++cz bl.2))else []
theorem pA(i:Nat)(s:Step):ed i s=(kA++32::(dec i++32::(jB++[32])))++(cz s.cE++((32::k9++[32])++(fq s.dt++((32::oq++[32])++(cz s.min++([46,46]++(cz s.max++((32::ot++[32])++(fq s.next++Kh (s.back,s.dI)))))))))):=by
 unfold ed ow Kh iV;by_cases h:0≤s.back
 ·rw[if_pos h,if_pos h];simp[dP]
 rw[if_neg h,if_neg h];simp[dP]
end Go.Proofs.YtgehbndkogohpaaGreatDoor
namespace Go.Proofs.YtgehbndkogohpaaGreatDoor
open Go Go.K
set_option maxRecDepth 10000
attribute [local irreducible] W WL cD bc bK bd bg bh cq ck
set_option maxHeartbeats 1000000
theorem oE{l:List UInt8}(h: ∀v,Lib.atoiAll l= .ok v→0≤v→v≤1000000→Lib.itoa v≠l):fH l=none:=by
 cases hn:fH l with
 |none=>rfl
 |some n=>
  obtain⟨h1,h2,h3⟩:=LW hn;exact absurd h2 (h _ h1 (by omega) (by omega))
def lV:List PanicEntry:=[{v:=.iface 341 (.agg #[]),recovered:=false}]
theorem dZ(b:Bool)(g:G):CallsIn Wd 0 Tryz.prog 283 #[.bool b] g.w (vq g (fun _ r=>r= .tuple #[]∧b=true) lV (b=false)):=by
 have hs:=St.start g;refine enter Tryz.func283 rfl Tryz.ntmps283 rfl ?_;cases b with
 |true=>
  refine aY rfl ?_;refine aV rfl rfl ?_;apply aF;exact kD rfl (.inl (hs.ret ⟨rfl,rfl⟩))
 |false=>
  refine aY rfl ?_;refine aM rfl rfl ?_;apply aA;refine ak rfl rfl (aQ T.ok rfl (vs:=[]) (cells:=[]) rfl rfl rfl rfl [] rfl (by kernel_rfl) ?_);skip;refine ak rfl rfl (IF rfl rfl rfl rfl ?_);skip;refine bA rfl (DQ rfl rfl ?_);exact dv (vq.th rfl (a_.refl g))
theorem jE(s:List UInt8)(g:G)(hs:s.length≤1000000)(hF:jv g):CallsIn Wd 0 Tryz.prog 285 #[.string (bs s)] g.w (vq g (fun _ r=> ∃n:Nat,fH s=some n∧r= .int .i64 n) lV (fH s=none)):=by
 have hlen:=hs;clear hs;have hs:=St.start g;refine enter Tryz.func285 rfl Tryz.ntmps285 rfl ?_;refine aY rfl ?_;refine cN 1 rfl ?_;refine ak rfl rfl (au ON aJ rfl rfl rfl rfl rfl (L_ s _ hlen hF) ?_);rintro g1 _ aP ⟨x,err,rfl,hv⟩;replace hs:=hs.call aP;have Kn:=hF.mono aP.le;cases ha:Lib.atoiAll s with
 |ok x0=>
  rw[ha]at hv;obtain⟨rfl,rfl⟩:=hv;refine bj rfl ?_;refine cN 1 rfl ?_;refine ak rfl rfl (og (neg:=false) rfl rfl rfl rfl rfl ?_);refine Wp 5 rfl ?_;by_cases h0:0≤x
  ·refine cO 16 (b':=true) (by simp[h0]) rfl ?_;refine Wp 4 rfl ?_;by_cases h1:x≤1000000
   ·refine cO 20 (b':=true) (by simp[h1]) rfl ?_;refine Wp 1 rfl ?_;refine ak rfl rfl (au M3 aJ rfl rfl rfl rfl rfl (GK x _ (by unfold qN;omega) Kn) ?_);rintro g2 _ xN rfl;replace hs:=hs.call xN;refine Wp 3 rfl ?_;by_cases h2:Lib.itoa x=s
    ·refine cO 25 (b':=true) (by rw[cB,cB];simp[h2]) rfl ?_;refine ak rfl rfl (cj fp aJ rfl rfl rfl rfl rfl (dZ true _) ?_ fun h=>nomatch h);rintro g3 _ eW ⟨rfl,_⟩;replace hs:=hs.call eW;apply bW;refine aY rfl ?_;refine aI ?_;skip;refine aX rfl rfl (.inl (hs.ret ⟨x.toNat,Gv ha h0 h1 h2,?_⟩));show Value.int .i64 x=_;rw[Int.toNat_of_nonneg h0]
    refine cO 25 (b':=false) (by rw[cB,cB];simp[h2]) rfl ?_;refine ak rfl rfl (cj fp aJ rfl rfl rfl rfl rfl (dZ false _) ?_ ?_)
    ·rintro g3 _ eW ⟨_,hc⟩;cases hc
    intro _ g3 eW;replace hs:=hs.call eW
    (repeat (first|with_reducible refine gB ?_|with_reducible refine gC ?_|with_reducible refine gD ?_))
    exact dv (vq.th (oE fun v hv=>by rw[ha]at hv;cases hv;exact fun _ _=>h2) hs.nC)
   refine cO 20 (b':=false) (by simp[h1]) rfl ?_;refine Wp 5 rfl ?_;refine ak rfl rfl (cj fp aJ rfl rfl rfl rfl rfl (dZ false _) ?_ ?_)
   ·rintro g3 _ eW ⟨_,hc⟩;cases hc
   intro _ g3 eW;replace hs:=hs.call eW
   (repeat (first|with_reducible refine gB ?_|with_reducible refine gC ?_|with_reducible refine gD ?_))
   exact dv (vq.th (oE fun v hv=>by rw[ha]at hv;cases hv;exact fun _ h=>absurd h h1) hs.nC)
  refine cO 16 (b':=false) (by simp[h0]) rfl ?_;refine Wp 9 rfl ?_;refine ak rfl rfl (cj fp aJ rfl rfl rfl rfl rfl (dZ false _) ?_ ?_)
  ·rintro g3 _ eW ⟨_,hc⟩;cases hc
  intro _ g3 eW;replace hs:=hs.call eW
  (repeat (first|with_reducible refine gB ?_|with_reducible refine gC ?_|with_reducible refine gD ?_))
  exact dv (vq.th (oE fun v hv=>by rw[ha]at hv;cases hv;exact fun h=>absurd h h0) hs.nC)
 |range=>
  rw[ha]at hv;obtain⟨t,p,rfl⟩:=hv;refine bj rfl ?_;refine cN 1 rfl ?_;refine ak rfl rfl (og (neg:=false) rfl rfl rfl rfl rfl ?_);refine Wp 14 rfl ?_;refine ak rfl rfl (cj fp aJ rfl rfl rfl rfl rfl (dZ false _) ?_ ?_)
  ·rintro g3 _ eW ⟨_,hc⟩;cases hc
  intro _ g3 eW;replace hs:=hs.call eW
  (repeat (first|with_reducible refine gB ?_|with_reducible refine gC ?_|with_reducible refine gD ?_))
  exact dv (vq.th (oE fun v hv=>by rw[ha]at hv;cases hv) hs.nC)
 |_=>
  rw[ha]at hv;obtain⟨t,p,rfl⟩:=hv;refine bj rfl ?_;refine cN 1 rfl ?_;refine ak rfl rfl (og (neg:=false) rfl rfl rfl rfl rfl ?_);refine Wp 14 rfl ?_;refine ak rfl rfl (cj fp aJ rfl rfl rfl rfl rfl (dZ false _) ?_ ?_)
  ·rintro g3 _ eW ⟨_,hc⟩;cases hc
  intro _ g3 eW;replace hs:=hs.call eW
  (repeat (first|with_reducible refine gB ?_|with_reducible refine gC ?_|with_reducible refine gD ?_))
  exact dv (vq.th (oE fun v hv=>by rw[ha]at hv;cases hv) hs.nC)
end Go.Proofs.YtgehbndkogohpaaGreatDoor
namespace Go.Proofs.YtgehbndkogohpaaGreatDoor
open Go Go.K
set_option maxRecDepth 10000
attribute [local irreducible] W WL cD bc bK bd bg bh cq ck
set_option maxHeartbeats 2000000
theorem o3(c:UInt8)(s:List UInt8):(bN c s).length≤s.length+1:=by
 induction s with
 |nil=>simp[bN]
 |cons b t ih=>
  unfold bN;split
  ·simp only[List.length_cons];omega
  split
  ·simp
  rename_i x r h;rw[h]at ih;simp only[List.length_cons]at ih⊢;omega
theorem kP(c:UInt8)(s:List UInt8): ∀p∈bN c s,p.length≤s.length:=by
 induction s with
 |nil=>simp[bN]
 |cons b t ih=>
  unfold bN;split
  ·intro p hp;rcases List.mem_cons.1 hp with rfl|hp
   ·simp
   have:=ih p hp;simp only[List.length_cons];omega
  split
  ·simp
  rename_i x r h;rw[h]at ih;intro p hp;rcases List.mem_cons.1 hp with rfl|hp
  ·have:=ih x (by simp);simp only[List.length_cons];omega
  have:=ih p (List.mem_cons_of_mem _ hp);simp only[List.length_cons];omega
theorem yI{α:Type}{l:List (Option α)}{k:Nat}(h:l[k]? =some none):kJ l=none:=by
 cases ha:kJ l with
 |none=>rfl
 |some xs=>
  rw[lF.1 ha,List.getElem?_map]at h;cases hx:xs[k]? <;>rw[hx]at h<;>cases h
theorem GW(s p:List UInt8):(Lib.cut s p).1.length≤s.length:=by
 unfold Lib.cut;split
 ·show(s.take _).length≤_;rw[List.length_take];omega
 exact Nat.le_refl _
theorem GX(s p:List UInt8):(Lib.cut s p).2.1.length≤s.length:=by
 unfold Lib.cut;split
 ·show(s.drop _).length≤_;rw[List.length_drop];omega
 exact Nat.zero_le _
theorem GY(s:List UInt8):mv s=match Lib.cut s [46,46]with
  |(a,b,true)=>(match fH a,fH b with
   |some x,some y=>some (x,y)
   |_,_=>none)
  |(_,_,false)=>none:=by
 unfold mv Lib.cut;by_cases h:Lib.index s [46,46]<0
 ·rw[if_pos h,if_neg (by omega)]
 rw[if_neg h,if_pos (by omega)];rfl
theorem GM(s:List UInt8)(g:G)(hlen:s.length≤1000000)(hF:jv g):
  CallsIn Wd 0 Tryz.prog 284 #[.string (bs s)] g.w (vq g (fun _ r=> ∃a b:Nat,mv s=some (a,b)∧r= .tuple #[.int .i64 a,.int .i64 b]) lV (mv s=none)):=by
 have hs:=St.start g;refine enter Tryz.func284 rfl Tryz.ntmps284 rfl ?_;refine aY rfl ?_;refine cN 1 rfl ?_;refine ak rfl rfl (au OM aJ rfl rfl rfl rfl rfl (QN s [46,46] _ hlen hF) ?_);rintro g1 _ aP rfl;replace hs:=hs.call aP;have Kn:=hF.mono aP.le;have Uk:(Lib.cut s [46,46]).1.length≤1000000:=Nat.le_trans (GW s [46,46]) hlen;have Ul:(Lib.cut s [46,46]).2.1.length≤1000000:=Nat.le_trans (GX s [46,46]) hlen;have rp:=GY s;generalize Lib.cut s [46,46]=q at*;obtain⟨a,b,ok⟩:=q;cases ok with
 |false=>
  refine bj rfl ?_;refine cN 1 rfl ?_;refine ak rfl rfl (cj fp aJ rfl rfl rfl rfl rfl (dZ false _) ?_ ?_)
  ·rintro g3 _ eW ⟨_,hc⟩;cases hc
  intro _ g3 eW;replace hs:=hs.call eW
  (repeat (first|with_reducible refine gB ?_|with_reducible refine gC ?_|with_reducible refine gD ?_))
  exact dv (vq.th (rp) hs.nC)
 |true=>
  refine bj rfl ?_;refine cN 1 rfl ?_;refine ak rfl rfl (cj fp aJ rfl rfl rfl rfl rfl (dZ true _) ?_ fun h=>nomatch h);rintro g3 _ eW ⟨rfl,_⟩;replace hs:=hs.call eW;have ah:=eW.le;skip;have Kn:=Kn.mono eW.le;apply bW;refine cN 1 rfl ?_;refine ak rfl rfl (cj qs aJ rfl rfl rfl rfl rfl (jE a _ Uk Kn) ?_ ?_)
  ·rintro g4 _ ki ⟨n,hn,rfl⟩;replace hs:=hs.call ki;have Kn:=Kn.mono ki.le;refine Wp 1 rfl ?_;refine ak rfl rfl (cj qs aJ rfl rfl rfl rfl rfl (jE b _ Ul Kn) ?_ ?_)
   ·rintro g5 _ nD ⟨m,hm,rfl⟩;replace hs:=hs.call nD;refine bj rfl ?_;refine aI ?_;skip;refine rH rfl rfl rfl (.inl (hs.ret ⟨n,m,?_,rfl⟩));rw[rp];simp only[hn,hm]
   intro hn g5 nD;replace hs:=hs.call nD
   (repeat (first|with_reducible refine gB ?_|with_reducible refine gC ?_|with_reducible refine gD ?_))
   exact dv (vq.th (by rw[rp];simp only[hn];split<;>first|rfl|(rename_i h1 h2;cases h2)) hs.nC)
  intro hn g5 nD;replace hs:=hs.call nD
  (repeat (first|with_reducible refine gB ?_|with_reducible refine gC ?_|with_reducible refine gD ?_))
  exact dv (vq.th (by rw[rp];simp only[hn]) hs.nC)
theorem GL(s:List UInt8)(g:G)(hlen:s.length≤1000000)(hF:jv g):
  CallsIn Wd 0 Tryz.prog 286 #[.string (bs s)] g.w (vq g (fun g' r=> ∃ns,mu s=some ns∧Rs g' r (ints ns)) lV (mu s=none)):=by
 have hs:=St.start g;have aq:=G.le.refl g;refine enter Tryz.func286 rfl Tryz.ntmps286 rfl ?_;refine aY rfl ?_;refine aY rfl ?_;apply aD;refine cN 1 rfl ?_;refine ak rfl rfl (au ED aJ rfl rfl rfl rfl rfl (yG s 44 _ hlen hF) ?_);rintro g1 vo aP Kk;obtain⟨gz,iQ,cP,jq,aH⟩:=hs.nU aP Kk;have ah:=aP.le.trans jq;rw[←iQ];replace hs:=cP;clear cP Kk;replace aq:=G.le.trans aq ah;have wi:=o3 44 s;have rq:=kP 44 s;have Rn:mu s=kJ ((bN 44 s).map fH):=rfl;generalize bN 44 s=ps at*;obtain⟨pa,pc,rfl⟩:=aH.isSlice;replace hs:=hs.iN 3 1 none;have QI:=aq;have Kl:(ps.map yf.mk).length=ps.length:=List.length_map _;have GQ:Rs gz (.slice pa ps.length pc) (ps.map yf.mk):=by have h:=aH;rw[Kl]at h;exact h
 clear aH;rw[Kl];refine bj rfl ?_;apply aG;refine bM (fun m a' w=> ∃(k:Nat) (ns:List Nat) (ra:Option Addr) (rc:Nat) (g':G),w=g'.w∧St g g' [.row 3 1 (.slice ra ns.length rc) ns.length ((ints ns).map (Value.int .i64))]∧G.le gz g'∧k≤ps.length∧m=ps.length-k∧ns.length=k∧(ps.take k).map fH=ns.map some∧
  Fr 20 [] [(3,.slice ra ns.length rc),(7,.slice pa ps.length pc),(8,.int .i64 ps.length),(9,.int .i64 k)] a') ps.length (fun a' ha=>⟨0,[],none,0,gz,rfl,hs,G.le.refl _,Nat.zero_le _,rfl,rfl,rfl,ha.keep (by(repeat (first|exact trivial|refine⟨rfl,?_⟩)))⟩) ?_
 clear hs aq;rintro m a' _ ⟨k,ns,ra,rc,g',rfl,hs,yH,hk,rfl,U2,OT,eF⟩;have aH:=GQ.mono yH;have aq:=QI.trans yH;revert a';apply cI;refine aY rfl ?_;apply aD;by_cases bC:k<ps.length
 ·refine aM (b:=decide ((k:Int)<(ps.length:Int))) (by simp;omega) rfl ?_;apply aF;apply ar;apply aD;apply aG;apply cM;refine ak rfl rfl (aW T.ok rfl aH (y:=⟨ps[k]⟩) (by simp[dS,bC]) rfl rfl rfl rfl rfl rfl ?_);rintro b p ys aL rfl;refine Wm 1 [.e aL 0] (St.start _) rfl ?_;refine bj rfl ?_;apply aA;refine Wp 2 rfl ?_;refine ak rfl rfl (cj qs aJ rfl rfl rfl rfl rfl (jE ps[k] _ (Nat.le_trans (rq _ (List.getElem_mem bC)) hlen) (hF.mono aq)) ?_ ?_)
  ·rintro g4 _ ki ⟨n,hn,rfl⟩;replace hs:=hs.call ki;replace yH:=yH.trans ki.le;skip;refine ak rfl rfl (bD T.ok rfl hs (vs:=[(0,.int .i64 n)]) (cells:=[.int .i64 n]) rfl rfl rfl rfl rfl rfl (by decide) (by decide) (by kernel_rfl) rfl ?_);rintro ZE ZF hs ah;replace yH:=yH.trans ah;skip;refine ak rfl rfl (cd T.ok 1 rfl hs rfl rfl rfl rfl rfl rfl rfl (by decide) rfl (Src.fL (hs.own 0 _ rfl).1).2 (by simp[Value.oneCell']) (by show(ns.length+1)*8≤_;omega) (by unfold maxLen;show ns.length+1≤_;omega) ?_);rintro a9 c9 g9 hs ah;replace yH:=yH.trans ah;replace hs:=hs.drop 0;refine Wp 1 rfl ?_;apply aE;apply bR;apply ar;apply aA;refine Wp 2 rfl ?_;apply aE;refine fun a ha=>⟨ps.length-(k+1),by omega,k+1,ns++[n],a9,c9,g9,rfl,?_,yH,by omega,rfl,by simp[U2],?_,ha.keep ⟨?_,rfl,rfl,kI rfl (by rw[wr (by omega) (by omega)];omega),trivial⟩⟩
   ·have e1:(ints (ns++[n])).map (Value.int .i64)=(ints ns).map (Value.int .i64)++[.int .i64 n]:=by simp[ints]
    rw[e1,List.length_append];exact hs
   ·rw[List.take_add_one,List.map_append,OT,List.getElem?_eq_getElem bC];simp[hn]
   rw[List.length_append];rfl
  intro hn g5 nD;replace hs:=hs.call nD
  (repeat (first|with_reducible refine gB ?_|with_reducible refine gC ?_|with_reducible refine gD ?_))
  exact dv (vq.th (by rw[Rn];exact yI (k:=k) (by rw[List.getElem?_map,List.getElem?_eq_getElem bC];simp[hn])) hs.nC)
 refine aV (b:=decide ((k:Int)<(ps.length:Int))) (by simp;omega) rfl ?_;apply bF;apply bG;apply bG;apply c_;apply ar;refine aY rfl ?_;obtain rfl:k=ps.length:=by omega
 obtain⟨gy,QM,Yd,Rr,ny⟩:=hs.cK (α:=Int) (xs:=ints ns) (i:=0) rfl (cG.ints _ _);rw[←QM];refine aI ?_;skip;refine aX rfl rfl (.inl (Yd.ret ⟨ns,?_,?_⟩))
 ·rw[Rn];rw[List.take_length]at OT;exact lF.2 OT
 have e:(ints ns).length=ns.length:=by simp[ints]
 rw[←e];rw[←e]at ny;exact ny
end Go.Proofs.YtgehbndkogohpaaGreatDoor
namespace Go.Proofs.YtgehbndkogohpaaGreatDoor
open Go Go.K
set_option maxRecDepth 10000
attribute [local irreducible] W WL cD bc bK bd bg bh cq ck
set_option maxHeartbeats 2000000
def ir(fixed l:List (List UInt8)):Prop:=fixed.length≤l.length∧ ∀(i:Nat) (w:List UInt8),fixed[i]? =some w→w=[]∨l[i]? =some w
theorem tH:(⟨#[]⟩:ByteArray).toList=[]:=cB []
theorem tG(line:List UInt8)(fx:List (List UInt8))(v:Value)(g:G)(hlen:line.length≤1000000)(_hfl:fx.length≤100)(hF:jv g)(hv:Rs g v (fx.map yf.mk)):
  CallsIn Wd 0 Tryz.prog 282 #[.string (bs line),v] g.w (vq g (fun g' r=>ir fx (bN 32 line)∧Rs g' r ((bN 32 line).map yf.mk)) lV (¬ir fx (bN 32 line))):=by
 have hs:=St.start g;have aq:=G.le.refl g;have GU:=hv;obtain⟨fa,fc,rfl⟩:=hv.isSlice;refine enter Tryz.func282 rfl Tryz.ntmps282 rfl ?_;refine aY rfl ?_;refine cN 1 rfl ?_;refine ak rfl rfl (au ED aJ rfl rfl rfl rfl rfl (yG line 32 _ hlen hF) ?_);rintro g1 vo aP Kk;obtain⟨gz,iQ,cP,jq,aH⟩:=hs.nU aP Kk;have ah:=aP.le.trans jq;rw[←iQ];replace hs:=cP;clear cP Kk;replace aq:=G.le.trans aq ah;have wi:=o3 32 line;have rq:=kP 32 line;generalize bN 32 line=ps at*;obtain⟨pa,pc,rfl⟩:=aH.isSlice;have QI:=aq;have Kl:(ps.map yf.mk).length=ps.length:=List.length_map _;have Mx:(fx.map yf.mk).length=fx.length:=List.length_map _;have GQ:Rs gz (.slice pa ps.length pc) (ps.map yf.mk):=by have h:=aH;rw[Kl]at h;exact h
 have GU:Rs g (.slice fa fx.length fc) (fx.map yf.mk):=by have h:=GU;rw[Mx]at h;exact h
 clear aH hv;rw[Kl,Mx];refine bj rfl ?_;refine cN 5 rfl ?_;by_cases Hj:fx.length≤ps.length
 ·refine cO 14 (b':=true) (by simp;omega) rfl ?_;refine ak rfl rfl (cj fp aJ rfl rfl rfl rfl rfl (dZ true _) ?_ fun h=>nomatch h);rintro g3 _ eW ⟨rfl,_⟩;replace hs:=hs.call eW;have ah:=eW.le;replace aq:=G.le.trans aq ah;apply bW;apply aD;refine aY rfl ?_;apply aG;refine bM (fun m a' w=> ∃(k:Nat) (g':G),w=g'.w∧St g g' []∧G.le gz g'∧k≤fx.length∧m=fx.length-k∧(∀i w,i<k→fx[i]? =some w→w=[]∨ps[i]? =some w)∧
   Fr 36 [] [(5,.slice pa ps.length pc),(16,.slice fa fx.length fc),(17,.int .i64 fx.length),(18,.int .i64 k)] a') fx.length (fun a' ha=>⟨0,g3,rfl,hs,eW.le,Nat.zero_le _,rfl,fun i w h=>absurd h (by omega),ha.keep (by(repeat (first|exact trivial|refine⟨rfl,?_⟩)))⟩) ?_
  clear hs aq;rintro m a' _ ⟨k,g',rfl,hs,aq,hk,rfl,lT,eF⟩;have aH:=GQ.mono aq;have aU:=GU.mono (QI.trans aq);revert a';apply cI;refine aY rfl ?_;apply aD;by_cases bC:k<fx.length
  ·refine aM (b:=decide ((k:Int)<(fx.length:Int))) (by simp;omega) rfl ?_;apply aF;apply ar;apply aD;apply aG;refine cN 1 rfl ?_;refine ak rfl rfl (aW T.ok rfl aU (y:=⟨fx[k]⟩) (by simp[dS,bC]) rfl rfl rfl rfl rfl rfl ?_);rintro b p ys aL rfl;refine Wm 1 [.e aL 0] (St.start _) rfl ?_;refine bj rfl ?_;apply aA;refine Wp 3 rfl ?_;have Mb:k<ps.length:=by omega
   by_cases h0:fx[k]=[]
   ·refine cO 25 (b':=true) (by rw[cB,tH];simp[h0]) rfl ?_;refine Wp 7 rfl ?_;refine ak rfl rfl (cj fp aJ rfl rfl rfl rfl rfl (dZ true _) ?_ fun h=>nomatch h);rintro g3 _ eW ⟨rfl,_⟩;replace hs:=hs.call eW;have ah:=eW.le;obtain⟨aq,aH⟩:=cf ah aq aH;apply aE;apply bR;apply ar;apply aA;refine Wp 2 rfl ?_;apply aE;refine fun a ha=>⟨fx.length-(k+1),by omega,k+1,_,rfl,hs,aq,by omega,rfl,?_,ha.keep ⟨rfl,rfl,rfl,kI rfl (by rw[wr (by omega) (by omega)];omega),trivial⟩⟩
    intro i w hi hw;rcases Nat.lt_or_ge i k with ER|ER
    ·exact lT i w ER hw
    obtain rfl:i=k:=by omega
    rw[List.getElem?_eq_getElem bC]at hw;obtain rfl:=Option.some.inj hw;exact .inl h0
   refine cO 25 (b':=false) (by rw[cB,tH];simp[h0]) rfl ?_;refine Wp 2 rfl ?_;refine ak rfl rfl (aW T.ok rfl aH (y:=⟨ps[k]⟩) (by simp[dS,Mb]) rfl rfl rfl rfl rfl rfl ?_);rintro b p ys aL rfl;refine Wm 1 [.e aL 0] (St.start _) rfl ?_;refine Wp 3 rfl ?_;by_cases h1:ps[k]=fx[k]
   ·refine cO 32 (b':=true) (by rw[cB,cB];simp[h1]) rfl ?_;refine ak rfl rfl (cj fp aJ rfl rfl rfl rfl rfl (dZ true _) ?_ fun h=>nomatch h);rintro g3 _ eW ⟨rfl,_⟩;replace hs:=hs.call eW;have ah:=eW.le;obtain⟨aq,aH⟩:=cf ah aq aH;apply aE;apply bR;apply ar;apply aA;refine Wp 2 rfl ?_;apply aE;refine fun a ha=>⟨fx.length-(k+1),by omega,k+1,_,rfl,hs,aq,by omega,rfl,?_,ha.keep ⟨rfl,rfl,rfl,kI rfl (by rw[wr (by omega) (by omega)];omega),trivial⟩⟩
    intro i w hi hw;rcases Nat.lt_or_ge i k with ER|ER
    ·exact lT i w ER hw
    obtain rfl:i=k:=by omega
    rw[List.getElem?_eq_getElem bC]at hw;obtain rfl:=Option.some.inj hw;exact .inr (by rw[List.getElem?_eq_getElem Mb,h1])
   refine cO 32 (b':=false) (by rw[cB,cB];simp[h1]) rfl ?_;refine ak rfl rfl (cj fp aJ rfl rfl rfl rfl rfl (dZ false _) ?_ ?_)
   ·rintro g3 _ eW ⟨_,hc⟩;cases hc
   intro _ g3 eW;replace hs:=hs.call eW
   (repeat (first|with_reducible refine gB ?_|with_reducible refine gC ?_|with_reducible refine gD ?_))
   exact dv (vq.th (fun h=>by
        rcases h.2 k _ (List.getElem?_eq_getElem bC)with e|e
        ·exact h0 e
        rw[List.getElem?_eq_getElem Mb]at e;exact h1 (Option.some.inj e)) hs.nC)
  refine aV (b:=decide ((k:Int)<(fx.length:Int))) (by simp;omega) rfl ?_;apply bF;apply bG;apply bG;apply c_;apply ar;refine aY rfl ?_;refine aI ?_;skip;obtain rfl:k=fx.length:=by omega
  refine aX rfl rfl (.inl (hs.ret ⟨⟨Hj,fun i w h=>lT i w (List.getElem?_eq_some_iff.1 h).1 h⟩,aH⟩))
 refine cO 14 (b':=false) (by simp;omega) rfl ?_;refine ak rfl rfl (cj fp aJ rfl rfl rfl rfl rfl (dZ false _) ?_ ?_)
 ·rintro g3 _ eW ⟨_,hc⟩;cases hc
 intro _ g3 eW;replace hs:=hs.call eW
 (repeat (first|with_reducible refine gB ?_|with_reducible refine gC ?_|with_reducible refine gD ?_))
 exact dv (vq.th (fun h=>Hj h.1) hs.nC)
end Go.Proofs.YtgehbndkogohpaaGreatDoor
namespace Go.Proofs.YtgehbndkogohpaaGreatDoor
open Go Go.K
set_option maxRecDepth 10000
attribute [local irreducible] W WL cD bc bK bd bg bh cq ck
set_option maxHeartbeats 2000000
def I5(b:Nat)(cs:List Value):cS:=.obj b (.cells cs.toArray 28 (0,0))
theorem Mc{α:Type}{l:List α}(h:l.length=2): ∃a b,l=[a,b]:=by
 match l,h with
 |[a,b],_=>exact⟨a,b,rfl⟩
theorem iL{fx l:List (List UInt8)}(h:ir fx l)(i:Nat){w x:List UInt8}(hw:fx[i]? =some w)(hx:l[i]? =some x)(fB:w≠[]):x=w:=by
 rcases h.2 i w hw with e|e
 ·exact absurd e fB
 rw[hx]at e;exact Option.some.inj e
theorem GZ{line x a:List UInt8}(lL:bN 32 line=[a,x])(h:ir [ov,[]] [a,x]):q_ line=(mv x).map fun p=>((p.1:Int),(p.2:Int)):=by obtain rfl:=iL h 0 (w:=ov) rfl rfl (by decide);unfold q_;rw[lL];simp
theorem G0{line:List UInt8}(h: ¬ir [ov,[]] (bN 32 line)):q_ line=none:=by
 unfold q_;split
 ·rename_i a0 a1 he;rw[if_neg];rintro rfl;refine h ?_;rw[he];refine⟨Nat.le_refl _,fun i w hw=>?_⟩
  match i,hw with
  |0,hw=>exact .inr hw
  |1,hw=>exact .inl (Option.some.inj hw).symm
  |_+2,hw=>cases hw
 rfl
theorem G1{line:List UInt8}(h:(bN 32 line).length≠2):q_ line=none:=by
 unfold q_;split
 ·rename_i a0 a1 he;rw[he]at h;exact absurd rfl h
 rfl
def lI(line:List UInt8):Option (Int×Int):=(q_ line).bind fun p=>if dA ⟨p.1,p.2,[],[]⟩=true then some p else none
theorem L6{b:Nat}(line:List UInt8)(hlen:line.length≤1000000){g0 g:G}{L:List cS}(hF:jv g)(hs:St g0 g (I5 b [.int .i64 0,.int .i64 0,.slice none 0 0,.slice none 0 0]::L)):
  CallsIn Wd 0 Tryz.prog 261 #[.pointer (some ⟨b,0,none⟩),.string (bs line)] g.w fun e w'=>
   ek g (fun g' r=>r= .tuple #[]∧ ∃m n:Int,lI line=some (m,n)∧St g0 g' (I5 b [.int .i64 m,.int .i64 n,.slice none 0 0,.slice none 0 0]::L)) e w'∨
   (lI line=none∧fg g lV (fun g'=> ∃cs,St g0 g' (I5 b cs::L)) e w'):=by
 have aq:=G.le.refl g;unfold I5 at hs⊢;refine enter Tryz.func261 rfl Tryz.ntmps261 rfl ?_;refine cN 1 rfl ?_;refine ak rfl rfl (bD T.ok rfl hs (vs:=[(0,.string (bs ov)),(1,.string (bs []))]) (cells:=[.string (bs ov),.string (bs [])]) rfl rfl rfl rfl rfl rfl (by decide) (by decide) (by kernel_rfl) rfl ?_);clear hs;rintro bl gl hs ah;replace aq:=G.le.trans aq ah;obtain⟨gz,iQ,cP,jq,aU⟩:=hs.cK (α:=yf) (xs:=[⟨ov⟩,⟨[]⟩]) (i:=0) rfl (cG.strs _ [ov,[]]);have ah:=jq;rw[←iQ];replace hs:=cP;clear cP;replace aq:=G.le.trans aq ah;skip;refine ak rfl rfl (cj B8 aJ rfl rfl rfl rfl rfl (tG line [ov,[]] _ _ hlen (by decide) (hF.mono aq) aU) ?_ ?_);rotate_left
 ·intro hn g5 nD;replace hs:=hs.call nD;replace aq:=aq.trans nD.le
  (repeat (first|with_reducible refine gB ?_|with_reducible refine gC ?_|with_reducible refine gD ?_))
  exact dv (.inr ⟨by unfold lI;rw[G0 hn];rfl,fg.intro aq ⟨_,hs⟩⟩)
 rintro g4 v ki ⟨vm,aH⟩;replace hs:=hs.call ki;have ah:=ki.le;replace aq:=G.le.trans aq ah;obtain⟨pa,pc,rfl⟩:=aH.isSlice;rw[List.length_map]at aH⊢;have rq:=kP 32 line;generalize lL:bN 32 line=ps at*;refine bj rfl ?_;refine cN 3 rfl ?_;by_cases h2:ps.length=2
 ·obtain⟨a,x,rfl⟩:=Mc h2;refine cO 10 (b':=true) (by simp) rfl ?_;refine ak rfl rfl (cj fp aJ rfl rfl rfl rfl rfl (dZ true _) ?_ fun h=>nomatch h);rintro g3 _ eW ⟨rfl,_⟩;replace hs:=hs.call eW;have ah:=eW.le;obtain⟨aq,aH⟩:=cf ah aq aH;apply bW;refine cN 3 rfl ?_;refine ak rfl rfl (aW T.ok rfl aH (y:=⟨x⟩) rfl rfl rfl rfl rfl rfl rfl ?_);rintro b p ys aL rfl;refine Wm 1 [.e aL 0] (St.start _) rfl ?_;skip;have yX:=GZ lL vm;refine ak rfl rfl (cj JI aJ rfl rfl rfl rfl rfl (GM x _ (Nat.le_trans (rq x (by simp)) hlen) (hF.mono aq)) ?_ ?_)
  ·rintro g6 _ lz ⟨m,n,Lc,rfl⟩;replace hs:=hs.call lz;have ah:=lz.le;replace aq:=G.le.trans aq ah;rw[Lc]at yX;refine Wp 5 rfl ?_;refine bA rfl (az T.ok 0 rfl hs rfl rfl rfl rfl rfl rfl rfl rfl rfl ?_);replace hs:=hs;rintro g1 hs ah;replace aq:=G.le.trans aq ah;refine Wp 2 rfl ?_;refine bA rfl (az T.ok 0 rfl hs rfl rfl rfl rfl rfl rfl rfl rfl rfl ?_);replace hs:=hs;rintro g1 hs ah;replace aq:=G.le.trans aq ah;apply bW;apply aA;refine Wm 3 [.o 0] hs rfl ?_;refine ak rfl rfl (au Jo aJ rfl rfl rfl rfl rfl (rl _ ⟨m,n,[],[]⟩ _ ⟨none,0,0,none,0,0,rfl,Rs.nil _,Rs.nil _⟩) ?_);rintro g1 _ aP rfl;replace hs:=hs.call aP;have ah:=aP.le;replace aq:=G.le.trans aq ah;skip;cases hr:dA ⟨m,n,[],[]⟩with
   |true=>
    refine ak rfl rfl (cj fp aJ rfl rfl rfl rfl rfl (dZ true _) ?_ fun h=>nomatch h);rintro g3 _ eW ⟨rfl,_⟩;replace hs:=hs.call eW;have ah:=eW.le;replace aq:=G.le.trans aq ah;apply aE;exact kD rfl (.inl (ek.intro aq ⟨rfl,m,n,by unfold lI;rw[yX];simp[hr],hs⟩))
   |false=>
    refine ak rfl rfl (cj fp aJ rfl rfl rfl rfl rfl (dZ false _) ?_ ?_)
    ·rintro g3 _ eW ⟨_,hc⟩;cases hc
    intro _ g3 eW;replace hs:=hs.call eW;replace aq:=aq.trans eW.le
    (repeat (first|with_reducible refine gB ?_|with_reducible refine gC ?_|with_reducible refine gD ?_))
    exact dv (.inr ⟨by unfold lI;rw[yX];simp[hr],fg.intro aq ⟨_,hs⟩⟩)
  intro hn g5 nD;replace hs:=hs.call nD;replace aq:=aq.trans nD.le
  (repeat (first|with_reducible refine gB ?_|with_reducible refine gC ?_|with_reducible refine gD ?_))
  exact dv (.inr ⟨by unfold lI;rw[yX,hn];rfl,fg.intro aq ⟨_,hs⟩⟩)
 refine cO 10 (b':=false) (by simp;omega) rfl ?_;refine ak rfl rfl (cj fp aJ rfl rfl rfl rfl rfl (dZ false _) ?_ ?_)
 ·rintro g3 _ eW ⟨_,hc⟩;cases hc
 intro _ g3 eW;replace hs:=hs.call eW;replace aq:=aq.trans eW.le
 (repeat (first|with_reducible refine gB ?_|with_reducible refine gC ?_|with_reducible refine gD ?_))
 exact dv (.inr ⟨by unfold lI;rw[G1 (by rw[lL];exact h2)];rfl,fg.intro aq ⟨_,hs⟩⟩)
end Go.Proofs.YtgehbndkogohpaaGreatDoor
namespace Go.Proofs.YtgehbndkogohpaaGreatDoor
open Go Go.K
set_option maxRecDepth 10000
attribute [local irreducible] W WL cD bc bK bd bg bh cq ck
set_option maxHeartbeats 4000000
def Bd(B:Nat)(cs:List Value)(t:TypeId):Fact:=
 ⟨fun v g=> ∃b,v= .pointer (some ⟨b,0,none⟩)∧cS.holds B g (.obj b (.cells cs.toArray t (0,0))),fun _ _ _ hf ⟨b,e,h⟩=>⟨b,e,h.kept fun b hb=>⟨hf.below.block b (h.lt b hb).2.1,hf.im b (h.lt b hb).2.1⟩⟩⟩
def qf(s:List UInt8):Fact:=⟨fun v g=> ∃b p,v= .pointer (some ⟨b,p,none⟩)∧EP g b p [.string (bs s)],fun _ _ _ hf ⟨b,p,e,h⟩=>⟨b,p,e,h.mono hf.le⟩⟩
def Rf(p:Value→Prop):Fact:=⟨fun v _=>p v,fun _ _ _ _ h=>h⟩
def D6(x:List UInt8):Fact:=Rf fun v=> ∃n:Nat,fH x=some n∧v= .int .i64 n
def Rl:Fact:=Rf fun _=>False
def kh(w:bZ):List Value:=[.int .i64 w.src,.int .i64 w.dst,.int .i64 w.dI]
def kL:List bZ→List Value
 |[]=>[]
 |w::r=>kh w++kL r
theorem vg: ∀l:List bZ,(kL l).length=l.length*3
 |[]=>rfl
 |w::r=>by show(kh w++kL r).length=_;rw[List.length_append,vg r,List.length_cons];show 3+_=_;omega
theorem cG.win(g:G): ∀l:List bZ,cG g (kL l) l
 |[]=>rfl
 |w::r=>⟨kh w,kL r,rfl,rfl,cG.win g r⟩
theorem cG.C0{g:G}: ∀{l:List bZ} {cs:List Value},cG g cs l→cs=kL l
 |[],_,h=>h
 |x::r,_,⟨c1,c2,e,h1,h2⟩=>by rw[e,show c1=kh x from h1,cG.C0 h2];rfl
def Ki(b:Nat)(f:bQ)(sa:Option Addr)(sc:Nat)(wa:Option Addr)(wc:Nat)(xm:List Value):List cS:=
 [.obj b (.cells [.int .i64 f.bB,.int .i64 f.bU,.slice sa f.steps.length sc,.slice wa f.windows.length wc].toArray 28 (0,0)),
  .row 60 7 (.slice sa f.steps.length sc) f.steps.length xm,
  .row 58 3 (.slice wa f.windows.length wc) f.windows.length (kL f.windows)]
def I1(b:Nat)(f:bQ)(L:List cS)(g0 g:G):Prop:=∃sa sc wa wc xm,St g0 g (Ki b f sa sc wa wc xm++L)∧cG g xm f.steps
theorem I2{line a x y z:List UInt8}(lL:bN 32 line=[a,x,y,z])(h:ir [ij,[],[],[]] [a,x,y,z]):jR line=match fH x,fH y,fH z with
   |some x,some y,some z=>some ⟨x,y,z⟩
   |_,_,_=>none:=by
 obtain rfl:=iL h 0 (w:=ij) rfl rfl (by decide);unfold jR;rw[lL];show(if ij=ij then _ else _)=_;rw[if_pos rfl]<;>(cases fH x<;>cases fH y<;>cases fH z<;>rfl)
theorem I3{line:List UInt8}(h: ¬ir [ij,[],[],[]] (bN 32 line)):jR line=none:=by
 unfold jR;split
 ·rename_i a0 a1 a2 a3 he;rw[if_neg];rintro rfl;refine h ?_;rw[he];refine⟨Nat.le_refl _,fun i w hw=>?_⟩
  match i,hw with
  |0,hw=>exact .inr hw
  |1,hw=>exact .inl (Option.some.inj hw).symm
  |2,hw=>exact .inl (Option.some.inj hw).symm
  |3,hw=>exact .inl (Option.some.inj hw).symm
  |_+4,hw=>cases hw
 rfl
theorem I4{line:List UInt8}(h:(bN 32 line).length≠4):jR line=none:=by
 unfold jR;split
 ·rename_i a0 a1 a2 a3 he;rw[he]at h;exact absurd rfl h
 rfl
def iq(f:bQ)(line:List UInt8):Option bZ:=(jR line).bind fun w=>if(de w 40&&decide ((f.windows.length:Int)<20)&&decide ((f.steps.length:Int)>0)&&follows f.windows w)=true then some w else none
theorem C1{α:Type}{l:List α}(h:l.length=4): ∃a b c d,l=[a,b,c,d]:=by
 match l,h with
 |[a,b,c,d],_=>exact⟨a,b,c,d,rfl⟩
theorem GI{b:Nat}(f:bQ)(line:List UInt8)(hlen:line.length≤1000000)(Cy:f.windows.length≤1000000){g0 g:G}{L:List cS}(hF:jv g)(hO:I1 b f L g0 g):
  CallsIn Wd 0 Tryz.prog 263 #[.pointer (some ⟨b,0,none⟩),.string (bs line)] g.w fun e w'=>
   ek g (fun g' r=>r= .tuple #[]∧ ∃w,iq f line=some w∧I1 b {f with windows:=f.windows++[w]} L g0 g') e w'∨
   (iq f line=none∧fg g lV (fun g'=> ∃cs,St g0 g' (I5 b cs::L)) e w'):=by
 have aq:=G.le.refl g;obtain⟨sa,sc,wa,wc,xm,hs,df⟩:=hO;unfold Ki at hs;unfold I5;replace hs:St g0 g (.obj b (.cells [.int .i64 f.bB,.int .i64 f.bU,.slice sa f.steps.length sc,.slice wa f.windows.length wc].toArray 28 (0,0))::
  .row 60 7 (.slice sa f.steps.length sc) f.steps.length xm::
  .row 58 3 (.slice wa f.windows.length wc) f.windows.length (kL f.windows)::L):=hs
 refine enter Tryz.func263 rfl Tryz.ntmps263 rfl ?_;refine cN 1 rfl ?_;refine ak rfl rfl (bD T.ok rfl hs (vs:=[(0,.string (bs ij)),(1,.string (bs [])),(2,.string (bs [])),(3,.string (bs []))]) (cells:=[.string (bs ij),.string (bs []),.string (bs []),.string (bs [])]) rfl rfl rfl rfl rfl rfl (by decide) (by decide) (by kernel_rfl) rfl ?_);clear hs;rintro bl gl hs ah;obtain⟨aq,df⟩:=cf ah aq df;obtain⟨gz,iQ,cP,jq,aU⟩:=hs.cK (α:=yf) (xs:=[⟨ij⟩,⟨[]⟩,⟨[]⟩,⟨[]⟩]) (i:=0) rfl (cG.strs _ [ij,[],[],[]]);have ah:=jq;rw[←iQ];replace hs:=cP;clear cP;obtain⟨aq,df⟩:=cf ah aq df;skip;refine ak rfl rfl (cj B8 aJ rfl rfl rfl rfl rfl (tG line [ij,[],[],[]] _ _ hlen (by decide) (hF.mono aq) aU) ?_ ?_);rotate_left
 ·intro hn g5 nD;replace hs:=hs.call nD;replace aq:=aq.trans nD.le
  (repeat (first|with_reducible refine gB ?_|with_reducible refine gC ?_|with_reducible refine gD ?_))
  exact dv (.inr ⟨by unfold iq;rw[I3 hn];rfl,fg.intro aq ⟨_,(hs.drop 1).drop 1⟩⟩)
 rintro g4 v ki ⟨vm,aH⟩;replace hs:=hs.call ki;have ah:=ki.le;obtain⟨aq,df⟩:=cf ah aq df;obtain⟨pa,pc,rfl⟩:=aH.isSlice;rw[List.length_map]at aH⊢;have rq:=kP 32 line;generalize lL:bN 32 line=ps at*;refine bj rfl ?_;refine cN 3 rfl ?_;by_cases h4:ps.length=4
 ·obtain⟨a,x,y,z,rfl⟩:=C1 h4;refine cO 11 (b':=true) (by simp) rfl ?_;refine ak rfl rfl (cj fp aJ rfl rfl rfl rfl rfl (dZ true _) ?_ fun h=>nomatch h);rintro g3 _ eW ⟨rfl,_⟩;replace hs:=hs.call eW;have ah:=eW.le;obtain⟨aq,aH,df⟩:=dy ah aq aH df;have yX:=I2 lL vm;apply bW;apply aD;have s7:=hs;apply ea (fe (.f (qf x)::(fe (.f (D6 x)::(fe (.f (qf y)::(fe (.f (D6 y)::(fe (.f (qf z)::(fe (.f (D6 z)::(.f (Rf fun v=> ∃x0 y0 z0:Nat,fH x=some x0∧fH y=some y0∧fH z=some z0∧v= .agg #[.int .i64 x0,.int .i64 y0,.int .i64 z0])::(.f (Bd g3.dr.w.heap.size [.int .i64 0,.int .i64 0,.int .i64 0] 58)::[])))))))))))))) 14 [(12,25),(13,5)] (by kernel_rfl)
  ·refine Dx [[]] (by kernel_rfl) rfl ?_;refine ay (an (js:=[(0,13)]) (by kernel_rfl) fun gd hf=>?_) ?_
   ·have dG:=(G.bu _).trans hf.le;refine ai rfl ?_;apply aj;refine aB rfl ?_;refine aW T.ok rfl (aH.mono dG) (y:=⟨x⟩) rfl rfl rfl rfl rfl rfl rfl ?_;intro b p ys aL d_;exact⟨_,rfl,a_.refl _,b,p,rfl,by rw[←show ys=[Value.string (bs x)]from d_];exact aL⟩
   refine ay (an (js:=[(1,14)]) (by kernel_rfl) fun gd hf=>?_) ?_
   ·skip;refine aZ fun v1 h1=>?_;apply aj;obtain⟨b,p,rfl,aL⟩:=h1;refine aB rfl ?_;refine bJ T.ok 0 rfl aL rfl rfl ?_;refine⟨_,rfl,a_.refl _,?_⟩;exact rfl
   refine ay (an (js:=[(2,15)]) (by kernel_rfl) fun gd hf=>?_) ?_
   ·have eJ:=hs.dr.call hf;have dG:=(G.bu _).trans hf.le;refine ai rfl ?_;apply aj;refine aB rfl ?_;refine cj qs aJ rfl rfl rfl rfl rfl (jE x _ (Nat.le_trans (rq x (by simp)) hlen) (hF.mono (aq.trans dG))) (fun g' v eu h=>⟨g',rfl,eu,h⟩) fun hn g' eu=>?_;replace eJ:=eJ.call eu
    (repeat (first|with_reducible refine gB ?_|with_reducible refine gC ?_|with_reducible refine gD ?_))
    exact dv (.inr ⟨by unfold iq;rw[yX,hn];first|rfl|(cases fH x<;>first|rfl|(cases fH y<;>rfl)),fg.intro ((aq.trans dG).trans eu.le) ⟨_,(eJ.drop 1).drop 1⟩⟩)
   refine Dx [[]] (by kernel_rfl) rfl ?_;refine ay (an (js:=[(4,17)]) (by kernel_rfl) fun gd hf=>?_) ?_
   ·have dG:=(G.bu _).trans hf.le;refine ai rfl ?_;apply aj;refine aB rfl ?_;refine aW T.ok rfl (aH.mono dG) (y:=⟨y⟩) rfl rfl rfl rfl rfl rfl rfl ?_;intro b p ys aL d_;exact⟨_,rfl,a_.refl _,b,p,rfl,by rw[←show ys=[Value.string (bs y)]from d_];exact aL⟩
   refine ay (an (js:=[(5,18)]) (by kernel_rfl) fun gd hf=>?_) ?_
   ·skip;refine aZ fun v5 h5=>?_;apply aj;obtain⟨b,p,rfl,aL⟩:=h5;refine aB rfl ?_;refine bJ T.ok 0 rfl aL rfl rfl ?_;refine⟨_,rfl,a_.refl _,?_⟩;exact rfl
   refine ay (an (js:=[(6,19)]) (by kernel_rfl) fun gd hf=>?_) ?_
   ·have eJ:=hs.dr.call hf;have dG:=(G.bu _).trans hf.le;refine ai rfl ?_;apply aj;refine aB rfl ?_;refine cj qs aJ rfl rfl rfl rfl rfl (jE y _ (Nat.le_trans (rq y (by simp)) hlen) (hF.mono (aq.trans dG))) (fun g' v eu h=>⟨g',rfl,eu,h⟩) fun hn g' eu=>?_;replace eJ:=eJ.call eu
    (repeat (first|with_reducible refine gB ?_|with_reducible refine gC ?_|with_reducible refine gD ?_))
    exact dv (.inr ⟨by unfold iq;rw[yX,hn];first|rfl|(cases fH x<;>first|rfl|(cases fH y<;>rfl)),fg.intro ((aq.trans dG).trans eu.le) ⟨_,(eJ.drop 1).drop 1⟩⟩)
   refine Dx [[]] (by kernel_rfl) rfl ?_;refine ay (an (js:=[(8,21)]) (by kernel_rfl) fun gd hf=>?_) ?_
   ·have dG:=(G.bu _).trans hf.le;refine ai rfl ?_;apply aj;refine aB rfl ?_;refine aW T.ok rfl (aH.mono dG) (y:=⟨z⟩) rfl rfl rfl rfl rfl rfl rfl ?_;intro b p ys aL d_;exact⟨_,rfl,a_.refl _,b,p,rfl,by rw[←show ys=[Value.string (bs z)]from d_];exact aL⟩
   refine ay (an (js:=[(9,22)]) (by kernel_rfl) fun gd hf=>?_) ?_
   ·skip;refine aZ fun v9 h9=>?_;apply aj;obtain⟨b,p,rfl,aL⟩:=h9;refine aB rfl ?_;refine bJ T.ok 0 rfl aL rfl rfl ?_;refine⟨_,rfl,a_.refl _,?_⟩;exact rfl
   refine ay (an (js:=[(10,23)]) (by kernel_rfl) fun gd hf=>?_) ?_
   ·have eJ:=hs.dr.call hf;have dG:=(G.bu _).trans hf.le;refine ai rfl ?_;apply aj;refine aB rfl ?_;refine cj qs aJ rfl rfl rfl rfl rfl (jE z _ (Nat.le_trans (rq z (by simp)) hlen) (hF.mono (aq.trans dG))) (fun g' v eu h=>⟨g',rfl,eu,h⟩) fun hn g' eu=>?_;replace eJ:=eJ.call eu
    (repeat (first|with_reducible refine gB ?_|with_reducible refine gC ?_|with_reducible refine gD ?_))
    exact dv (.inr ⟨by unfold iq;rw[yX,hn];first|rfl|(cases fH x<;>first|rfl|(cases fH y<;>rfl)),fg.intro ((aq.trans dG).trans eu.le) ⟨_,(eJ.drop 1).drop 1⟩⟩)
   refine ay (an (js:=[(3,16),(7,20),(11,24)]) (by kernel_rfl) fun gd hf=>?_) ?_
   ·skip;refine aZ fun v3 h3=>?_;refine aZ fun v7 h7=>?_;refine aZ fun v11 OP=>?_;apply aj;obtain⟨x0,hx,rfl⟩:=h3;obtain⟨y0,hy,rfl⟩:=h7;obtain⟨z0,hz,rfl⟩:=OP;refine aB rfl ?_;refine aQ T.ok rfl (vs:=[(0,.int .i64 x0),(1,.int .i64 y0),(2,.int .i64 z0)]) (cells:=[.int .i64 x0,.int .i64 y0,.int .i64 z0]) rfl rfl rfl rfl [(0,1),(1,1),(2,1)] rfl (by kernel_rfl) ?_;exact⟨_,rfl,a_.refl _,x0,y0,z0,hx,hy,hz,rfl⟩
   refine ay (an (js:=[]) (by kernel_rfl) fun gd hf=>?_) ?_
   ·skip;apply aj;refine aB rfl ?_;refine aK T.ok rfl (St.start gd) rfl rfl ?_;intro b g' jo hle;have ho:=jo.own 0 _ rfl;exact⟨g',rfl,jo.nC,b,rfl,Nat.le_trans hf.below.size ho.1,ho.2⟩
   exact fD
  intro g1 aP;refine aZ fun v12 OQ=>?_;refine aZ fun Zz X4=>?_;apply aj;replace hs:=hs.dr.call aP;have ah:=(G.bu _).trans aP.le;obtain⟨aq,df⟩:=cf ah aq df;obtain⟨x0,y0,z0,hx,hy,hz,rfl⟩:=OQ;obtain⟨bx,rfl,rS⟩:=X4;replace hs:=s7.dr.ft aP rS;clear s7;rw[hx,hy,hz]at yX;replace yX:jR line=some ⟨x0,y0,z0⟩:=yX;have Kj:iq f line=if(de ⟨x0,y0,z0⟩ 40&&decide ((f.windows.length:Int)<20)&&decide ((f.steps.length:Int)>0)&&follows f.windows ⟨x0,y0,z0⟩)=true then some ⟨x0,y0,z0⟩else none:=by unfold iq;rw[yX];rfl
  clear h4;skip;refine bA rfl (az T.ok 0 rfl hs rfl rfl rfl rfl rfl rfl rfl rfl rfl ?_);replace hs:=hs;rintro g1 hs ah;obtain⟨aq,df⟩:=cf ah aq df;apply bW;apply aD;cases z':de ⟨x0,y0,z0⟩ 40 with
  |false=>
   apply ea (eO (eO (eO (eQ (.f Rl::[]))))) 27 [(26,52)] (by kernel_rfl)
   ·refine Dm [[]] [.o 0] hs (by kernel_rfl) rfl ?_;refine ay (an (js:=[(0,26)]) (by kernel_rfl) fun gd hf=>?_) ?_
    ·skip;refine ai rfl ?_;apply aj;refine aB rfl ?_;refine au tP aJ rfl rfl rfl rfl rfl (fN ⟨x0,y0,z0⟩ 40 _ (by decide) (by decide)) fun g' v h1 h2=>⟨g',rfl,h1,?_⟩
     rw[h2];exact congrArg Value.bool z'
    refine Dx [[1,1],[2],[3,2],[4,2],[5,2],[6,2]] (by kernel_rfl) rfl ?_;refine ay (an (js:=[(7,33),(2,28)]) (by kernel_rfl) fun gd hf=>?_) ?_
    ·skip;refine ai rfl ?_;refine ai rfl ?_;apply aj
     first|(refine r4 rfl ?_;exact rfl)|(refine aB rfl ?_;refine aN _ T.ok rfl ?_;exact⟨_,rfl,a_.refl _,congrArg Value.bool bL⟩)
    refine Dx [[2,8],[9],[10],[11,10],[12,10],[13,10],[14,10]] (by kernel_rfl) rfl ?_;refine ay (an (js:=[(15,41),(10,36)]) (by kernel_rfl) fun gd hf=>?_) ?_
    ·skip;refine ai rfl ?_;refine ai rfl ?_;apply aj
     first|(refine r4 rfl ?_;exact rfl)|(refine aB rfl ?_;refine aN _ T.ok rfl ?_;exact⟨_,rfl,a_.refl _,congrArg Value.bool pf⟩)
    refine Dx [[10,16],[17],[18],[19,18],[20,18],[21,18],[18],[22,23,18,18],[18,24]] (by kernel_rfl) rfl ?_;refine ay (an (js:=[(25,51)]) (by kernel_rfl) fun gd hf=>?_) ?_
    ·have eJ:=hs.dr.call hf;have dG:=(G.bu _).trans hf.le;refine ai rfl ?_;apply aj;refine aB rfl ?_;refine cj fp aJ rfl rfl rfl rfl rfl (dZ false _) (fun g' v eu h=>nomatch h.2) fun _ g' eu=>?_;replace eJ:=eJ.call eu
     (repeat (first|with_reducible refine gB ?_|with_reducible refine gC ?_|with_reducible refine gD ?_))
     exact dv (.inr ⟨by rw[Kj,z'];rfl,fg.intro ((aq.trans dG).trans eu.le) ⟨_,(((eJ.drop 0).drop 1).drop 1)⟩⟩)
    exact fD
   intro g1 aP;refine aZ fun v26 LZ=>?_;apply aj;replace hs:=hs.dr.call aP;have ah:=(G.bu _).trans aP.le;obtain⟨aq,df⟩:=cf ah aq df;exact LZ.elim
  |true=>
  cases bL:decide ((f.windows.length:Int)<20)with
  |false=>
   apply ea (eO (eO (eO (eQ (.f Rl::[]))))) 27 [(26,52)] (by kernel_rfl)
   ·refine Dm [[]] [.o 0] hs (by kernel_rfl) rfl ?_;refine ay (an (js:=[(0,26)]) (by kernel_rfl) fun gd hf=>?_) ?_
    ·skip;refine ai rfl ?_;apply aj;refine aB rfl ?_;refine au tP aJ rfl rfl rfl rfl rfl (fN ⟨x0,y0,z0⟩ 40 _ (by decide) (by decide)) fun g' v h1 h2=>⟨g',rfl,h1,?_⟩
     rw[h2];exact congrArg Value.bool z'
    refine Dm [[1,1],[2],[3,2],[4,2],[5,2],[6,2]] [.o 1] hs (by kernel_rfl) rfl ?_;refine ay (an (js:=[(7,33),(2,28)]) (by kernel_rfl) fun gd hf=>?_) ?_
    ·skip;refine ai rfl ?_;refine ai rfl ?_;apply aj
     first|(refine r4 rfl ?_;exact rfl)|(refine aB rfl ?_;refine aN _ T.ok rfl ?_;exact⟨_,rfl,a_.refl _,congrArg Value.bool bL⟩)
    refine Dx [[2,8],[9],[10],[11,10],[12,10],[13,10],[14,10]] (by kernel_rfl) rfl ?_;refine ay (an (js:=[(15,41),(10,36)]) (by kernel_rfl) fun gd hf=>?_) ?_
    ·skip;refine ai rfl ?_;refine ai rfl ?_;apply aj
     first|(refine r4 rfl ?_;exact rfl)|(refine aB rfl ?_;refine aN _ T.ok rfl ?_;exact⟨_,rfl,a_.refl _,congrArg Value.bool pf⟩)
    refine Dx [[10,16],[17],[18],[19,18],[20,18],[21,18],[18],[22,23,18,18],[18,24]] (by kernel_rfl) rfl ?_;refine ay (an (js:=[(25,51)]) (by kernel_rfl) fun gd hf=>?_) ?_
    ·have eJ:=hs.dr.call hf;have dG:=(G.bu _).trans hf.le;refine ai rfl ?_;apply aj;refine aB rfl ?_;refine cj fp aJ rfl rfl rfl rfl rfl (dZ false _) (fun g' v eu h=>nomatch h.2) fun _ g' eu=>?_;replace eJ:=eJ.call eu
     (repeat (first|with_reducible refine gB ?_|with_reducible refine gC ?_|with_reducible refine gD ?_))
     exact dv (.inr ⟨by rw[Kj,z',bL];rfl,fg.intro ((aq.trans dG).trans eu.le) ⟨_,(((eJ.drop 0).drop 1).drop 1)⟩⟩)
    exact fD
   intro g1 aP;refine aZ fun v26 LZ=>?_;apply aj;replace hs:=hs.dr.call aP;have ah:=(G.bu _).trans aP.le;obtain⟨aq,df⟩:=cf ah aq df;exact LZ.elim
  |true=>
  cases pf:decide ((f.steps.length:Int)>0)with
  |false=>
   apply ea (eO (eO (eO (eQ (.f Rl::[]))))) 27 [(26,52)] (by kernel_rfl)
   ·refine Dm [[]] [.o 0] hs (by kernel_rfl) rfl ?_;refine ay (an (js:=[(0,26)]) (by kernel_rfl) fun gd hf=>?_) ?_
    ·skip;refine ai rfl ?_;apply aj;refine aB rfl ?_;refine au tP aJ rfl rfl rfl rfl rfl (fN ⟨x0,y0,z0⟩ 40 _ (by decide) (by decide)) fun g' v h1 h2=>⟨g',rfl,h1,?_⟩
     rw[h2];exact congrArg Value.bool z'
    refine Dm [[1,1],[2],[3,2],[4,2],[5,2],[6,2]] [.o 1] hs (by kernel_rfl) rfl ?_;refine ay (an (js:=[(7,33),(2,28)]) (by kernel_rfl) fun gd hf=>?_) ?_
    ·skip;refine ai rfl ?_;refine ai rfl ?_;apply aj
     first|(refine r4 rfl ?_;exact rfl)|(refine aB rfl ?_;refine aN _ T.ok rfl ?_;exact⟨_,rfl,a_.refl _,congrArg Value.bool bL⟩)
    refine Dm [[2,8],[9],[10],[11,10],[12,10],[13,10],[14,10]] [.o 1] hs (by kernel_rfl) rfl ?_;refine ay (an (js:=[(15,41),(10,36)]) (by kernel_rfl) fun gd hf=>?_) ?_
    ·skip;refine ai rfl ?_;refine ai rfl ?_;apply aj
     first|(refine r4 rfl ?_;exact rfl)|(refine aB rfl ?_;refine aN _ T.ok rfl ?_;exact⟨_,rfl,a_.refl _,congrArg Value.bool pf⟩)
    refine Dx [[10,16],[17],[18],[19,18],[20,18],[21,18],[18],[22,23,18,18],[18,24]] (by kernel_rfl) rfl ?_;refine ay (an (js:=[(25,51)]) (by kernel_rfl) fun gd hf=>?_) ?_
    ·have eJ:=hs.dr.call hf;have dG:=(G.bu _).trans hf.le;refine ai rfl ?_;apply aj;refine aB rfl ?_;refine cj fp aJ rfl rfl rfl rfl rfl (dZ false _) (fun g' v eu h=>nomatch h.2) fun _ g' eu=>?_;replace eJ:=eJ.call eu
     (repeat (first|with_reducible refine gB ?_|with_reducible refine gC ?_|with_reducible refine gD ?_))
     exact dv (.inr ⟨by rw[Kj,z',bL,pf];rfl,fg.intro ((aq.trans dG).trans eu.le) ⟨_,(((eJ.drop 0).drop 1).drop 1)⟩⟩)
    exact fD
   intro g1 aP;refine aZ fun v26 LZ=>?_;apply aj;replace hs:=hs.dr.call aP;have ah:=(G.bu _).trans aP.le;obtain⟨aq,df⟩:=cf ah aq df;exact LZ.elim
  |true=>
  cases MH:follows f.windows ⟨x0,y0,z0⟩with
  |false=>
   apply ea (eO (eO (eO (eQ (.f Rl::[]))))) 27 [(26,52)] (by kernel_rfl)
   ·refine Dm [[]] [.o 0] hs (by kernel_rfl) rfl ?_;refine ay (an (js:=[(0,26)]) (by kernel_rfl) fun gd hf=>?_) ?_
    ·skip;refine ai rfl ?_;apply aj;refine aB rfl ?_;refine au tP aJ rfl rfl rfl rfl rfl (fN ⟨x0,y0,z0⟩ 40 _ (by decide) (by decide)) fun g' v h1 h2=>⟨g',rfl,h1,?_⟩
     rw[h2];exact congrArg Value.bool z'
    refine Dm [[1,1],[2],[3,2],[4,2],[5,2],[6,2]] [.o 1] hs (by kernel_rfl) rfl ?_;refine ay (an (js:=[(7,33),(2,28)]) (by kernel_rfl) fun gd hf=>?_) ?_
    ·skip;refine ai rfl ?_;refine ai rfl ?_;apply aj
     first|(refine r4 rfl ?_;exact rfl)|(refine aB rfl ?_;refine aN _ T.ok rfl ?_;exact⟨_,rfl,a_.refl _,congrArg Value.bool bL⟩)
    refine Dm [[2,8],[9],[10],[11,10],[12,10],[13,10],[14,10]] [.o 1] hs (by kernel_rfl) rfl ?_;refine ay (an (js:=[(15,41),(10,36)]) (by kernel_rfl) fun gd hf=>?_) ?_
    ·skip;refine ai rfl ?_;refine ai rfl ?_;apply aj
     first|(refine r4 rfl ?_;exact rfl)|(refine aB rfl ?_;refine aN _ T.ok rfl ?_;exact⟨_,rfl,a_.refl _,congrArg Value.bool pf⟩)
    refine Dm [[10,16],[17],[18],[19,18],[20,18],[21,18],[18]] [.o 1,.o 0] hs (by kernel_rfl) rfl ?_;refine ay (an (js:=[(22,48),(23,49),(18,44),(18,44)]) (by kernel_rfl) fun gd hf=>?_) ?_
    ·have eJ:=hs.dr.call hf;refine ai rfl ?_;refine ai rfl ?_;refine ai rfl ?_;refine ai rfl ?_;apply aj;refine aB rfl ?_;refine zQ (α:=bZ) (fun _ _ r=>r= .bool (follows f.windows ⟨x0,y0,z0⟩)) (fun _ _ r=>r= .bool (follows f.windows ⟨x0,y0,z0⟩)) EA aJ rfl rfl rfl rfl rfl eJ 3 rfl (cG.win _ f.windows) (fun gf hle hw hr=>sj _ f.windows ⟨x0,y0,z0⟩ gf hr) (fun _ _ _ _ _ _ _ _ _ h=>h) fun g' v h1 h2=>⟨g',rfl,h1,?_⟩
     rw[h2];exact congrArg Value.bool MH
    refine Dx [[18,24]] (by kernel_rfl) rfl ?_;refine ay (an (js:=[(25,51)]) (by kernel_rfl) fun gd hf=>?_) ?_
    ·have eJ:=hs.dr.call hf;have dG:=(G.bu _).trans hf.le;refine ai rfl ?_;apply aj;refine aB rfl ?_;refine cj fp aJ rfl rfl rfl rfl rfl (dZ false _) (fun g' v eu h=>nomatch h.2) fun _ g' eu=>?_;replace eJ:=eJ.call eu
     (repeat (first|with_reducible refine gB ?_|with_reducible refine gC ?_|with_reducible refine gD ?_))
     exact dv (.inr ⟨by rw[Kj,z',bL,pf,MH];rfl,fg.intro ((aq.trans dG).trans eu.le) ⟨_,(((eJ.drop 0).drop 1).drop 1)⟩⟩)
    exact fD
   intro g1 aP;refine aZ fun v26 LZ=>?_;apply aj;replace hs:=hs.dr.call aP;have ah:=(G.bu _).trans aP.le;obtain⟨aq,df⟩:=cf ah aq df;exact LZ.elim
  |true=>
  rw[z',bL,pf,MH]at Kj;replace Kj:iq f line=some ⟨x0,y0,z0⟩:=Kj;apply bP hs (eO (eO (eO (eQ (.f Fact.any::[]))))) 27 [(1,27)] (by kernel_rfl) rfl
  ·refine Dm [[]] [.o 0] hs (by kernel_rfl) rfl ?_;refine ay (an (js:=[(0,26)]) (by kernel_rfl) fun gd hf=>?_) ?_
   ·skip;refine ai rfl ?_;apply aj;refine aB rfl ?_;refine au tP aJ rfl rfl rfl rfl rfl (fN ⟨x0,y0,z0⟩ 40 _ (by decide) (by decide)) fun g' v h1 h2=>⟨g',rfl,h1,?_⟩
    rw[h2];exact congrArg Value.bool z'
   refine Dm [[1,1],[2],[3,2],[4,2],[5,2],[6,2]] [.o 1] hs (by kernel_rfl) rfl ?_;refine ay (an (js:=[(7,33),(2,28)]) (by kernel_rfl) fun gd hf=>?_) ?_
   ·skip;refine ai rfl ?_;refine ai rfl ?_;apply aj
    first|(refine r4 rfl ?_;exact rfl)|(refine aB rfl ?_;refine aN _ T.ok rfl ?_;exact⟨_,rfl,a_.refl _,congrArg Value.bool bL⟩)
   refine Dm [[2,8],[9],[10],[11,10],[12,10],[13,10],[14,10]] [.o 1] hs (by kernel_rfl) rfl ?_;refine ay (an (js:=[(15,41),(10,36)]) (by kernel_rfl) fun gd hf=>?_) ?_
   ·skip;refine ai rfl ?_;refine ai rfl ?_;apply aj
    first|(refine r4 rfl ?_;exact rfl)|(refine aB rfl ?_;refine aN _ T.ok rfl ?_;exact⟨_,rfl,a_.refl _,congrArg Value.bool pf⟩)
   refine Dm [[10,16],[17],[18],[19,18],[20,18],[21,18],[18]] [.o 1,.o 0] hs (by kernel_rfl) rfl ?_;refine ay (an (js:=[(22,48),(23,49),(18,44),(18,44)]) (by kernel_rfl) fun gd hf=>?_) ?_
   ·have eJ:=hs.dr.call hf;refine ai rfl ?_;refine ai rfl ?_;refine ai rfl ?_;refine ai rfl ?_;apply aj;refine aB rfl ?_;refine zQ (α:=bZ) (fun _ _ r=>r= .bool (follows f.windows ⟨x0,y0,z0⟩)) (fun _ _ r=>r= .bool (follows f.windows ⟨x0,y0,z0⟩)) EA aJ rfl rfl rfl rfl rfl eJ 3 rfl (cG.win _ f.windows) (fun gf hle hw hr=>sj _ f.windows ⟨x0,y0,z0⟩ gf hr) (fun _ _ _ _ _ _ _ _ _ h=>h) fun g' v h1 h2=>⟨g',rfl,h1,?_⟩
    rw[h2];exact congrArg Value.bool MH
   refine Dx [[18,24]] (by kernel_rfl) rfl ?_;refine ay (an (js:=[(25,51)]) (by kernel_rfl) fun gd hf=>?_) ?_
   ·skip;refine ai rfl ?_;apply aj;refine aB rfl ?_;exact cj fp aJ rfl rfl rfl rfl rfl (dZ true _) (fun g' v eu h=>⟨g',rfl,eu,trivial⟩) fun h=>nomatch h
   exact fD
  clear hs;intro g1 hs ah;obtain⟨aq,df⟩:=cf ah aq df;have X5:f.windows.length<20:=by simp only[decide_eq_true_eq]at bL;omega
  have Ih:=vg f.windows;apply bW;apply CH aJ rfl (Fact.eq _::Fact.eq _::Fact.eq _::Fact.eq _::Fact.eq _::Fact.eq _::(Fact.rs [(⟨x0,y0,z0⟩:bZ)])::(P9 g0 (fun v Rm=> .obj bx (.cells [.int .i64 x0,.int .i64 y0,.int .i64 z0].toArray 58 (0,0)):: .obj b (.cells [.int .i64 f.bB,.int .i64 f.bU,.slice sa f.steps.length sc,.slice wa f.windows.length wc].toArray 28 (0,0)):: .row 60 7 (.slice sa f.steps.length sc) f.steps.length xm:: .row 58 3 v (f.windows.length+1) Rm::L) (f.windows.length+1) (f.windows++[(⟨x0,y0,z0⟩:bZ)]))::[]) 8 [(0,53),(7,60)] [] [1,2,3,4,5,6] 7 rfl (by kernel_rfl) (by kernel_rfl)
  case houts=>exact rfl
  case hsoft=>(repeat (first|exact FQ|apply FR|refine gN (qK _) ?_|refine gN (cr _) ?_|refine gN (rX _ _) ?_|refine gN (pS _) ?_|refine gN (rY _) ?_|refine gN (nZ _) ?_|refine gN (x6 _) ?_|refine gN (zI _) ?_|refine FT (by exact rfl) ?_))
  ·refine iC (Gb (js:=[]) (by kernel_rfl) (by exact rfl) fun gd hf=>?_) ?_
   ·skip;apply aj
    (refine aB rfl ?_;refine aN _ T.ok rfl ?_;refine⟨_,rfl,a_.refl _,?_⟩;exact rfl)
   refine iC (nj (js:=[]) (by kernel_rfl) (by exact rfl) (by exact rfl) fun gd hf=>?_) ?_
   ·skip;apply aj
    (refine aB rfl ?_;refine aN _ T.ok rfl ?_;refine⟨_,rfl,a_.refl _,?_⟩;exact rfl)
   refine iC (nj (js:=[(1,54)]) (by kernel_rfl) (by exact rfl) (by exact rfl) fun gd hf=>?_) ?_
   ·skip;refine ai rfl ?_;apply aj
    (refine aB rfl ?_;refine aN _ T.ok rfl ?_;refine⟨_,rfl,a_.refl _,?_⟩;exact rfl)
   refine iC (nj (js:=[(2,55)]) (by kernel_rfl) (by exact rfl) (by exact rfl) fun gd hf=>?_) ?_
   ·skip;refine ai rfl ?_;apply aj
    (refine aB rfl ?_;refine aN _ T.ok rfl ?_;refine⟨_,rfl,a_.refl _,?_⟩;exact rfl)
   refine iC (nj (js:=[(3,56)]) (by kernel_rfl) (by exact rfl) (by exact rfl) fun gd hf=>?_) ?_
   ·have eJ:=hs.dr.call hf;refine ai rfl ?_;apply aj
    (refine aB rfl ?_;refine e_ T.ok 1 rfl eJ rfl rfl rfl ?_;refine⟨_,rfl,a_.refl _,?_⟩;exact rfl)
   refine iC (nj (js:=[]) (by kernel_rfl) (by exact rfl) (by exact rfl) fun gd hf=>?_) ?_
   ·have eJ:=hs.dr.call hf;apply aj
    (refine aB rfl ?_;refine e_ T.ok 0 rfl eJ rfl rfl rfl ?_;refine⟨_,rfl,a_.refl _,?_⟩;exact rfl)
   refine iC (nj (js:=[(5,58)]) (by kernel_rfl) (by exact rfl) (by exact rfl) fun gd hf=>?_) ?_
   ·skip;refine ai rfl ?_;apply aj;refine aB rfl ?_;refine bD T.ok rfl (St.start gd) (vs:=[(0,.agg #[.int .i64 x0,.int .i64 y0,.int .i64 z0])]) (cells:=[.int .i64 x0,.int .i64 y0,.int .i64 z0]) rfl rfl rfl rfl rfl rfl (by decide) (by decide) (by kernel_rfl) rfl ?_;intro b2 g2 nz FU;obtain⟨g3,pf,vn,qI,ny⟩:=nz.cK (α:=bZ) (xs:=[⟨x0,y0,z0⟩]) (i:=0) rfl ⟨_,[],by rw[List.append_nil],rfl,rfl⟩;exact⟨g3,pf,vn.nC,ny⟩
   refine iC (J9 (js:=[(4,57),(6,59)]) (by kernel_rfl) fun gd hf=>?_) ?_
   ·have eJ:=hs.dr.call hf;refine ai rfl ?_;refine aZ fun v6 h6=>?_;apply aj;obtain⟨ax,cx,rfl⟩:=Rs.isSlice h6;obtain⟨_,news,CA,g_⟩:=Src.lq h6;refine⟨rfl,?_⟩;refine cd T.ok 3 rfl eJ rfl rfl rfl rfl rfl rfl rfl (by decide) rfl g_ CA.one (by show(f.windows.length+1)*24≤_;omega) (by unfold maxLen;show f.windows.length+1≤_;omega) ?_;intro a' c' g8 yW vG;exact⟨g8,rfl,vG,a',c',_,rfl,yW,cG.app (CA.mono vG) (cG.win _ _)⟩
   exact J8
  intro g1 aP;refine ai rfl ?_;refine aZ fun v7 h7=>?_;apply aj;have ah:=(G.bu _).trans aP;obtain⟨aq,df⟩:=cf ah aq df;obtain⟨Vm,Vn,Rm,rfl,hs,X6⟩:=h7;obtain rfl:=cG.C0 X6;refine Wp 2 rfl ?_;refine bA rfl (az T.ok 1 rfl hs rfl rfl rfl rfl rfl rfl rfl rfl rfl ?_);replace hs:=hs;rintro g1 hs ah;obtain⟨aq,df⟩:=cf ah aq df;apply aE;refine kD rfl (.inl (ek.intro aq ⟨rfl,_,Kj,sa,sc,Vm,Vn,xm,?_,df⟩));have aT:=hs.drop 0;show St g0 _ (.obj b _:: .row _ 7 _ _ _:: .row _ 3 (.slice Vm (f.windows++[_]).length Vn) (f.windows++[_]).length _::L);rw[List.length_append];exact aT
 refine cO 11 (b':=false) (by simp;omega) rfl ?_;refine ak rfl rfl (cj fp aJ rfl rfl rfl rfl rfl (dZ false _) ?_ ?_)
 ·rintro g3 _ eW ⟨_,hc⟩;cases hc
 intro _ g3 eW;replace hs:=hs.call eW;replace aq:=aq.trans eW.le
 (repeat (first|with_reducible refine gB ?_|with_reducible refine gC ?_|with_reducible refine gD ?_))
 exact dv (.inr ⟨by unfold iq;rw[I4 (by rw[lL];exact h4)];rfl,fg.intro aq ⟨_,(hs.drop 1).drop 1⟩⟩)
end Go.Proofs.YtgehbndkogohpaaGreatDoor
namespace Go.Proofs.YtgehbndkogohpaaGreatDoor
open Go Go.K
set_option maxRecDepth 10000
attribute [local irreducible] W WL cD bc bK bd bg bh cq ck
set_option maxHeartbeats 2000000
def L0(n:Nat):List (List UInt8):=[kA,dec n,jB,[],k9,[],oq,[],ot,[]]
def ML:List (List UInt8):=[[],[],[],[],[],[],[],[],[],[],ou,[],k_,[]]
theorem L3{α:Type}{l:List α}(h:10≤l.length): ∃a0 a1 a2 a3 a4 a5 a6 a7 a8 a9 r,l=a0::a1::a2::a3::a4::a5::a6::a7::a8::a9::r:=by
 match l,h with
 |a0::a1::a2::a3::a4::a5::a6::a7::a8::a9::r,_=>exact⟨a0,a1,a2,a3,a4,a5,a6,a7,a8,a9,r,rfl⟩
theorem I6{a3 a5 a7 a9:List UInt8}{bk:Option (Int×Int)}(h:fH a3=none):iJ a3 a5 a7 a9 bk=none:=by
 unfold iJ;split
 ·simp_all
 rfl
theorem I7{a3 a5 a7 a9:List UInt8}{bk:Option (Int×Int)}(h:mu a5=none):iJ a3 a5 a7 a9 bk=none:=by
 unfold iJ;split
 ·simp_all
 rfl
theorem I8{a3 a5 a7 a9:List UInt8}{bk:Option (Int×Int)}(h:mv a7=none):iJ a3 a5 a7 a9 bk=none:=by
 unfold iJ;split
 ·simp_all
 rfl
theorem I9{a3 a5 a7 a9:List UInt8}{bk:Option (Int×Int)}(h:pz a9=none):iJ a3 a5 a7 a9 bk=none:=by
 unfold iJ;split
 ·simp_all
 rfl
theorem C2{a3 a5 a7 a9:List UInt8}:iJ a3 a5 a7 a9 none=none:=by
 unfold iJ;split
 ·rename_i h1;cases h1
 rfl
theorem C3{a3 a5 a7 a9:List UInt8}{r:Nat}{t nx:List Nat}{m n:Nat}{bk lm:Int}(h3:fH a3=some r)(h5:mu a5=some t)(h7:mv a7=some (m,n))(h9:pz a9=some nx):
  iJ a3 a5 a7 a9 (some (bk,lm))=some ⟨r,ints t,m,n,ints nx,bk,lm⟩:=by
 unfold iJ;rw[h3,h5,h7,h9]
theorem D7{n:Nat}{line a0 a1 a2 a3 a4 a5 a6 a7 a8 a9:List UInt8}{r:List (List UInt8)}(h:bN 32 line=a0::a1::a2::a3::a4::a5::a6::a7::a8::a9::r):eR n line=none∨ ∃bk,eR n line=iJ a3 a5 a7 a9 bk:=by
 unfold eR;rw[h]
 match r with
 |[]=>exact(Decidable.em (jC n a0 a1 a2 a4 a6 a8=true)).elim (fun hf=> .inr ⟨some (-1,0),if_pos hf⟩) (fun hf=> .inl (if_neg hf))
 |[b0,b1,b2,b3]=>exact(Decidable.em (jC n a0 a1 a2 a4 a6 a8=true∧b0=ou∧b2=k_)).elim (fun hf=> .inr ⟨sN b1 b3,if_pos hf⟩) (fun hf=> .inl (if_neg hf))
 |[_]=>exact .inl rfl
 |[_,_]=>exact .inl rfl
 |[_,_,_]=>exact .inl rfl
 |_::_::_::_::_::_=>exact .inl rfl
theorem D8{n:Nat}{line a0 a1 a2 a3 a4 a5 a6 a7 a8 a9:List UInt8}{r:List (List UInt8)}(h:bN 32 line=a0::a1::a2::a3::a4::a5::a6::a7::a8::a9::r)(hb: ∀bk,iJ a3 a5 a7 a9 bk=none):eR n line=none:=by
 rcases D7 (n:=n) h with e|⟨bk,e⟩
 ·exact e
 rw[e,hb]
theorem D9{n:Nat}{a0 a1 a2 a3 a4 a5 a6 a7 a8 a9:List UInt8}{r:List (List UInt8)}(h:ir (L0 n) (a0::a1::a2::a3::a4::a5::a6::a7::a8::a9::r)):jC n a0 a1 a2 a4 a6 a8=true:=by obtain rfl:=iL h 0 (w:=kA) rfl rfl (by decide);obtain rfl:=iL h 1 (w:=dec n) rfl rfl (p9 n);obtain rfl:=iL h 2 (w:=jB) rfl rfl (by decide);obtain rfl:=iL h 4 (w:=k9) rfl rfl (by decide);obtain rfl:=iL h 6 (w:=oq) rfl rfl (by decide);obtain rfl:=iL h 8 (w:=ot) rfl rfl (by decide);unfold jC;simp
theorem xp{n:Nat}{a0 a1 a2 a3 a4 a5 a6 a7 a8 a9:List UInt8}{r:List (List UInt8)}(h:jC n a0 a1 a2 a4 a6 a8=true):ir (L0 n) (a0::a1::a2::a3::a4::a5::a6::a7::a8::a9::r):=by
 unfold jC at h;simp only[Bool.and_eq_true,beq_iff_eq]at h;obtain⟨⟨⟨⟨⟨rfl,rfl⟩,rfl⟩,rfl⟩,rfl⟩,rfl⟩:=h;refine⟨by show 10≤_;simp only[List.length_cons];omega,fun i w hw=>?_⟩
 match i,hw with
 |0,hw=>exact .inr hw
 |1,hw=>exact .inr hw
 |2,hw=>exact .inr hw
 |3,hw=>exact .inl (Option.some.inj hw).symm
 |4,hw=>exact .inr hw
 |5,hw=>exact .inl (Option.some.inj hw).symm
 |6,hw=>exact .inr hw
 |7,hw=>exact .inl (Option.some.inj hw).symm
 |8,hw=>exact .inr hw
 |9,hw=>exact .inl (Option.some.inj hw).symm
 |_+10,hw=>cases hw
theorem D_{a0 a1 a2 a3 a4 a5 a6 a7 a8 a9 b1 b3:List UInt8}:ir ML [a0,a1,a2,a3,a4,a5,a6,a7,a8,a9,ou,b1,k_,b3]:=by
 refine⟨Nat.le_refl _,fun i w hw=>?_⟩
 match i,hw with
 |0,hw=>exact .inl (Option.some.inj hw).symm
 |1,hw=>exact .inl (Option.some.inj hw).symm
 |2,hw=>exact .inl (Option.some.inj hw).symm
 |3,hw=>exact .inl (Option.some.inj hw).symm
 |4,hw=>exact .inl (Option.some.inj hw).symm
 |5,hw=>exact .inl (Option.some.inj hw).symm
 |6,hw=>exact .inl (Option.some.inj hw).symm
 |7,hw=>exact .inl (Option.some.inj hw).symm
 |8,hw=>exact .inl (Option.some.inj hw).symm
 |9,hw=>exact .inl (Option.some.inj hw).symm
 |10,hw=>exact .inr hw
 |11,hw=>exact .inl (Option.some.inj hw).symm
 |12,hw=>exact .inr hw
 |13,hw=>exact .inl (Option.some.inj hw).symm
 |_+14,hw=>cases hw
theorem GJ{n:Nat}{line:List UInt8}(h: ¬ir (L0 n) (bN 32 line)):eR n line=none:=by
 unfold eR;split
 ·rename_i he;rw[he]at h;rw[if_neg fun hf=>h (xp hf)]
 ·rename_i he;rw[he]at h;rw[if_neg fun hf=>h (xp hf.1)]
 rfl
theorem BW{n:Nat}{line a0 a1 a2 a3 a4 a5 a6 a7 a8 a9:List UInt8}(h:bN 32 line=[a0,a1,a2,a3,a4,a5,a6,a7,a8,a9])(hf:jC n a0 a1 a2 a4 a6 a8=true):eR n line=iJ a3 a5 a7 a9 (some (-1,0)):=by unfold eR;rw[h];show(if _ then _ else _)=_;rw[if_pos hf]
theorem Ea{n:Nat}{line a0 a1 a2 a3 a4 a5 a6 a7 a8 a9 b0 b1 b2 b3:List UInt8}(h:bN 32 line=[a0,a1,a2,a3,a4,a5,a6,a7,a8,a9,b0,b1,b2,b3])(hf:jC n a0 a1 a2 a4 a6 a8=true)
  (hb:ir ML [a0,a1,a2,a3,a4,a5,a6,a7,a8,a9,b0,b1,b2,b3]):eR n line=iJ a3 a5 a7 a9 (sN b1 b3):=by
 obtain rfl:=iL hb 10 (w:=ou) rfl rfl (by decide);obtain rfl:=iL hb 12 (w:=k_) rfl rfl (by decide);unfold eR;rw[h];show(if _ then _ else _)=_;rw[if_pos ⟨hf,rfl,rfl⟩]
theorem Eb{n:Nat}{line:List UInt8}(hl:10<(bN 32 line).length)(h: ¬ir ML (bN 32 line)):eR n line=none:=by
 unfold eR;split
 ·rename_i he;rw[he]at hl;exact absurd hl (by simp)
 ·rename_i he;rw[he]at h;rw[if_neg];rintro⟨_,rfl,rfl⟩;exact h D_
 rfl
theorem Ec{n:Nat}{line:List UInt8}(hl:10<(bN 32 line).length)(h:(bN 32 line).length≠14):eR n line=none:=by
 unfold eR;split
 ·rename_i he;rw[he]at hl;exact absurd hl (by simp)
 ·rename_i he;rw[he]at h;exact absurd rfl h
 rfl
def pD(f:bQ)(line:List UInt8):Option Step:=(eR f.steps.length line).bind fun s=>if(bT s 40&&decide ((f.steps.length:Int)<40)&&decide ((f.windows.length:Int)=0))=true then some s else none
theorem gE{f:bQ}{line:List UInt8}(h:eR f.steps.length line=none):pD f line=none:=by unfold pD;rw[h];rfl
end Go.Proofs.YtgehbndkogohpaaGreatDoor
