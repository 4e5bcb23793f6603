/- Parts of the proof, from: The lines of a flow's text, written and read: in plain Lean. -/
import Derived.Test.YtbfjdfecgiegpaaGreatDoorYe
import Derived.Test.YtbfjdfecgiegpaaGreatDoorYd
import Derived.Test.YtbfjdfecgiegpaaGreatDoorYa
import Derived.Test.YtbfjdfecgiegpaaGreatDoorYc
namespace Go.Proofs.YtbfjdfecgiegpaaGreatDoor
open Go
def iY:List UInt8:=[115,116,101,112]
def gE:List UInt8:=[114,101,99,105,112,101]
def aaA:List UInt8:=[116,111,111,108,115]
def mG:List UInt8:=[116,105,109,101]
def mH:List UInt8:=[110,101,120,116]
def lX:List UInt8:=[98,97,99,107]
def iF:List UInt8:=[108,105,109,105,116]
def ft:List UInt8:=[119,105,110,100,111,119]
def lz:List UInt8:=[109,111,118,101]
def pj(n:Int):Prop:=0≤n∧n≤1000000
def eW(n:Int):List UInt8:=dec n.toNat
def aaB(l:List Int):List UInt8:=if l=[]then [45]else fL 44 (l.map eW)
def mW(a b:Int):List UInt8:=eW a++46::46::eW b
def ru(i:Nat)(s:Step):List (List UInt8):=
 [iY,dec i,gE,eW s.eQ,aaA,aaB s.ed,mG,mW s.min s.max,mH,aaB s.next]++if 0≤s.back then [lX,eW s.back,iF,eW s.dN]else []
def oD(w:cQ):List (List UInt8):=[ft,eW w.src,eW w.dst,eW w.dN]
def zM(a b:Int):List (List UInt8):=[lz,mW a b]
def kZ(i:Nat)(s:Step):List UInt8:=fL 32 (ru i s)
def iG(w:cQ):List UInt8:=fL 32 (oD w)
def qm(a b:Int):List UInt8:=fL 32 (zM a b)
def ints(l:List Nat):List Int:=l.map fun n:Nat=>(n:Int)
def rv(w:List UInt8):Option (List Nat):=if w=[45]then some []else nH w
def jj(a3 a5 a7 a9:List UInt8)(bk:Option (Int×Int)):Option Step:=
 match gh a3,nH a5,nI a7,rv a9,bk with
 |some r,some t,some mm,some nx,some bl=>some ⟨r,ints t,mm.1,mm.2,ints nx,bl.1,bl.2⟩
 |_,_,_,_,_=>none
def vj(x y:List UInt8):Option (Int×Int):=
 match gh x,gh y with
 |some a,some b=>some (a,b)
 |_,_=>none
def aaC(i:Nat)(a0 a1 a2 a4 a6 a8:List UInt8):Bool:=a0==iY&&a1==dec i&&a2==gE&&a4==aaA&&a6==mG&&a8==mH
def fm(i:Nat)(line:List UInt8):Option Step:=
 match bW 32 line with
 |[a0,a1,a2,a3,a4,a5,a6,a7,a8,a9]=>if aaC i a0 a1 a2 a4 a6 a8=true then jj a3 a5 a7 a9 (some (-1,0))else none
 |[a0,a1,a2,a3,a4,a5,a6,a7,a8,a9,b0,b1,b2,b3]=>if aaC i a0 a1 a2 a4 a6 a8=true∧b0=lX∧b2=iF then jj a3 a5 a7 a9 (vj b1 b3)else none
 |_=>none
def iS(line:List UInt8):Option cQ:=
 match bW 32 line with
 |[a0,a1,a2,a3]=>if a0=ft then
   match gh a1,gh a2,gh a3 with
   |some x,some y,some z=>some ⟨x,y,z⟩
   |_,_,_=>none
  else none
 |_=>none
def ry(line:List UInt8):Option (Int×Int):=
 match bW 32 line with
 |[a0,a1]=>if a0=lz then(nI a1).map fun p=>((p.1:Int),(p.2:Int))else none
 |_=>none
structure Jz(s:Step):Prop where
 eQ:pj s.eQ
 ed:s.ed≠[]
 Be: ∀n∈s.ed,pj n
 min:pj s.min
 max:pj s.max
 next: ∀n∈s.next,pj n
 back:(s.back= -1∧s.dN=0)∨(pj s.back∧pj s.dN)
theorem JA(l:List Nat):(ints l).map eW=l.map dec:=by unfold ints;rw[List.map_map];rfl
theorem tB{l:List Nat}(h: ∀n∈l,n≤1000000): ∀n∈ints l,pj n:=by intro n hn;obtain⟨m,hm,rfl⟩:=List.mem_map.1 hn;have:=h m hm;exact⟨by omega,by omega⟩
theorem Bf{l:List Nat}:ints l=[]↔l=[]:=by unfold ints;exact List.map_eq_nil_iff
theorem qU{l:List Int}(h: ∀n∈l,pj n):ints (l.map Int.toNat)=l:=by
 unfold ints;rw[List.map_map];conv=>rhs;rw[←List.map_id l]
 exact List.map_congr_left fun n hn=>by have:=(h n hn).1;show((n.toNat:Nat):Int)=n;omega
theorem k_{l:List Nat}(h:l≠[]):aaB (ints l)=fL 44 (l.map dec):=by unfold aaB;rw[if_neg (fun e=>h (Bf.1 e)),JA]
theorem GJ{c:UInt8}{x:List UInt8}{r:List (List UInt8)}(h:x≠[]):(fL c (x::r)).head? =x.head?:=by
 cases x with
 |nil=>exact absurd rfl h
 |cons b t=>cases r<;>rfl
theorem JB(l:List Nat)(h:l≠[]):fL 44 (l.map dec)≠[45]:=by
 cases l with
 |nil=>exact absurd rfl h
 |cons n l=>
  intro e;have:=GJ (c:=44) (r:=l.map dec) (qk n);rw[List.map_cons]at e;rw[e]at this;cases hd:dec n with
  |nil=>exact qk n hd
  |cons b t=>
   rw[hd]at this;simp only[List.head?_cons,Option.some.injEq]at this;have hb:=oC n b (by rw[hd];simp);rw[←this]at hb;cases hb
theorem zN{w:List UInt8}{l:List Nat}:rv w=some l↔w=aaB (ints l)∧ ∀n∈l,n≤1000000:=by
 unfold rv;by_cases hw:w=[45]
 ·rw[if_pos hw];constructor
  ·intro h;obtain rfl:=Option.some.inj h;exact⟨by rw[hw];rfl,by simp⟩
  rintro⟨h,_⟩;cases l with
  |nil=>rfl
  |cons n l=>
   rw[k_ (by simp),hw]at h;exact absurd h.symm (JB (n::l) (by simp))
 rw[if_neg hw,uO];constructor
 ·rintro⟨h1,h2,h3⟩;exact⟨by rw[k_ h2];exact h1,h3⟩
 rintro⟨h1,h3⟩;have hl:l≠[]:=fun e=>by subst e;exact hw (by rw[h1];rfl)
 exact⟨by rw[←k_ hl];exact h1,hl,h3⟩
theorem qV{a3 a5 a7 a9:List UInt8}{bk:Option (Int×Int)}{s:Step}:jj a3 a5 a7 a9 bk=some s↔
  a3=eW s.eQ∧a5=aaB s.ed∧a7=mW s.min s.max∧a9=aaB s.next∧bk=some (s.back,s.dN)∧pj s.eQ∧s.ed≠[]∧(∀n∈s.ed,pj n)∧pj s.min∧pj s.max∧ ∀n∈s.next,pj n:=by
 unfold jj;constructor
 ·intro h;split at h
  ·rename_i r t mm nx bl h1 h2 h3 h4;obtain rfl:=Option.some.inj h;obtain⟨e1,l1⟩:=iE.1 h1;obtain⟨e2,n2,l2⟩:=uO.1 h2;obtain⟨e3,l3,l4⟩:=qT.1 h3;obtain⟨e4,l5⟩:=zN.1 h4;refine⟨?_,?_,?_,e4,rfl,⟨Int.natCast_nonneg _,by show(r:Int)≤_;omega⟩,fun e=>n2 (Bf.1 e),tB l2,⟨Int.natCast_nonneg _,by show(mm.1:Int)≤_;omega⟩,⟨Int.natCast_nonneg _,by show(mm.2:Int)≤_;omega⟩,tB l5⟩
   ·unfold eW;rw[Int.toNat_natCast];exact e1
   ·rw[k_ n2];exact e2
   unfold mW eW;rw[Int.toNat_natCast,Int.toNat_natCast];exact e3
  cases h
 rintro⟨rfl,rfl,rfl,rfl,rfl,⟨h1,h2⟩,h3,h4,⟨h5,h6⟩,⟨h7,h8⟩,h9⟩;have e1:gh (eW s.eQ)=some s.eQ.toNat:=ji (by omega);have e2:nH (aaB s.ed)=some (s.ed.map Int.toNat):=by
  rw[uO];refine⟨?_,by simpa using h3,fun n hn=>?_⟩
  ·unfold aaB;rw[if_neg h3,List.map_map];rfl
  obtain⟨m,hm,rfl⟩:=List.mem_map.1 hn;have:=(h4 m hm).2;omega
 have e3:nI (mW s.min s.max)=some (s.min.toNat,s.max.toNat):=qT.2 ⟨rfl,by omega,by omega⟩;have e4:rv (aaB s.next)=some (s.next.map Int.toNat):=by rw[zN,qU h9];refine⟨rfl,fun n hn=>?_⟩;obtain⟨m,hm,rfl⟩:=List.mem_map.1 hn;have:=(h9 m hm).2;omega
 rw[e1,e2,e3,e4];simp only;rw[qU h4,qU h9,Int.toNat_of_nonneg h1,Int.toNat_of_nonneg h5,Int.toNat_of_nonneg h7]
theorem oE{c:UInt8}(h:fy c=false)(n:Int):c∉eW n:=Eb h _
theorem Fq{c d:UInt8}(hd:c≠d): ∀{ps:List (List UInt8)},(∀p∈ps,c∉p)→c∉fL d ps
 |[],_=>by simp[fL]
 |[x],h=>h x (by simp)
 |x::y::r,h=>by show c∉x++d::fL d (y::r);rw[List.mem_append,List.mem_cons,not_or,not_or];exact⟨h x (by simp),hd,Fq hd fun p hp=>h p (by simp[hp])⟩
theorem JC{c:UInt8}(h:fy c=false)(h1:c≠44)(h2:c≠45)(l:List Int):c∉aaB l:=by
 unfold aaB;split
 ·simpa using h2
 exact Fq h1 fun p hp=>by obtain⟨n,_,rfl⟩:=List.mem_map.1 hp;exact oE h n
theorem zO{c:UInt8}(h:fy c=false)(h1:c≠46)(a b:Int):c∉mW a b:=by unfold mW;rw[List.mem_append,List.mem_cons,List.mem_cons,not_or,not_or,not_or];exact⟨oE h a,h1,h1,oE h b⟩
theorem JD{c:UInt8}(h:fy c=false)(h1:c≠44)(h2:c≠45)(h3:c≠46)(h4:c∉iY++gE++aaA++mG++mH++lX++iF)(i:Nat)(s:Step): ∀p∈ru i s,c∉p:=by
 simp only[List.mem_append,not_or]at h4;obtain⟨⟨⟨⟨⟨⟨k1,k2⟩,k3⟩,k4⟩,k5⟩,k6⟩,k7⟩:=h4;intro p hp;unfold ru at hp;have hd:=fun n=>oE h n;have hn:=fun l=>JC h h1 h2 l;have hr:=fun a b=>zO h h3 a b;have hi:=Eb h i;rcases List.mem_append.1 hp with hp|hp
 ·simp only[List.mem_cons,List.not_mem_nil,or_false]at hp;rcases hp with rfl|rfl|rfl|rfl|rfl|rfl|rfl|rfl|rfl|rfl
  ·exact k1
  ·exact hi
  ·exact k2
  ·exact hd _
  ·exact k3
  ·exact hn _
  ·exact k4
  ·exact hr _ _
  ·exact k5
  exact hn _
 split at hp
 ·simp only[List.mem_cons,List.not_mem_nil,or_false]at hp;rcases hp with rfl|rfl|rfl|rfl
  ·exact k6
  ·exact hd _
  ·exact k7
  exact hd _
 cases hp
theorem zP{i:Nat}{line:List UInt8}{s:Step}:fm i line=some s↔line=kZ i s∧Jz s:=by
 unfold fm;constructor
 ·intro h;split at h
  ·rename_i a0 a1 a2 a3 a4 a5 a6 a7 a8 a9 hs;split at h
   ·rename_i hf;unfold aaC at hf;simp only[Bool.and_eq_true,beq_iff_eq]at hf;obtain⟨⟨⟨⟨⟨rfl,rfl⟩,rfl⟩,rfl⟩,rfl⟩,rfl⟩:=hf;obtain⟨rfl,rfl,rfl,rfl,hb,k1,k2,k3,k4,k5,k6⟩:=qV.1 h;simp only[Option.some.injEq,Prod.mk.injEq]at hb;refine⟨?_,k1,k2,k3,k4,k5,k6,.inl ⟨hb.1.symm,hb.2.symm⟩⟩;unfold kZ ru;rw[if_neg (by rw[←hb.1];decide),List.append_nil];exact((iR 32).1 hs).1
   cases h
  ·rename_i a0 a1 a2 a3 a4 a5 a6 a7 a8 a9 b0 b1 b2 b3 hs;split at h
   ·rename_i hf;obtain⟨hf,rfl,rfl⟩:=hf;unfold aaC at hf;simp only[Bool.and_eq_true,beq_iff_eq]at hf;obtain⟨⟨⟨⟨⟨rfl,rfl⟩,rfl⟩,rfl⟩,rfl⟩,rfl⟩:=hf;obtain⟨rfl,rfl,rfl,rfl,hb,k1,k2,k3,k4,k5,k6⟩:=qV.1 h;unfold vj at hb;split at hb
    ·rename_i x y h1 h2;obtain⟨e1,l1⟩:=iE.1 h1;obtain⟨e2,l2⟩:=iE.1 h2;simp only[Option.some.injEq,Prod.mk.injEq]at hb;refine⟨?_,k1,k2,k3,k4,k5,k6,.inr ⟨⟨by omega,by omega⟩,⟨by omega,by omega⟩⟩⟩;have f1:b1=eW s.back:=by unfold eW;rw[←hb.1,Int.toNat_natCast];exact e1
     have f2:b3=eW s.dN:=by unfold eW;rw[←hb.2,Int.toNat_natCast];exact e2
     unfold kZ ru;rw[if_pos (by omega),←f1,←f2];exact((iR 32).1 hs).1
    cases hb
   cases h
  cases h
 rintro⟨rfl,hN⟩;have hs:bW 32 (kZ i s)=ru i s:=(iR 32).2 ⟨rfl,by unfold ru;simp,JD rfl (by decide) (by decide) (by decide) (by decide) i s⟩;rw[hs];have hf:aaC i iY (dec i) gE aaA mG mH=true:=by unfold aaC;simp
 rcases hN.back with⟨h1,h2⟩|⟨⟨h1,Qt⟩,⟨h2,Qh⟩⟩
 ·unfold ru;rw[if_neg (by rw[h1];decide),List.append_nil];simp only;rw[if_pos hf,qV];exact⟨rfl,rfl,rfl,rfl,by rw[h1,h2],hN.eQ,hN.ed,hN.Be,hN.min,hN.max,hN.next⟩
 unfold ru;rw[if_pos h1];simp only[List.cons_append,List.nil_append];rw[if_pos (by refine⟨hf,?_,?_⟩<;>trivial),qV];refine⟨rfl,rfl,rfl,rfl,?_,hN.eQ,hN.ed,hN.Be,hN.min,hN.max,hN.next⟩;unfold vj eW;rw[ji (by omega),ji (by omega)];simp only;rw[Int.toNat_of_nonneg h1,Int.toNat_of_nonneg h2]
theorem qn{line:List UInt8}{w:cQ}:iS line=some w↔line=iG w∧pj w.src∧pj w.dst∧pj w.dN:=by
 unfold iS;constructor
 ·intro h;split at h
  ·rename_i a0 a1 a2 a3 hs;split at h
   ·rename_i h0;subst h0;split at h
    ·rename_i x y z h1 h2 h3;obtain⟨rfl,l1⟩:=iE.1 h1;obtain⟨rfl,l2⟩:=iE.1 h2;obtain⟨rfl,l3⟩:=iE.1 h3;obtain rfl:=Option.some.inj h;exact⟨((iR 32).1 hs).1,⟨by show(0:Int)≤x;omega,by show(x:Int)≤_;omega⟩,⟨by show(0:Int)≤y;omega,by show(y:Int)≤_;omega⟩,⟨by show(0:Int)≤z;omega,by show(z:Int)≤_;omega⟩⟩
    cases h
   cases h
  cases h
 rintro⟨rfl,⟨h1,Qt⟩,⟨h2,Qh⟩,⟨h3,V6⟩⟩;have hs:bW 32 (iG w)=oD w:=(iR 32).2 ⟨rfl,by unfold oD;simp,fun p hp=>by
  unfold oD at hp;simp only[List.mem_cons,List.not_mem_nil,or_false]at hp;rcases hp with rfl|rfl|rfl|rfl
  ·decide
  ·exact oE rfl _
  ·exact oE rfl _
  exact oE rfl _⟩
 rw[hs];unfold oD;simp only[if_true];unfold eW;rw[ji (by omega),ji (by omega),ji (by omega)];simp only;rw[Int.toNat_of_nonneg h1,Int.toNat_of_nonneg h2,Int.toNat_of_nonneg h3]
theorem zQ{line:List UInt8}{a b:Int}:ry line=some (a,b)↔line=qm a b∧pj a∧pj b:=by
 unfold ry;constructor
 ·intro h;split at h
  ·rename_i a0 a1 hs;split at h
   ·rename_i h0;subst h0;rw[Option.map_eq_some_iff]at h;obtain⟨⟨x,y⟩,h1,h2⟩:=h;obtain⟨rfl,l1,l2⟩:=qT.1 h1;simp only[Prod.mk.injEq]at h2;obtain⟨rfl,rfl⟩:=h2;exact⟨((iR 32).1 hs).1,⟨by omega,by omega⟩,⟨by omega,by omega⟩⟩
   cases h
  cases h
 rintro⟨rfl,⟨h1,Qt⟩,⟨h2,Qh⟩⟩;have hs:bW 32 (qm a b)=zM a b:=(iR 32).2 ⟨rfl,by unfold zM;simp,fun p hp=>by
  unfold zM at hp;simp only[List.mem_cons,List.not_mem_nil,or_false]at hp;rcases hp with rfl|rfl
  ·decide
  exact zO rfl (by decide) _ _⟩
 rw[hs];unfold zM;simp only[if_true];have rG:nI (mW a b)=some (a.toNat,b.toNat):=qT.2 ⟨rfl,by omega,by omega⟩;rw[rG];simp only[Option.map_some];rw[Int.toNat_of_nonneg h1,Int.toNat_of_nonneg h2]
def fA:Nat→List UInt8→Nat×List UInt8
 |n,[]=>(n,[])
 |n,b::t=>if n≤1000000∧fy b=true then fA (10*n+(b.toNat-48)) t else(n,b::t)
def mX(r:List UInt8):Bool:=(fA 0 r).2.length==r.length||(decide (1<r.length-(fA 0 r).2.length)&&r.head? ==some 48)||decide (1000000<(fA 0 r).1)
def d_(ok:Bool)(r:List UInt8):Nat×Bool×List UInt8:=if ok=true then((fA 0 r).1,!mX r,(fA 0 r).2)else(0,false,r)
def dD(w:List UInt8)(ok:Bool)(r:List UInt8):Bool×List UInt8:=if ok=true∧w.isPrefixOf r=true then(true,r.drop w.length)else(false,r)
def qo(r:List UInt8):Prop:=∀b t,r=b::t→fy b=false
theorem se: ∀(r:List UInt8) (n:Nat),∃p,r=p++(fA n r).2∧p.all fy=true∧(fA n r).1=ic n p∧((fA n r).1≤1000000→qo (fA n r).2)
 |[],n=>⟨[],rfl,rfl,rfl,fun _ b t h=>by cases h⟩
 |b::t,n=>by
  unfold fA;by_cases h:n≤1000000∧fy b=true
  ·rw[if_pos h];obtain⟨p,h1,h2,h3,h4⟩:=se t (10*n+(b.toNat-48));exact⟨b::p,by rw[List.cons_append,←h1],by rw[List.all_cons,h.2,h2];rfl,h3,h4⟩
  rw[if_neg h];refine⟨[],rfl,rfl,rfl,fun hn b' t' e=>?_⟩;obtain⟨rfl,rfl⟩:=List.cons.inj e;cases hd:fy b
  ·rfl
  exact absurd ⟨hn,hd⟩ h
theorem xX{r:List UInt8}(hr:qo r): ∀(p:List UInt8) (n:Nat),p.all fy=true→ic n p≤1000000→fA n (p++r)=(ic n p,r)
 |[],n,_,_=>by
  cases r with
  |nil=>rfl
  |cons b t=>
   show fA n (b::t)=_;unfold fA;rw[if_neg (fun h=>by rw[hr b t rfl]at h;cases h.2)];rfl
 |b::p,n,h,hv=>by
  rw[List.all_cons,Bool.and_eq_true]at h;have CU: ∀(t:List UInt8) (a:Nat),a≤ic a t:=by
   intro t
   induction t with
   |nil=>intro a;exact Nat.le_refl _
   |cons c t ih=>intro a;exact Nat.le_trans (by omega) (ih (10*a+(c.toNat-48)))
  have h1:=CU p (10*n+(b.toNat-48));have Ce:ic (10*n+(b.toNat-48)) p≤1000000:=hv;show fA n (b::(p++r))=_;unfold fA;rw[if_pos ⟨by omega,h.1⟩,xX hr p _ h.2 Ce];rfl
theorem eD{ok:Bool}{r r':List UInt8}{n:Nat}:d_ ok r=(n,true,r')↔ok=true∧r=dec n++r'∧n≤1000000∧qo r':=by
 unfold d_;constructor
 ·intro h;split at h
  ·rename_i l_;obtain⟨p,h1,h2,h3,h4⟩:=se r 0;simp only[Prod.mk.injEq,Bool.not_eq_true']at h;obtain⟨e1,e2,e3⟩:=h;unfold mX at e2;simp only[Bool.or_eq_false_iff,beq_eq_false_iff_ne,ne_eq,decide_eq_false_iff_not,Nat.not_lt,Bool.and_eq_false_iff]at e2;obtain⟨⟨k1,k2⟩,k3⟩:=e2;rw[e3]at h1 k1 k2 h4;rw[e1]at h3 k3 h4;have hlen:r.length=p.length+r'.length:=by rw[h1,List.length_append]
   have hc:canon p=true:=by
    unfold canon;rw[h2,Bool.true_and];cases p with
    |nil=>simp at hlen;omega
    |cons b t=>
     cases t with
     |nil=>rfl
     |cons c t=>
      simp only[bne_iff_ne,ne_eq];intro e;subst e;rcases k2 with k2|k2
      ·simp only[List.length_cons]at hlen;omega
      rw[h1]at k2;simp at k2
   refine⟨l_,?_,k3,h4 k3⟩;rw[h3,show ic 0 p=val p from rfl,Fp hc];exact h1
  simp at h
 rintro⟨rfl,rfl,hn,hd⟩;have hv:ic 0 (dec n)=n:=Bd n;have hg:=xX hd (dec n) 0 (List.all_eq_true.2 (oC n)) (by rw[hv];exact hn);rw[if_pos rfl];have hb:mX (dec n++r')=false:=by
  unfold mX;rw[hg,hv];have eO:=qk n;have hl:0<(dec n).length:=List.length_pos_iff.2 eO;simp only[Bool.or_eq_false_iff,beq_eq_false_iff_ne,ne_eq,decide_eq_false_iff_not,Nat.not_lt,Bool.and_eq_false_iff,List.length_append];refine⟨⟨by omega,?_⟩,hn⟩;by_cases h1:(dec n).length=1
  ·left;omega
  right;cases hd:dec n with
  |nil=>exact absurd hd eO
  |cons b t=>
   have lK:0<n:=by refine Nat.pos_of_ne_zero fun h0=>?_;subst h0;rw[ie (by decide)]at h1;exact h1 rfl
   simp only[List.cons_append,List.head?_cons,Option.some.injEq];intro e;subst e;exact Fo lK _ hd
 rw[hg,hb,hv];rfl
theorem eu{w:List UInt8}{ok:Bool}{r r':List UInt8}:dD w ok r=(true,r')↔ok=true∧r=w++r':=by
 unfold dD;constructor
 ·intro h;split at h
  ·rename_i hw;simp only[Prod.mk.injEq,true_and]at h;obtain⟨t,ht⟩:=List.isPrefixOf_iff_prefix.1 hw.2;refine⟨hw.1,?_⟩;rw[←h,←ht,List.drop_left]
  simp at h
 rintro⟨rfl,rfl⟩;rw[if_pos ⟨rfl,List.isPrefixOf_iff_prefix.2 ⟨r',rfl⟩⟩,List.drop_left]
def i_:Nat→List Nat→Bool→List UInt8→List Nat×Bool×List UInt8
 |0,l,ok,r=>(l,ok,r)
 |k+1,l,ok,r=>if ok=true∧r.head? =some 44 then i_ k (l++[(d_ true (r.drop 1)).1]) (d_ true (r.drop 1)).2.1 (d_ true (r.drop 1)).2.2 else(l,ok,r)
def nJ(ok:Bool)(r:List UInt8):List Nat×Bool×List UInt8:=i_ r.length [(d_ ok r).1] (d_ ok r).2.1 (d_ ok r).2.2
def oG(r:List UInt8):Prop:=qo r∧r.head? ≠some 44
theorem tC(ok:Bool)(r:List UInt8):(d_ ok r).2.2.length≤r.length:=by
 unfold d_;split
 ·obtain⟨p,h1,_⟩:=se r 0;have:=congrArg List.length h1;rw[List.length_append]at this;show(fA 0 r).2.length≤_;omega
 exact Nat.le_refl _
theorem Ed: ∀(k:Nat) (l:List Nat) (r r':List UInt8) (m:List Nat),r.length≤k→qo r→(i_ k l true r=(m,true,r')↔ ∃t:List Nat,m=l++t∧r=(t.map fun n=>44::dec n).flatten++r'∧(∀n∈t,n≤1000000)∧oG r'):=by
 intro k
 induction k with
 |zero=>
  intro l r r' m hk hd;obtain rfl:r=[]:=List.eq_nil_of_length_eq_zero (by omega);unfold i_;constructor
  ·intro h;simp only[Prod.mk.injEq,true_and]at h;obtain⟨rfl,rfl⟩:=h;exact⟨[],by simp,rfl,by simp,hd,by simp⟩
  rintro⟨t,rfl,h2,_,_⟩;have h3:=congrArg List.length h2;cases t with
  |nil=>
   simp only[List.map_nil,List.flatten_nil,List.nil_append]at h2;subst h2;simp
  |cons n t=>simp at h2
 |succ k ih=>
  intro l r r' m hk hd;unfold i_;by_cases K3:r.head? =some 44
  ·rw[if_pos ⟨rfl,K3⟩];obtain⟨r1,rfl⟩: ∃r1,r=44::r1:=by
    cases r with
    |nil=>simp at K3
    |cons b t=>simp only[List.head?_cons,Option.some.injEq]at K3;exact⟨t,by rw[K3]⟩
   simp only[List.drop_succ_cons,List.drop_zero];have hl:=tC true r1;cases hn:d_ true r1 with
   |mk n rest=>
   obtain⟨uP,r2⟩:=rest;rw[hn]at hl;simp only at hl⊢;simp only[List.length_cons]at hk;cases uP with
   |false=>
    have JE: ∀k l r,i_ k l false r=(l,false,r):=by intro k l r;cases k<;>simp[i_]
    rw[JE];constructor
    ·intro h;simp at h
    rintro⟨t,rfl,h2,h3,h4⟩;cases t with
    |nil=>
     simp only[List.map_nil,List.flatten_nil,List.nil_append]at h2;rw[←h2]at h4;exact absurd rfl h4.2
    |cons x t=>
     exfalso;simp only[List.map_cons,List.flatten_cons,List.cons_append,List.cons.injEq,true_and,List.append_assoc]at h2;have yq:qo ((t.map fun n=>44::dec n).flatten++r'):=by
      intro b u e;cases t with
      |nil=>exact h4.1 b u e
      |cons y t=>
       simp only[List.map_cons,List.flatten_cons,List.cons_append,List.cons.injEq]at e;rw[←e.1];rfl
     have:=eD.2 (⟨rfl,h2,h3 x (by simp),yq⟩:_∧_∧_∧_);rw[hn]at this;simp at this
   |true=>
    obtain⟨_,e1,e2,e3⟩:=eD.1 hn;rw[ih (l++[n]) r2 r' m (by omega) e3];constructor
    ·rintro⟨t,rfl,h2,h3,h4⟩;refine⟨n::t,by simp,?_,fun y hy=>?_,h4⟩
     ·simp only[List.map_cons,List.flatten_cons,List.cons_append,List.append_assoc];rw[e1,h2]
     rcases List.mem_cons.1 hy with rfl|hy
     ·exact e2
     exact h3 y hy
    rintro⟨t,rfl,h2,h3,h4⟩;cases t with
    |nil=>
     simp only[List.map_nil,List.flatten_nil,List.nil_append]at h2;rw[←h2]at h4;exact absurd rfl h4.2
    |cons x t=>
     simp only[List.map_cons,List.flatten_cons,List.cons_append,List.cons.injEq,true_and,List.append_assoc]at h2;have yq:qo ((t.map fun n=>44::dec n).flatten++r'):=by
      intro b u e;cases t with
      |nil=>exact h4.1 b u e
      |cons y t=>
       simp only[List.map_cons,List.flatten_cons,List.cons_append,List.cons.injEq]at e;rw[←e.1];rfl
     have:=eD.2 (⟨rfl,h2,h3 x (by simp),yq⟩:_∧_∧_∧_);rw[hn]at this;simp only[Prod.mk.injEq,true_and]at this;obtain⟨rfl,rfl⟩:=this;exact⟨t,by simp,rfl,fun y hy=>h3 y (by simp[hy]),h4⟩
  rw[if_neg (fun h=>K3 h.2)];constructor
  ·intro h;simp only[Prod.mk.injEq,true_and]at h;obtain⟨rfl,rfl⟩:=h;exact⟨[],by simp,rfl,by simp,hd,K3⟩
  rintro⟨t,rfl,h2,_,_⟩;cases t with
  |nil=>
   simp only[List.map_nil,List.flatten_nil,List.nil_append]at h2;subst h2;simp
  |cons n t=>
   exfalso;refine K3 ?_;rw[h2];rfl
theorem nK(c:UInt8): ∀(n:Nat) (t:List Nat),fL c ((n::t).map dec)=dec n++(t.map fun n=>c::dec n).flatten
 |n,[]=>by simp[fL]
 |n,m::t=>by show dec n++c::fL c ((m::t).map dec)=_;rw[nK c m t];simp
theorem uQ{ok:Bool}{r r':List UInt8}{m:List Nat}:nJ ok r=(m,true,r')↔ok=true∧m≠[]∧r=fL 44 (m.map dec)++r'∧(∀n∈m,n≤1000000)∧oG r':=by
 unfold nJ;have hl:=tC ok r;cases hn:d_ ok r with
 |mk n rest=>
 obtain⟨uP,r1⟩:=rest;rw[hn]at hl;simp only at hl⊢;have yq: ∀(t:List Nat),oG r'→qo ((t.map fun n=>44::dec n).flatten++r'):=by
  intro t h4 b u e;cases t with
  |nil=>exact h4.1 b u e
  |cons y t=>
   simp only[List.map_cons,List.flatten_cons,List.cons_append,List.cons.injEq]at e;rw[←e.1];rfl
 cases uP with
 |false=>
  have JE: ∀k l r,i_ k l false r=(l,false,r):=by intro k l r;cases k<;>simp[i_]
  rw[JE];constructor
  ·intro h;simp at h
  rintro⟨rfl,h1,h2,h3,h4⟩;exfalso;cases m with
  |nil=>exact h1 rfl
  |cons x t=>
   rw[nK,List.append_assoc]at h2;have:=eD.2 (⟨rfl,h2,h3 x (by simp),yq t h4⟩:_∧_∧_∧_);rw[hn]at this;simp at this
 |true=>
  obtain⟨l_,e1,e2,e3⟩:=eD.1 hn;rw[Ed r.length [n] r1 r' m hl e3];constructor
  ·rintro⟨t,rfl,h2,h3,h4⟩;refine⟨l_,by simp,?_,fun y hy=>?_,h4⟩
   ·rw[List.singleton_append,nK,e1,h2,List.append_assoc]
   rcases List.mem_cons.1 hy with rfl|hy
   ·exact e2
   exact h3 y hy
  rintro⟨_,h1,h2,h3,h4⟩;cases m with
  |nil=>exact absurd rfl h1
  |cons x t=>
   rw[nK,List.append_assoc]at h2;have:=eD.2 (⟨l_,h2,h3 x (by simp),yq t h4⟩:_∧_∧_∧_);rw[hn]at this;simp only[Prod.mk.injEq,true_and]at this;obtain⟨rfl,rfl⟩:=this;exact⟨t,rfl,rfl,fun y hy=>h3 y (by simp[hy]),h4⟩
def jm(p:List UInt8)(ok:Bool)(r:List UInt8):Bool:=ok&&p.isPrefixOf r
def xY(ok:Bool)(r:List UInt8):List Nat×Bool×List UInt8:=if jm [45] ok r=true then([],dD [45] ok r)else nJ ok r
def yT(ok:Bool)(r:List UInt8):Bool:=ok&&r.isEmpty
def xZ(ok:Bool)(r:List UInt8):(Int×Int)×Bool×List UInt8:=
 if jm [32] ok r=true then
  match dD (32::lX++[32]) ok r with
  |(uP,r1)=>match d_ uP r1 with
   |(b,vk,r2)=>match dD (32::iF++[32]) vk r2 with
    |(yU,r3)=>match d_ yU r3 with
     |(l,yp,r4)=>((b,l),yp,r4)
 else((-1,0),ok,r)
def fE(i:Nat)(line:List UInt8):Step×Bool:=
 match dD (iY++32::(dec i++32::(gE++[32]))) true line with
 |(uP,r1)=>match d_ uP r1 with
  |(rc,vk,r2)=>match dD (32::aaA++[32]) vk r2 with
   |(yU,r3)=>match nJ yU r3 with
    |(tl,yp,r4)=>match dD (32::mG++[32]) yp r4 with
     |(JF,r5)=>match d_ JF r5 with
      |(mn,GK,r6)=>match dD [46,46] GK r6 with
       |(Ul,r7)=>match d_ Ul r7 with
        |(mx,Qu,r8)=>match dD (32::mH++[32]) Qu r8 with
         |(ND,r9)=>match xY ND r9 with
          |(nx,sf,C5)=>match xZ sf C5 with
           |(bl,Ma,Vl)=>(⟨rc,ints tl,mn,mx,ints nx,bl.1,bl.2⟩,yT Ma Vl)
def dU(line:List UInt8):cQ×Bool:=
 match dD (ft++[32]) true line with
 |(uP,r1)=>match d_ uP r1 with
  |(a,vk,r2)=>match dD [32] vk r2 with
   |(yU,r3)=>match d_ yU r3 with
    |(b,yp,r4)=>match dD [32] yp r4 with
     |(JF,r5)=>match d_ JF r5 with
      |(c,GK,r6)=>(⟨a,b,c⟩,yT GK r6)
def dV(line:List UInt8):(Int×Int)×Bool:=
 match dD (lz++[32]) true line with
 |(uP,r1)=>match d_ uP r1 with
  |(a,vk,r2)=>match dD [46,46] vk r2 with
   |(yU,r3)=>match d_ yU r3 with
    |(b,yp,r4)=>((a,b),yT yp r4)
theorem zR:qo []:=fun b t h=>by cases h
theorem x5{b:UInt8}{t:List UInt8}(h:fy b=false):qo (b::t):=fun c u e=>by obtain⟨rfl,_⟩:=List.cons.inj e;exact h
theorem vm{b:UInt8}{t:List UInt8}(h:fy b=false)(h2:b≠44):oG (b::t):=⟨x5 h,by simpa using h2⟩
theorem x7:oG []:=⟨zR,by simp⟩
theorem x9{ok:Bool}{r:List UInt8}:yT ok r=true↔ok=true∧r=[]:=by unfold yT;rw[Bool.and_eq_true,List.isEmpty_iff]
theorem zS{ok:Bool}{r r':List UInt8}{l:List Nat}(hr:oG r'):xY ok r=(l,true,r')↔ok=true∧r=aaB (ints l)++r'∧ ∀n∈l,n≤1000000:=by
 unfold xY;by_cases hb:jm [45] ok r=true
 ·rw[if_pos hb];unfold jm at hb;rw[Bool.and_eq_true]at hb;constructor
  ·intro h;simp only[Prod.mk.injEq]at h;obtain⟨rfl,h⟩:=h;obtain⟨h1,h2⟩:=eu.1 h;exact⟨h1,h2,by simp⟩
  rintro⟨h1,h2,h3⟩;cases l with
  |nil=>
   have:dD [45] ok r=(true,r'):=eu.2 ⟨h1,h2⟩;rw[this]
  |cons n l=>
   exfalso;rw[k_ (by simp),nK,List.append_assoc]at h2;obtain⟨t,ht⟩:=List.isPrefixOf_iff_prefix.1 hb.2;rw[h2]at ht;cases hd:dec n with
   |nil=>exact qk n hd
   |cons b u=>
    rw[hd]at ht;have hx:=oC n b (by rw[hd];simp);simp only[List.cons_append,List.cons.injEq]at ht;rw[←ht.1]at hx;cases hx
 rw[if_neg hb,uQ];constructor
 ·rintro⟨h1,h2,h3,h4,h5⟩;exact⟨h1,by rw[k_ h2];exact h3,h4⟩
 rintro⟨h1,h2,h3⟩;have hl:l≠[]:=by intro e;subst e;refine hb ?_;unfold jm;rw[h1,h2];exact List.isPrefixOf_iff_prefix.2 ⟨r',rfl⟩
 exact⟨h1,hl,by rw[←k_ hl];exact h2,h3,hr⟩
def tD(bl:Int×Int):List UInt8:=if 0≤bl.1 then(32::lX++[32])++(eW bl.1++((32::iF++[32])++eW bl.2))else []
theorem zT{ok:Bool}{r:List UInt8}{bl:Int×Int}:xZ ok r=(bl,true,[])↔ok=true∧r=tD bl∧((bl=(-1,0))∨(pj bl.1∧pj bl.2)):=by
 unfold xZ;by_cases hb:jm [32] ok r=true
 ·rw[if_pos hb];unfold jm at hb;rw[Bool.and_eq_true]at hb;cases h1:dD (32::lX++[32]) ok r with
  |mk uP r1=>
  simp only;cases h2:d_ uP r1 with
  |mk b x2=>
  obtain⟨vk,r2⟩:=x2;simp only;cases h3:dD (32::iF++[32]) vk r2 with
  |mk yU r3=>
  simp only;cases h4:d_ yU r3 with
  |mk l x4=>
  obtain⟨yp,r4⟩:=x4;simp only;constructor
  ·intro h;simp only[Prod.mk.injEq]at h;obtain⟨rfl,rfl,rfl⟩:=h;obtain⟨rfl,e4,l4,_⟩:=eD.1 h4;obtain⟨rfl,e3⟩:=eu.1 h3;obtain⟨rfl,e2,l2,_⟩:=eD.1 h2;obtain⟨k,e1⟩:=eu.1 h1;refine⟨k,?_,.inr ⟨⟨Int.natCast_nonneg _,by show(b:Int)≤_;omega⟩,⟨Int.natCast_nonneg _,by show(l:Int)≤_;omega⟩⟩⟩;unfold tD eW;rw[if_pos (Int.natCast_nonneg _),Int.toNat_natCast,Int.toNat_natCast,e1,e2,e3,e4,List.append_nil]
  rintro⟨k,e,X_⟩;rcases X_ with rfl|⟨⟨p1,p2⟩,⟨p3,p4⟩⟩
  ·exfalso;rw[e]at hb;exact absurd hb.2 (by decide)
  unfold tD at e;rw[if_pos p1]at e;have q1:=eu.2 (⟨k,e⟩:_∧_);rw[h1]at q1;simp only[Prod.mk.injEq]at q1;obtain⟨rfl,rfl⟩:=q1;have q2:=eD.2 (⟨rfl,rfl,(by omega:bl.1.toNat≤1000000),x5 rfl⟩:_∧(eW bl.1++((32::iF++[32])++eW bl.2))=_∧_∧_);rw[h2]at q2;simp only[Prod.mk.injEq]at q2;obtain⟨rfl,rfl,rfl⟩:=q2;have q3:=eu.2 (⟨rfl,rfl⟩:true=true∧(32::iF++[32])++eW bl.2=_);rw[h3]at q3;simp only[Prod.mk.injEq]at q3;obtain⟨rfl,rfl⟩:=q3;have q4:=eD.2 (⟨rfl,(List.append_nil _).symm,(by omega:bl.2.toNat≤1000000),zR⟩:true=true∧eW bl.2=_∧_∧_);rw[h4]at q4;simp only[Prod.mk.injEq]at q4;obtain⟨rfl,rfl,rfl⟩:=q4;rw[Int.toNat_of_nonneg p1,Int.toNat_of_nonneg p3]
 rw[if_neg hb];constructor
 ·intro h;simp only[Prod.mk.injEq]at h;obtain⟨rfl,rfl,rfl⟩:=h;exact⟨rfl,rfl,.inl rfl⟩
 rintro⟨k,e,X_⟩;rcases X_ with rfl|⟨⟨p1,_⟩,_⟩
 ·rw[k,e];rfl
 exfalso;refine hb ?_;unfold tD at e;rw[if_pos p1]at e;unfold jm;rw[k,e];rfl
theorem rz(i:Nat)(s:Step):kZ i s=(iY++32::(dec i++32::(gE++[32])))++(eW s.eQ++((32::aaA++[32])++(aaB s.ed++((32::mG++[32])++(eW s.min++([46,46]++(eW s.max++((32::mH++[32])++(aaB s.next++tD (s.back,s.dN)))))))))):=by
 unfold kZ ru tD mW;by_cases h:0≤s.back
 ·rw[if_pos h,if_pos h];simp[fL]
 rw[if_neg h,if_neg h];simp[fL]
theorem x_{bl:Int×Int}:oG (tD bl):=by
 unfold tD;split
 ·exact vm rfl (by decide)
 exact x7
theorem ja{n:Nat}{a:Int}(h:(n:Int)=a)(hn:n≤1000000):pj a∧dec n=eW a:=by subst h;exact⟨⟨by omega,by omega⟩,by unfold eW;rw[Int.toNat_natCast]⟩
def Ee(r:List UInt8):Bool:=match r with|[]=>true|b::_=> !fy b
def Bg(r:List UInt8):Bool:=match r with|[]=>true|b::_=> !fy b&&b !=44
theorem GL{r:List UInt8}(h:Ee r=true):qo r:=by intro b t e;subst e;simpa [Ee]using h
theorem Ef{r:List UInt8}(h:Bg r=true):oG r:=by
 cases r with
 |nil=>exact x7
 |cons b t=>
  simp only[Bg,Bool.and_eq_true,Bool.not_eq_true',bne_iff_ne,ne_eq]at h;exact vm h.1 h.2
theorem ij{w r' NF:List UInt8}{NG:Bool}(h:dD w true (w++r')=(NG,NF)):NG=true∧NF=r':=by rw[eu.2 ⟨rfl,rfl⟩]at h;simp only[Prod.mk.injEq]at h;exact⟨h.1.symm,h.2.symm⟩
theorem lf{x r' NF:List UInt8}{n n':Nat}{NG:Bool}(h:d_ true (x++r')=(n',NG,NF))(hx:x=dec n)(hn:n≤1000000)(hd:Ee r'=true):n'=n∧NG=true∧NF=r':=by rw[eD.2 ⟨rfl,by rw[hx],hn,GL hd⟩]at h;simp only[Prod.mk.injEq]at h;exact⟨h.1.symm,h.2.1.symm,h.2.2.symm⟩
theorem GM{x r' NF:List UInt8}{l l':List Nat}{NG:Bool}(h:nJ true (x++r')=(l',NG,NF))(hx:x=fL 44 (l.map dec))(h0:l≠[])(hn: ∀n∈l,n≤1000000)(hd:Bg r'=true):l'=l∧NG=true∧NF=r':=by rw[uQ.2 ⟨rfl,h0,by rw[hx],hn,Ef hd⟩]at h;simp only[Prod.mk.injEq]at h;exact⟨h.1.symm,h.2.1.symm,h.2.2.symm⟩
theorem mY{i:Nat}{line:List UInt8}{s:Step}:fE i line=(s,true)↔line=kZ i s∧Jz s:=by
 rw[rz];unfold fE;cases h1:dD (iY++32::(dec i++32::(gE++[32]))) true line with
 |mk uP r1=>
 simp only;cases h2:d_ uP r1 with
 |mk rc x2=>
 obtain⟨vk,r2⟩:=x2;simp only;cases h3:dD (32::aaA++[32]) vk r2 with
 |mk yU r3=>
 simp only;cases h4:nJ yU r3 with
 |mk tl x4=>
 obtain⟨yp,r4⟩:=x4;simp only;cases h5:dD (32::mG++[32]) yp r4 with
 |mk JF r5=>
 simp only;cases h6:d_ JF r5 with
 |mk mn x6=>
 obtain⟨GK,r6⟩:=x6;simp only;cases h7:dD [46,46] GK r6 with
 |mk Ul r7=>
 simp only;cases h8:d_ Ul r7 with
 |mk mx x8=>
 obtain⟨Qu,r8⟩:=x8;simp only;cases h9:dD (32::mH++[32]) Qu r8 with
 |mk ND r9=>
 simp only;cases vG:xY ND r9 with
 |mk nx R6=>
 obtain⟨sf,C5⟩:=R6;simp only;cases K2:xZ sf C5 with
 |mk bl R7=>
 obtain⟨Ma,Vl⟩:=R7;simp only;constructor
 ·intro h;simp only[Prod.mk.injEq]at h;obtain⟨rfl,he⟩:=h;obtain⟨rfl,rfl⟩:=x9.1 he;obtain⟨rfl,Vh,R8⟩:=zT.1 K2;have X':oG C5:=by rw[Vh];exact x_
  obtain⟨rfl,XU,l10⟩:=(zS X').1 vG;obtain⟨rfl,e9⟩:=eu.1 h9;obtain⟨rfl,e8,l8,_⟩:=eD.1 h8;obtain⟨rfl,e7⟩:=eu.1 h7;obtain⟨rfl,e6,l6,_⟩:=eD.1 h6;obtain⟨rfl,e5⟩:=eu.1 h5;obtain⟨rfl,n4,e4,l4,_⟩:=uQ.1 h4;obtain⟨rfl,e3⟩:=eu.1 h3;obtain⟨rfl,e2,l2,_⟩:=eD.1 h2;obtain⟨_,e1⟩:=eu.1 h1;refine⟨?_,(ja rfl l2).1,fun e=>n4 (Bf.1 e),tB l4,(ja rfl l6).1,(ja rfl l8).1,tB l10,?_⟩
  ·show line=_++(eW rc++(_++(aaB (ints tl)++(_++(eW mn++(_++(eW mx++(_++(aaB (ints nx)++tD bl)))))))));rw[←(ja rfl l2).2,←(ja rfl l6).2,←(ja rfl l8).2,k_ n4,←Vh,←XU,←e9,←e8,←e7,←e6,←e5,←e4,←e3,←e2,←e1]
  rcases R8 with rfl|h
  ·exact .inl ⟨rfl,rfl⟩
  exact .inr h
 rintro⟨e,hN⟩;rw[e]at h1;obtain⟨rfl,rfl⟩:=ij h1;obtain⟨b1,ZE⟩:=hN.eQ;obtain⟨b2,ZF⟩:=hN.min;obtain⟨b3,R9⟩:=hN.max;obtain⟨rfl,rfl,rfl⟩:=lf h2 rfl (by omega) rfl;obtain⟨rfl,rfl⟩:=ij h3;have ht:aaB s.ed=fL 44 ((s.ed.map Int.toNat).map dec):=by unfold aaB;rw[if_neg hN.ed,List.map_map];rfl
 have ZG: ∀{l:List Int},(∀n∈l,pj n)→ ∀n∈l.map Int.toNat,n≤1000000:=by intro l h n hn;obtain⟨m,hm,rfl⟩:=List.mem_map.1 hn;have:=(h m hm).2;omega
 obtain⟨rfl,rfl,rfl⟩:=GM h4 ht (by simpa using hN.ed) (ZG hN.Be) rfl;obtain⟨rfl,rfl⟩:=ij h5;obtain⟨rfl,rfl,rfl⟩:=lf h6 rfl (by omega) rfl;obtain⟨rfl,rfl⟩:=ij h7;obtain⟨rfl,rfl,rfl⟩:=lf h8 rfl (by omega) rfl;obtain⟨rfl,rfl⟩:=ij h9;have Yc:=(zS (l:=s.next.map Int.toNat) (x_ (bl:=(s.back,s.dN)))).2 ⟨rfl,by rw[qU hN.next],ZG hN.next⟩;rw[vG]at Yc;simp only[Prod.mk.injEq]at Yc;obtain⟨rfl,rfl,rfl⟩:=Yc;have Yd:=(zT (bl:=(s.back,s.dN))).2 ⟨rfl,rfl,by
  rcases hN.back with⟨h,h'⟩|h
  ·left;rw[h,h']
  exact .inr h⟩
 rw[K2]at Yd;simp only[Prod.mk.injEq]at Yd;obtain⟨rfl,rfl,rfl⟩:=Yd;rw[qU hN.Be,qU hN.next,Int.toNat_of_nonneg b1,Int.toNat_of_nonneg b2,Int.toNat_of_nonneg b3];rfl
theorem o4{line:List UInt8}{w:cQ}:dU line=(w,true)↔line=iG w∧pj w.src∧pj w.dst∧pj w.dN:=by
 have JG:iG w=(ft++[32])++(eW w.src++([32]++(eW w.dst++([32]++(eW w.dN++[]))))):=by unfold iG oD;simp[fL]
 rw[JG];unfold dU;cases h1:dD (ft++[32]) true line with
 |mk uP r1=>
 simp only;cases h2:d_ uP r1 with
 |mk a x2=>
 obtain⟨vk,r2⟩:=x2;simp only;cases h3:dD [32] vk r2 with
 |mk yU r3=>
 simp only;cases h4:d_ yU r3 with
 |mk b x4=>
 obtain⟨yp,r4⟩:=x4;simp only;cases h5:dD [32] yp r4 with
 |mk JF r5=>
 simp only;cases h6:d_ JF r5 with
 |mk c x6=>
 obtain⟨GK,r6⟩:=x6;simp only;constructor
 ·intro h;simp only[Prod.mk.injEq]at h;obtain⟨rfl,he⟩:=h;obtain⟨rfl,rfl⟩:=x9.1 he;obtain⟨rfl,e6,l6,_⟩:=eD.1 h6;obtain⟨rfl,e5⟩:=eu.1 h5;obtain⟨rfl,e4,l4,_⟩:=eD.1 h4;obtain⟨rfl,e3⟩:=eu.1 h3;obtain⟨rfl,e2,l2,_⟩:=eD.1 h2;obtain⟨_,e1⟩:=eu.1 h1;refine⟨?_,(ja rfl l2).1,(ja rfl l4).1,(ja rfl l6).1⟩;show line=_++(eW a++(_++(eW b++(_++(eW c++[])))));rw[←(ja rfl l2).2,←(ja rfl l4).2,←(ja rfl l6).2,←e6,←e5,←e4,←e3,←e2,←e1]
 rintro⟨e,⟨b1,ZE⟩,⟨b2,ZF⟩,⟨b3,R9⟩⟩;rw[e]at h1;obtain⟨rfl,rfl⟩:=ij h1;obtain⟨rfl,rfl,rfl⟩:=lf h2 rfl (by omega) rfl;obtain⟨rfl,rfl⟩:=ij h3;obtain⟨rfl,rfl,rfl⟩:=lf h4 rfl (by omega) rfl;obtain⟨rfl,rfl⟩:=ij h5;obtain⟨rfl,rfl,rfl⟩:=lf h6 rfl (by omega) rfl;rw[Int.toNat_of_nonneg b1,Int.toNat_of_nonneg b2,Int.toNat_of_nonneg b3];rfl
theorem rA{line:List UInt8}{a b:Int}:dV line=((a,b),true)↔line=qm a b∧pj a∧pj b:=by
 have JG:qm a b=(lz++[32])++(eW a++([46,46]++(eW b++[]))):=by unfold qm zM mW;simp[fL]
 rw[JG];unfold dV;cases h1:dD (lz++[32]) true line with
 |mk uP r1=>
 simp only;cases h2:d_ uP r1 with
 |mk x x2=>
 obtain⟨vk,r2⟩:=x2;simp only;cases h3:dD [46,46] vk r2 with
 |mk yU r3=>
 simp only;cases h4:d_ yU r3 with
 |mk y x4=>
 obtain⟨yp,r4⟩:=x4;simp only;constructor
 ·intro h;simp only[Prod.mk.injEq]at h;obtain⟨⟨rfl,rfl⟩,he⟩:=h;obtain⟨rfl,rfl⟩:=x9.1 he;obtain⟨rfl,e4,l4,_⟩:=eD.1 h4;obtain⟨rfl,e3⟩:=eu.1 h3;obtain⟨rfl,e2,l2,_⟩:=eD.1 h2;obtain⟨_,e1⟩:=eu.1 h1;refine⟨?_,(ja rfl l2).1,(ja rfl l4).1⟩;rw[←(ja rfl l2).2,←(ja rfl l4).2,←e4,←e3,←e2,←e1]
 rintro⟨e,⟨b1,ZE⟩,⟨b2,ZF⟩⟩;rw[e]at h1;obtain⟨rfl,rfl⟩:=ij h1;obtain⟨rfl,rfl,rfl⟩:=lf h2 rfl (by omega) rfl;obtain⟨rfl,rfl⟩:=ij h3;obtain⟨rfl,rfl,rfl⟩:=lf h4 rfl (by omega) rfl;rw[Int.toNat_of_nonneg b1,Int.toNat_of_nonneg b2];rfl
end Go.Proofs.YtbfjdfecgiegpaaGreatDoor
namespace Go.Proofs.YtbfjdfecgiegpaaGreatDoor
open Go Go.K Tryz
set_option maxRecDepth 10000
attribute [local irreducible] W WL cS bh bY bB bA bC cL cD
set_option maxHeartbeats 1000000
theorem qt{l:List UInt8}(h: ∀v,Lib.atoiAll l= .ok v→0≤v→v≤1000000→Lib.itoa v≠l):gh l=none:=by
 cases hn:gh l with
 |none=>rfl
 |some n=>
  obtain⟨h1,h2,h3⟩:=PC hn;exact absurd h2 (h _ h1 (by omega) (by omega))
def mZ:List PanicEntry:=[{v:=.iface 273 (.agg #[]),recovered:=false}]
theorem eA(b:Bool)(g:G):CallsIn Wd 0 prog 247 #[.bool b] g.w (yn g (fun _ r=>r= .tuple #[]∧b=true) mZ (b=false)):=by
 have hs:=St.start g;refine enter func247 rfl ntmps247 rfl ?_;cases b with
 |true=>
  exact aZ rfl<|aar rfl<|aF<|lC rfl (.inl (hs.ret ⟨rfl,rfl⟩))
 |false=>
  exact aZ rfl<|aas rfl<|an<|BO [] [] [] rfl<|ak rfl rfl<|LZ rfl rfl rfl rfl<|bu rfl<|Gt rfl rfl<|dH (yn.vM rfl (a_.refl g))
theorem j6(s:List UInt8)(g:G)(hs:s.length≤1000000)(hF:jo g):CallsIn Wd 0 prog 250 #[.string (bs s)] g.w (yn g (fun _ r=> ∃n:Nat,gh s=some n∧r=vI n) mZ (gh s=none)):=by
 have hlen:=hs;clear hs;have hs:=St.start g;refine enter func250 rfl ntmps250 rfl<|aZ rfl<|cG 1 rfl<|sO rfl (PW s _ hlen hF) ?_;rintro g1 _ aP ⟨x,err,rfl,hv⟩;replace hs:=hs.call aP;have NU:=hF.mono aP.le;cases ha:Lib.atoiAll s with
 |ok x0=>
  rw[ha]at hv;obtain⟨rfl,rfl⟩:=hv;refine aX rfl<|cG 1 rfl<|ak rfl rfl<|qe (neg:=false) rfl rfl rfl rfl rfl<|Wp 5 rfl ?_;by_cases h0:0≤x
  ·refine bM 16 (b':=true) (by simp[h0]) rfl<|Wp 4 rfl ?_;by_cases h1:x≤1000000
   ·refine bM 20 (b':=true) (by simp[h1]) rfl<|Wp 1 rfl<|sO rfl (J1 x _ (by unfold mq;omega) NU) ?_;rintro g2 _ B2 rfl;replace hs:=hs.call B2;refine Wp 3 rfl ?_;by_cases h2:Lib.itoa x=s
    ·refine bM 25 (b':=true) (by rw[cM,cM];simp[h2]) rfl<|HL rfl (eA true _) ?_ fun h=>(by cases h)
     rintro g3 _ fD ⟨rfl,_⟩;replace hs:=hs.call fD;refine b_<|aZ rfl<|aG<|aaq rfl (.inl (hs.ret ⟨x.toNat,Jw ha h0 h1 h2,?_⟩));show Value.int .i64 x=_;rw[Int.toNat_of_nonneg h0]
    refine bM 25 (b':=false) (by rw[cM,cM];simp[h2]) rfl<|HL rfl (eA false _) ?_ ?_
    ·rintro g3 _ fD ⟨_,hc⟩;cases hc
    intro _ g3 fD;replace hs:=hs.call fD;(repeat (first|with_reducible refine gY ?_|with_reducible refine gZ ?_|with_reducible refine g_ ?_));exact dH (yn.vM (qt fun v hv=>by rw[ha]at hv;cases hv;exact fun _ _=>h2) hs.rh)
   refine bM 20 (b':=false) (by simp[h1]) rfl<|Wp 5 rfl<|HL rfl (eA false _) ?_ ?_
   ·rintro g3 _ fD ⟨_,hc⟩;cases hc
   intro _ g3 fD;replace hs:=hs.call fD;(repeat (first|with_reducible refine gY ?_|with_reducible refine gZ ?_|with_reducible refine g_ ?_));exact dH (yn.vM (qt fun v hv=>by rw[ha]at hv;cases hv;exact fun _ h=>absurd h h1) hs.rh)
  refine bM 16 (b':=false) (by simp[h0]) rfl<|Wp 9 rfl<|HL rfl (eA false _) ?_ ?_
  ·rintro g3 _ fD ⟨_,hc⟩;cases hc
  intro _ g3 fD;replace hs:=hs.call fD;(repeat (first|with_reducible refine gY ?_|with_reducible refine gZ ?_|with_reducible refine g_ ?_));exact dH (yn.vM (qt fun v hv=>by rw[ha]at hv;cases hv;exact fun h=>absurd h h0) hs.rh)
 |range=>
  rw[ha]at hv;obtain⟨t,p,rfl⟩:=hv;refine aX rfl<|cG 1 rfl<|ak rfl rfl<|qe (neg:=false) rfl rfl rfl rfl rfl<|Wp 14 rfl<|HL rfl (eA false _) ?_ ?_
  ·rintro g3 _ fD ⟨_,hc⟩;cases hc
  intro _ g3 fD;replace hs:=hs.call fD;(repeat (first|with_reducible refine gY ?_|with_reducible refine gZ ?_|with_reducible refine g_ ?_));exact dH (yn.vM (qt fun v hv=>by rw[ha]at hv;cases hv) hs.rh)
 |_=>
  rw[ha]at hv;obtain⟨t,p,rfl⟩:=hv;refine aX rfl<|cG 1 rfl<|ak rfl rfl<|qe (neg:=false) rfl rfl rfl rfl rfl<|Wp 14 rfl<|HL rfl (eA false _) ?_ ?_
  ·rintro g3 _ fD ⟨_,hc⟩;cases hc
  intro _ g3 fD;replace hs:=hs.call fD;(repeat (first|with_reducible refine gY ?_|with_reducible refine gZ ?_|with_reducible refine g_ ?_));exact dH (yn.vM (qt fun v hv=>by rw[ha]at hv;cases hv) hs.rh)
end Go.Proofs.YtbfjdfecgiegpaaGreatDoor
namespace Go.Proofs.YtbfjdfecgiegpaaGreatDoor
open Go Go.K Tryz
set_option maxRecDepth 10000
attribute [local irreducible] W WL cS bh bY bB bA bC cL cD
set_option maxHeartbeats 2000000
theorem nM(c:UInt8)(s:List UInt8):(bW c s).length≤s.length+1:=by
 induction s with
 |nil=>simp[bW]
 |cons b t ih=>
  unfold bW;split
  ·simp only[List.length_cons];omega
  split
  ·simp
  rename_i x r h;rw[h]at ih;simp only[List.length_cons]at ih⊢;omega
theorem kF(c:UInt8)(s:List UInt8): ∀p∈bW c s,p.length≤s.length:=by
 induction s with
 |nil=>simp[bW]
 |cons b t ih=>
  unfold bW;split
  ·intro p hp;rcases List.mem_cons.1 hp with rfl|hp
   ·simp
   have:=ih p hp;simp only[List.length_cons];omega
  split
  ·simp
  rename_i x r h;rw[h]at ih;intro p hp;rcases List.mem_cons.1 hp with rfl|hp
  ·have:=ih x (by simp);simp only[List.length_cons];omega
  have:=ih p (List.mem_cons_of_mem _ hp);simp only[List.length_cons];omega
theorem Bj{α:Type}{l:List (Option α)}{k:Nat}(h:l[k]? =some none):lF l=none:=by
 cases ha:lF l with
 |none=>rfl
 |some xs=>
  rw[mF.1 ha,List.getElem?_map]at h;cases hx:xs[k]? <;>rw[hx]at h<;>cases h
theorem J8(s p:List UInt8):(Lib.cut s p).1.length≤s.length:=by
 unfold Lib.cut;split
 ·show(s.take _).length≤_;rw[List.length_take];omega
 exact Nat.le_refl _
theorem J9(s p:List UInt8):(Lib.cut s p).2.1.length≤s.length:=by
 unfold Lib.cut;split
 ·show(s.drop _).length≤_;rw[List.length_drop];omega
 exact Nat.zero_le _
theorem J_(s:List UInt8):nI s=match Lib.cut s [46,46]with
  |(a,b,true)=>(match gh a,gh b with
   |some x,some y=>some (x,y)
   |_,_=>none)
  |(_,_,false)=>none:=by
 unfold nI Lib.cut;by_cases h:Lib.index s [46,46]<0
 ·rw[if_pos h,if_neg (by omega)]
 rw[if_neg h,if_pos (by omega)];rfl
theorem J3(s:List UInt8)(g:G)(hlen:s.length≤1000000)(hF:jo g):
  CallsIn Wd 0 prog 248 #[.string (bs s)] g.w (yn g (fun _ r=> ∃a b:Nat,nI s=some (a,b)∧r= .tuple #[vI a,vI b]) mZ (nI s=none)):=by
 have hs:=St.start g;refine enter func248 rfl ntmps248 rfl<|aZ rfl<|cG 1 rfl<|sO rfl (UN s [46,46] _ hlen hF) ?_;rintro g1 _ aP rfl;replace hs:=hs.call aP;have NU:=hF.mono aP.le;have Yz:(Lib.cut s [46,46]).1.length≤1000000:=Nat.le_trans (J8 s [46,46]) hlen;have YA:(Lib.cut s [46,46]).2.1.length≤1000000:=Nat.le_trans (J9 s [46,46]) hlen;have rG:=J_ s;generalize Lib.cut s [46,46]=q at*;obtain⟨a,b,ok⟩:=q;cases ok with
 |false=>
  refine aX rfl<|cG 1 rfl<|HL rfl (eA false _) ?_ ?_
  ·rintro g3 _ fD ⟨_,hc⟩;cases hc
  intro _ g3 fD;replace hs:=hs.call fD;(repeat (first|with_reducible refine gY ?_|with_reducible refine gZ ?_|with_reducible refine g_ ?_));exact dH (yn.vM (rG) hs.rh)
 |true=>
  refine aX rfl<|cG 1 rfl<|HL rfl (eA true _) ?_ fun h=>(by cases h)
  rintro g3 _ fD ⟨rfl,_⟩;replace hs:=hs.call fD;have ai:=fD.le;have NU:=NU.mono fD.le;refine b_<|cG 1 rfl<|HL rfl (j6 a _ Yz NU) ?_ ?_
  ·rintro g4 _ mg ⟨n,hn,rfl⟩;replace hs:=hs.call mg;have NU:=NU.mono mg.le;refine Wp 1 rfl<|HL rfl (j6 b _ YA NU) ?_ ?_
   ·rintro g5 _ rk ⟨m,hm,rfl⟩;replace hs:=hs.call rk;refine aX rfl<|aG<|HX rfl rfl rfl (.inl (hs.ret ⟨n,m,?_,rfl⟩));rw[rG];simp only[hn,hm]
   intro hn g5 rk;replace hs:=hs.call rk;(repeat (first|with_reducible refine gY ?_|with_reducible refine gZ ?_|with_reducible refine g_ ?_));exact dH (yn.vM (by rw[rG];simp only[hn];split<;>first|rfl|(rename_i h1 h2;cases h2)) hs.rh)
  intro hn g5 rk;replace hs:=hs.call rk;(repeat (first|with_reducible refine gY ?_|with_reducible refine gZ ?_|with_reducible refine g_ ?_));exact dH (yn.vM (by rw[rG];simp only[hn]) hs.rh)
theorem J2(s:List UInt8)(g:G)(hlen:s.length≤1000000)(hF:jo g):
  CallsIn Wd 0 prog 251 #[.string (bs s)] g.w (yn g (fun g' r=> ∃ns,nH s=some ns∧Rs g' r (ints ns)) mZ (nH s=none)):=by
 have hs:=St.start g;have ar:=G.le.refl g;refine enter func251 rfl ntmps251 rfl<|aZ rfl<|aZ rfl<|az<|cG 1 rfl<|sO rfl (Bi s 44 _ hlen hF) fun g1 vo aP wW=>?_;obtain⟨gz,gF,cK,gW,aH⟩:=hs.jO aP wW;have ai:=aP.le.trans gW;rw[←gF];replace hs:=cK;clear cK wW;replace ar:=G.le.trans ar ai;have Dq:=nM 44 s;have sq:=kF 44 s;have Kf:nH s=lF ((bW 44 s).map gh):=rfl;generalize bW 44 s=ps at*;obtain⟨pa,pc,rfl⟩:=aH.isSlice;replace hs:=hs.eP 3 1 none;have Hb:=ar;have Kt:(ps.map wh.mk).length=ps.length:=List.length_map _;have J6:Rs gz (.slice pa ps.length pc) (ps.map wh.mk):=by have h:=aH;rw[Kt]at h;exact h
 clear aH;rw[Kt];refine aX rfl<|aI ?_
 refine bK (fun m a' w=> ∃(k:Nat) (ns:List Nat) (ra:Option Addr) (rc:Nat) (g':G),w=g'.w∧St g g' [.row 3 1 (.slice ra ns.length rc) ns.length ((ints ns).map (Value.int .i64))]∧G.le gz g'∧k≤ps.length∧m=ps.length-k∧ns.length=k∧(ps.take k).map gh=ns.map some∧
  Fr 20 [] [(3,.slice ra ns.length rc),(7,.slice pa ps.length pc),(8,vI ps.length),(9,vI k)] a') ps.length (fun a' ha=>⟨0,[],none,0,gz,rfl,hs,G.le.refl _,Nat.zero_le _,rfl,rfl,rfl,ha.kp rfl⟩) ?_
 clear hs ar;rintro m a' _ ⟨k,ns,ra,rc,g',rfl,hs,jF,hk,rfl,Zs,SY,dW⟩;have aH:=J6.mono jF;have ar:=Hb.trans jF;revert a';refine ct<|aZ rfl<|az ?_;by_cases bt:k<ps.length
 ·refine aJ (b:=decide ((k:Int)<(ps.length:Int))) (by simp;omega) rfl<|aF<|aq<|az<|aI<|cR<|zc (y:=⟨ps[k]⟩) aH (by simp[dJ,bt]) rfl ?_;rintro b p ys aL rfl;refine q5 1 [.e aL 0] rfl<|aX rfl<|an<|Wp 2 rfl<|HL rfl (j6 ps[k] _ (Nat.le_trans (sq _ (List.getElem_mem bt)) hlen) (hF.mono ar)) ?_ ?_
  ·rintro g4 _ mg ⟨n,hn,rfl⟩;replace hs:=hs.call mg;replace jF:=jF.trans mg.le;refine BP [(0,vI n)] [vI n] hs rfl rfl fun VI VJ hs ai=>?_;replace jF:=jF.trans ai;refine ak rfl rfl<|bU T.ok 1 rfl hs rfl rfl rfl rfl rfl rfl rfl (by decide) rfl (Src.eI (hs.own 0 _ rfl).1).2 (by simp[Value.oneCell']) (by show(ns.length+1)*8≤_;omega) (by unfold maxLen;show ns.length+1≤_;omega) fun a9 c9 g9 hs ai=>?_;replace jF:=jF.trans ai;replace hs:=hs.drop 0;refine Wp 1 rfl<|aA<|bJ<|aq<|an<|Wp 2 rfl<|aA<|fun a ha=>⟨ps.length-(k+1),by omega,k+1,ns++[n],a9,c9,g9,rfl,?_,jF,by omega,rfl,by simp[Zs],?_,ha.keep ⟨?_,rfl,rfl,kW rfl,trivial⟩⟩
   ·have e1:(ints (ns++[n])).map (Value.int .i64)=(ints ns).map (Value.int .i64)++[vI n]:=by simp[ints]
    rw[e1,List.length_append];exact hs
   ·rw[List.take_add_one,List.map_append,SY,List.getElem?_eq_getElem bt];simp[hn]
   rw[List.length_append];rfl
  intro hn g5 rk;replace hs:=hs.call rk;(repeat (first|with_reducible refine gY ?_|with_reducible refine gZ ?_|with_reducible refine g_ ?_));exact dH (yn.vM (by rw[Kf];exact Bj (k:=k) (by rw[List.getElem?_map,List.getElem?_eq_getElem bt];simp[hn])) hs.rh)
 refine aQ (b:=decide ((k:Int)<(ps.length:Int))) (by simp;omega) rfl<|bc<|bg<|bg<|cA<|aq<|aZ rfl ?_;obtain rfl:k=ps.length:=by omega
 obtain⟨gy,Mh,Hd,PK,oZ⟩:=hs.cP (α:=Int) (xs:=ints ns) (i:=0) rfl (cY.ints _ _);rw[←Mh];refine aG<|aaq rfl (.inl (Hd.ret ⟨ns,?_,?_⟩))
 ·rw[Kf];rw[List.take_length]at SY;exact mF.2 SY
 have e:(ints ns).length=ns.length:=by simp[ints]
 rw[←e];rw[←e]at oZ;exact oZ
end Go.Proofs.YtbfjdfecgiegpaaGreatDoor
namespace Go.Proofs.YtbfjdfecgiegpaaGreatDoor
open Go Go.K Tryz
set_option maxRecDepth 10000
attribute [local irreducible] W WL cS bh bY bB bA bC cL cD
set_option maxHeartbeats 2000000
def iU(fixed l:List (List UInt8)):Prop:=fixed.length≤l.length∧ ∀(i:Nat) (w:List UInt8),fixed[i]? =some w→w=[]∨l[i]? =some w
theorem aaI:(⟨#[]⟩:ByteArray).toList=[]:=cM []
theorem wo(line:List UInt8)(fx:List (List UInt8))(v:Value)(g:G)(hlen:line.length≤1000000)(_hfl:fx.length≤100)(hF:jo g)(hv:Rs g v (fx.map wh.mk)):
  CallsIn Wd 0 prog 246 #[.string (bs line),v] g.w (yn g (fun g' r=>iU fx (bW 32 line)∧Rs g' r ((bW 32 line).map wh.mk)) mZ (¬iU fx (bW 32 line))):=by
 have hs:=St.start g;have ar:=G.le.refl g;have PY:=hv;obtain⟨fa,fc,rfl⟩:=hv.isSlice;refine enter func246 rfl ntmps246 rfl<|aZ rfl<|cG 1 rfl<|sO rfl (Bi line 32 _ hlen hF) fun g1 vo aP wW=>?_;obtain⟨gz,gF,cK,gW,aH⟩:=hs.jO aP wW;have ai:=aP.le.trans gW;rw[←gF];replace hs:=cK;clear cK wW;replace ar:=G.le.trans ar ai;have Dq:=nM 32 line;have sq:=kF 32 line;generalize bW 32 line=ps at*;obtain⟨pa,pc,rfl⟩:=aH.isSlice;have Hb:=ar;have Kt:(ps.map wh.mk).length=ps.length:=List.length_map _;have FV:(fx.map wh.mk).length=fx.length:=List.length_map _;have J6:Rs gz (.slice pa ps.length pc) (ps.map wh.mk):=by have h:=aH;rw[Kt]at h;exact h
 have PY:Rs g (.slice fa fx.length fc) (fx.map wh.mk):=by have h:=PY;rw[FV]at h;exact h
 clear aH hv;rw[Kt,FV];refine aX rfl<|cG 5 rfl ?_;by_cases CU:fx.length≤ps.length
 ·refine bM 14 (b':=true) (by simp;omega) rfl<|HL rfl (eA true _) ?_ fun h=>(by cases h)
  rintro g3 _ fD ⟨rfl,_⟩;replace hs:=hs.call fD;have ai:=fD.le;replace ar:=G.le.trans ar ai;refine b_<|az<|aZ rfl<|aI ?_;refine bK (fun m a' w=> ∃(k:Nat) (g':G),w=g'.w∧St g g' []∧G.le gz g'∧k≤fx.length∧m=fx.length-k∧(∀i w,i<k→fx[i]? =some w→w=[]∨ps[i]? =some w)∧
   Fr 36 [] [(5,.slice pa ps.length pc),(16,.slice fa fx.length fc),(17,vI fx.length),(18,vI k)] a') fx.length (fun a' ha=>⟨0,g3,rfl,hs,fD.le,Nat.zero_le _,rfl,fun i w h=>absurd h (by omega),ha.kp rfl⟩) ?_
  clear hs ar;rintro m a' _ ⟨k,g',rfl,hs,ar,hk,rfl,l_,dW⟩;have aH:=J6.mono ar;have aW:=PY.mono (Hb.trans ar);revert a';refine ct<|aZ rfl<|az ?_;by_cases bt:k<fx.length
  ·refine aJ (b:=decide ((k:Int)<(fx.length:Int))) (by simp;omega) rfl<|aF<|aq<|az<|aI<|cG 1 rfl<|zc (y:=⟨fx[k]⟩) aW (by simp[dJ,bt]) rfl ?_;rintro b p ys aL rfl;refine q5 1 [.e aL 0] rfl<|aX rfl<|an<|Wp 3 rfl ?_;have PZ:k<ps.length:=by omega
   by_cases h0:fx[k]=[]
   ·refine bM 25 (b':=true) (by rw[cM,aaI];simp[h0]) rfl<|Wp 7 rfl<|HL rfl (eA true _) ?_ fun h=>(by cases h)
    rintro g3 _ fD ⟨rfl,_⟩;replace hs:=hs.call fD;have ai:=fD.le;obtain⟨ar,aH⟩:=cr ai ar aH;refine aA<|bJ<|aq<|an<|Wp 2 rfl<|aA<|fun a ha=>⟨fx.length-(k+1),by omega,k+1,_,rfl,hs,ar,by omega,rfl,?_,ha.keep ⟨rfl,rfl,rfl,kW rfl,trivial⟩⟩
    intro i w hi hw;rcases Nat.lt_or_ge i k with H_|H_
    ·exact l_ i w H_ hw
    obtain rfl:i=k:=by omega
    rw[List.getElem?_eq_getElem bt]at hw;obtain rfl:=Option.some.inj hw;exact .inl h0
   refine bM 25 (b':=false) (by rw[cM,aaI];simp[h0]) rfl<|Wp 2 rfl<|zc (y:=⟨ps[k]⟩) aH (by simp[dJ,PZ]) rfl ?_;rintro b p ys aL rfl;refine q5 1 [.e aL 0] rfl<|Wp 3 rfl ?_;by_cases h1:ps[k]=fx[k]
   ·refine bM 32 (b':=true) (by rw[cM,cM];simp[h1]) rfl<|HL rfl (eA true _) ?_ fun h=>(by cases h)
    rintro g3 _ fD ⟨rfl,_⟩;replace hs:=hs.call fD;have ai:=fD.le;obtain⟨ar,aH⟩:=cr ai ar aH;refine aA<|bJ<|aq<|an<|Wp 2 rfl<|aA<|fun a ha=>⟨fx.length-(k+1),by omega,k+1,_,rfl,hs,ar,by omega,rfl,?_,ha.keep ⟨rfl,rfl,rfl,kW rfl,trivial⟩⟩
    intro i w hi hw;rcases Nat.lt_or_ge i k with H_|H_
    ·exact l_ i w H_ hw
    obtain rfl:i=k:=by omega
    rw[List.getElem?_eq_getElem bt]at hw;obtain rfl:=Option.some.inj hw;exact .inr (by rw[List.getElem?_eq_getElem PZ,h1])
   refine bM 32 (b':=false) (by rw[cM,cM];simp[h1]) rfl<|HL rfl (eA false _) ?_ ?_
   ·rintro g3 _ fD ⟨_,hc⟩;cases hc
   intro _ g3 fD;replace hs:=hs.call fD;(repeat (first|with_reducible refine gY ?_|with_reducible refine gZ ?_|with_reducible refine g_ ?_));exact dH (yn.vM (fun h=>by
        rcases h.2 k _ (List.getElem?_eq_getElem bt)with e|e
        ·exact h0 e
        rw[List.getElem?_eq_getElem PZ]at e;exact h1 (Option.some.inj e)) hs.rh)
  refine aQ (b:=decide ((k:Int)<(fx.length:Int))) (by simp;omega) rfl<|bc<|bg<|bg<|cA<|aq<|aZ rfl<|aG ?_;obtain rfl:k=fx.length:=by omega
  refine aaq rfl (.inl (hs.ret ⟨⟨CU,fun i w h=>l_ i w (List.getElem?_eq_some_iff.1 h).1 h⟩,aH⟩))
 refine bM 14 (b':=false) (by simp;omega) rfl<|HL rfl (eA false _) ?_ ?_
 ·rintro g3 _ fD ⟨_,hc⟩;cases hc
 intro _ g3 fD;replace hs:=hs.call fD;(repeat (first|with_reducible refine gY ?_|with_reducible refine gZ ?_|with_reducible refine g_ ?_));exact dH (yn.vM (fun h=>CU h.1) hs.rh)
end Go.Proofs.YtbfjdfecgiegpaaGreatDoor
namespace Go.Proofs.YtbfjdfecgiegpaaGreatDoor
open Go Go.K Tryz
set_option maxRecDepth 10000
attribute [local irreducible] W WL cS bh bY bB bA bC cL cD
set_option maxHeartbeats 2000000
def Mm(b:Nat)(cs:List Value):df:=vO b cs 67
theorem P0{α:Type}{l:List α}(h:l.length=2): ∃a b,l=[a,b]:=by
 match l,h with
 |[a,b],_=>exact⟨a,b,rfl⟩
theorem jk{fx l:List (List UInt8)}(h:iU fx l)(i:Nat){w x:List UInt8}(hw:fx[i]? =some w)(hx:l[i]? =some x)(eO:w≠[]):x=w:=by
 rcases h.2 i w hw with e|e
 ·exact absurd e eO
 rw[hx]at e;exact Option.some.inj e
theorem Ka{line x a:List UInt8}(sw:bW 32 line=[a,x])(h:iU [lz,[]] [a,x]):ry line=(nI x).map fun p=>((p.1:Int),(p.2:Int)):=by obtain rfl:=jk h 0 (w:=lz) rfl rfl (by decide);unfold ry;rw[sw];simp
theorem Kb{line:List UInt8}(h: ¬iU [lz,[]] (bW 32 line)):ry line=none:=by
 unfold ry;split
 ·rename_i a0 a1 he;rw[if_neg];rintro rfl;refine h ?_;rw[he];refine⟨Nat.le_refl _,fun i w hw=>?_⟩
  match i,hw with
  |0,hw=>exact .inr hw
  |1,hw=>exact .inl (Option.some.inj hw).symm
  |_+2,hw=>cases hw
 rfl
theorem Kc{line:List UInt8}(h:(bW 32 line).length≠2):ry line=none:=by
 unfold ry;split
 ·rename_i a0 a1 he;rw[he]at h;exact absurd rfl h
 rfl
def qp(line:List UInt8):Option (Int×Int):=(ry line).bind fun p=>if eg ⟨p.1,p.2,[],[]⟩=true then some p else none
theorem PU{b:Nat}(line:List UInt8)(hlen:line.length≤1000000){g0 g:G}{L:List df}(hF:jo g)(hs:St g0 g (Mm b [vI 0,vI 0,.slice none 0 0,.slice none 0 0]::L)):
  CallsIn Wd 0 prog 203 #[vP b,.string (bs line)] g.w fun e w'=>
   db g (fun g' r=>r= .tuple #[]∧ ∃m n:Int,qp line=some (m,n)∧St g0 g' (Mm b [vI m,vI n,.slice none 0 0,.slice none 0 0]::L)) e w'∨
   (qp line=none∧fJ g mZ (fun g'=> ∃cs,St g0 g' (Mm b cs::L)) e w'):=by
 have ar:=G.le.refl g;unfold Mm at hs⊢;refine enter func203 rfl ntmps203 rfl<|cG 1 rfl<|BP [(0,.string (bs lz)),(1,.string (bs []))] [.string (bs lz),.string (bs [])] hs rfl rfl fun bl gl hs ai=>?_;replace ar:=G.le.trans ar ai;obtain⟨gz,gF,cK,gW,aW⟩:=hs.cP (α:=wh) (xs:=[⟨lz⟩,⟨[]⟩]) (i:=0) rfl (cY.strs _ [lz,[]]);have ai:=gW;rw[←gF];replace hs:=cK;clear cK;replace ar:=G.le.trans ar ai;refine HL rfl (wo line [lz,[]] _ _ hlen (by decide) (hF.mono ar) aW) ?_ ?_
 rotate_left
 ·intro hn g5 rk;replace hs:=hs.call rk;replace ar:=ar.trans rk.le;(repeat (first|with_reducible refine gY ?_|with_reducible refine gZ ?_|with_reducible refine g_ ?_));exact dH (.inr ⟨by unfold qp;rw[Kb hn];rfl,fJ.intro ar ⟨_,hs⟩⟩)
 rintro g4 v mg ⟨lg,aH⟩;replace hs:=hs.call mg;have ai:=mg.le;replace ar:=G.le.trans ar ai;obtain⟨pa,pc,rfl⟩:=aH.isSlice;rw[List.length_map]at aH⊢;have sq:=kF 32 line;generalize sw:bW 32 line=ps at*;refine aX rfl<|cG 3 rfl ?_;by_cases h2:ps.length=2
 ·obtain⟨a,x,rfl⟩:=P0 h2;refine bM 10 (b':=true) (by simp) rfl<|HL rfl (eA true _) ?_ fun h=>(by cases h);rintro g3 _ fD ⟨rfl,_⟩;replace hs:=hs.call fD;have ai:=fD.le;obtain⟨ar,aH⟩:=cr ai ar aH;refine b_<|cG 3 rfl<|zc (y:=⟨x⟩) aH rfl rfl ?_;rintro b p ys aL rfl;refine q5 1 [.e aL 0] rfl ?_;have Fw:=Ka sw lg;refine HL rfl (J3 x _ (Nat.le_trans (sq x (by simp)) hlen) (hF.mono ar)) ?_ ?_
  ·rintro g6 _ nY ⟨m,n,Gz,rfl⟩;replace hs:=hs.call nY;have ai:=nY.le;replace ar:=G.le.trans ar ai;rw[Gz]at Fw;refine Wp 5 rfl<|sN 0 hs rfl fun g1 hs ai=>?_;replace ar:=G.le.trans ar ai;refine Wp 2 rfl<|sN 0 hs rfl fun g1 hs ai=>?_;replace ar:=G.le.trans ar ai;refine b_<|an<|Wm 3 [.o 0] hs rfl<|Ev rfl (tH _ ⟨m,n,[],[]⟩ _ ⟨none,0,0,none,0,0,rfl,Rs.nil _,Rs.nil _⟩) hs fun g1 hs ai=>?_;replace ar:=G.le.trans ar ai;cases hr:eg ⟨m,n,[],[]⟩with
   |true=>
    refine HL rfl (eA true _) ?_ fun h=>(by cases h);rintro g3 _ fD ⟨rfl,_⟩;replace hs:=hs.call fD;have ai:=fD.le;replace ar:=G.le.trans ar ai;exact aA<|lC rfl (.inl (db.intro ar ⟨rfl,m,n,by unfold qp;rw[Fw];simp[hr],hs⟩))
   |false=>
    refine HL rfl (eA false _) ?_ ?_
    ·rintro g3 _ fD ⟨_,hc⟩;cases hc
    intro _ g3 fD;replace hs:=hs.call fD;replace ar:=ar.trans fD.le;(repeat (first|with_reducible refine gY ?_|with_reducible refine gZ ?_|with_reducible refine g_ ?_));exact dH (.inr ⟨by unfold qp;rw[Fw];simp[hr],fJ.intro ar ⟨_,hs⟩⟩)
  intro hn g5 rk;replace hs:=hs.call rk;replace ar:=ar.trans rk.le;(repeat (first|with_reducible refine gY ?_|with_reducible refine gZ ?_|with_reducible refine g_ ?_));exact dH (.inr ⟨by unfold qp;rw[Fw,hn];rfl,fJ.intro ar ⟨_,hs⟩⟩)
 refine bM 10 (b':=false) (by simp;omega) rfl<|HL rfl (eA false _) ?_ ?_
 ·rintro g3 _ fD ⟨_,hc⟩;cases hc
 intro _ g3 fD;replace hs:=hs.call fD;replace ar:=ar.trans fD.le;(repeat (first|with_reducible refine gY ?_|with_reducible refine gZ ?_|with_reducible refine g_ ?_));exact dH (.inr ⟨by unfold qp;rw[Kc (by rw[sw];exact h2)];rfl,fJ.intro ar ⟨_,hs⟩⟩)
end Go.Proofs.YtbfjdfecgiegpaaGreatDoor
namespace Go.Proofs.YtbfjdfecgiegpaaGreatDoor
open Go Go.K Tryz
set_option maxRecDepth 10000
attribute [local irreducible] W WL cS bh bY bB bA bC cL cD
set_option maxHeartbeats 4000000
def OV(B:Nat)(cs:List Value)(t:TypeId):Fact:=
 ⟨fun v g=> ∃b,v=vP b∧df.holds B g (vO b cs t),fun _ _ _ hf ⟨b,e,h⟩=>⟨b,e,h.kept fun b hb=>⟨hf.below.block b (h.lt b hb).2.1,hf.im b (h.lt b hb).2.1⟩⟩⟩
def sh(s:List UInt8):Fact:=⟨fun v g=> ∃b p,v= .pointer (some ⟨b,p,none⟩)∧EP g b p [.string (bs s)],fun _ _ _ hf ⟨b,p,e,h⟩=>⟨b,p,e,h.mono hf.le⟩⟩
def Ve(p:Value→Prop):Fact:=⟨fun v _=>p v,fun _ _ _ _ h=>h⟩
def GW(x:List UInt8):Fact:=Ve fun v=> ∃n:Nat,gh x=some n∧v=vI n
def Vq:Fact:=Ve fun _=>False
def pf(w:cQ):List Value:=[vI w.src,vI w.dst,vI w.dN]
def oJ:List cQ→List Value
 |[]=>[]
 |w::r=>pf w++oJ r
theorem yh: ∀l:List cQ,(oJ l).length=l.length*3
 |[]=>rfl
 |w::r=>by show(pf w++oJ r).length=_;rw[List.length_append,yh r,List.length_cons];show 3+_=_;omega
theorem cY.win(g:G): ∀l:List cQ,cY g (oJ l) l
 |[]=>rfl
 |w::r=>⟨pf w,oJ r,rfl,rfl,cY.win g r⟩
theorem cY.Fy{g:G}: ∀{l:List cQ} {cs:List Value},cY g cs l→cs=oJ l
 |[],_,h=>h
 |x::r,_,⟨c1,c2,e,h1,h2⟩=>by rw[e,show c1=pf x from h1,cY.Fy h2];rfl
def GP(b:Nat)(f:bG)(sa:Option Addr)(sc:Nat)(wa:Option Addr)(wc:Nat)(uR:List Value):List df:=
 [vO b [vI f.dm,vI f.dv,.slice sa f.steps.length sc,.slice wa f.windows.length wc] 67,
  .row 115 7 (.slice sa f.steps.length sc) f.steps.length uR,
  .row 194 3 (.slice wa f.windows.length wc) f.windows.length (oJ f.windows)]
def GQ(b:Nat)(f:bG)(L:List df)(g0 g:G):Prop:=∃sa sc wa wc uR,St g0 g (GP b f sa sc wa wc uR++L)∧cY g uR f.steps
theorem Mj{line a x y z:List UInt8}(sw:bW 32 line=[a,x,y,z])(h:iU [ft,[],[],[]] [a,x,y,z]):iS line=match gh x,gh y,gh z with
   |some x,some y,some z=>some ⟨x,y,z⟩
   |_,_,_=>none:=by
 obtain rfl:=jk h 0 (w:=ft) rfl rfl (by decide);unfold iS;rw[sw];show(if ft=ft then _ else _)=_;rw[if_pos rfl]<;>(cases gh x<;>cases gh y<;>cases gh z<;>rfl)
theorem Mk{line:List UInt8}(h: ¬iU [ft,[],[],[]] (bW 32 line)):iS line=none:=by
 unfold iS;split
 ·rename_i a0 a1 a2 a3 he;rw[if_neg];rintro rfl;refine h ?_;rw[he];refine⟨Nat.le_refl _,fun i w hw=>?_⟩
  match i,hw with
  |0,hw=>exact .inr hw
  |1,hw=>exact .inl (Option.some.inj hw).symm
  |2,hw=>exact .inl (Option.some.inj hw).symm
  |3,hw=>exact .inl (Option.some.inj hw).symm
  |_+4,hw=>cases hw
 rfl
theorem Ml{line:List UInt8}(h:(bW 32 line).length≠4):iS line=none:=by
 unfold iS;split
 ·rename_i a0 a1 a2 a3 he;rw[he]at h;exact absurd rfl h
 rfl
def iT(f:bG)(line:List UInt8):Option cQ:=(iS line).bind fun w=>if(dA w 40&&decide ((f.windows.length:Int)<20)&&decide ((f.steps.length:Int)>0)&&follows f.windows w)=true then some w else none
theorem Fz{α:Type}{l:List α}(h:l.length=4): ∃a b c d,l=[a,b,c,d]:=by
 match l,h with
 |[a,b,c,d],_=>exact⟨a,b,c,d,rfl⟩
theorem JZ{b:Nat}(f:bG)(line:List UInt8)(hlen:line.length≤1000000)(NI:f.windows.length≤1000000){g0 g:G}{L:List df}(hF:jo g)(hO:GQ b f L g0 g):
  CallsIn Wd 0 prog 205 #[vP b,.string (bs line)] g.w fun e w'=>
   db g (fun g' r=>r= .tuple #[]∧ ∃w,iT f line=some w∧GQ b {f with windows:=f.windows++[w]} L g0 g') e w'∨
   (iT f line=none∧fJ g mZ (fun g'=> ∃cs,St g0 g' (Mm b cs::L)) e w'):=by
 have ar:=G.le.refl g;obtain⟨sa,sc,wa,wc,uR,hs,dc⟩:=hO;unfold GP at hs;unfold Mm;replace hs:St g0 g (vO b [vI f.dm,vI f.dv,.slice sa f.steps.length sc,.slice wa f.windows.length wc] 67::
  .row 115 7 (.slice sa f.steps.length sc) f.steps.length uR::
  .row 194 3 (.slice wa f.windows.length wc) f.windows.length (oJ f.windows)::L):=hs
 refine enter func205 rfl ntmps205 rfl<|cG 1 rfl<|BP [(0,.string (bs ft)),(1,.string (bs [])),(2,.string (bs [])),(3,.string (bs []))] [.string (bs ft),.string (bs []),.string (bs []),.string (bs [])] hs rfl rfl fun bl gl hs ai=>?_;obtain⟨ar,dc⟩:=cr ai ar dc;obtain⟨gz,gF,cK,gW,aW⟩:=hs.cP (α:=wh) (xs:=[⟨ft⟩,⟨[]⟩,⟨[]⟩,⟨[]⟩]) (i:=0) rfl (cY.strs _ [ft,[],[],[]]);have ai:=gW;rw[←gF];replace hs:=cK;clear cK;obtain⟨ar,dc⟩:=cr ai ar dc;refine HL rfl (wo line [ft,[],[],[]] _ _ hlen (by decide) (hF.mono ar) aW) ?_ ?_
 rotate_left
 ·intro hn g5 rk;replace hs:=hs.call rk;replace ar:=ar.trans rk.le;(repeat (first|with_reducible refine gY ?_|with_reducible refine gZ ?_|with_reducible refine g_ ?_));exact dH (.inr ⟨by unfold iT;rw[Mk hn];rfl,fJ.intro ar ⟨_,(hs.drop 1).drop 1⟩⟩)
 rintro g4 v mg ⟨lg,aH⟩;replace hs:=hs.call mg;have ai:=mg.le;obtain⟨ar,dc⟩:=cr ai ar dc;obtain⟨pa,pc,rfl⟩:=aH.isSlice;rw[List.length_map]at aH⊢;have sq:=kF 32 line;generalize sw:bW 32 line=ps at*;refine aX rfl<|cG 3 rfl ?_;by_cases h4:ps.length=4
 ·obtain⟨a,x,y,z,rfl⟩:=Fz h4;refine bM 11 (b':=true) (by simp) rfl<|HL rfl (eA true _) ?_ fun h=>(by cases h);rintro g3 _ fD ⟨rfl,_⟩;replace hs:=hs.call fD;have ai:=fD.le;obtain⟨ar,aH,dc⟩:=dR ai ar aH dc;have Fw:=Mj sw lg;refine b_<|az ?_;have yH:=hs;apply ea (fe (.f (sh x)::(fe (.f (GW x)::(fe (.f (sh y)::(fe (.f (GW y)::(fe (.f (sh z)::(fe (.f (GW z)::(.f (Ve fun v=> ∃x0 y0 z0:Nat,gh x=some x0∧gh y=some y0∧gh z=some z0∧v= .agg #[vI x0,vI y0,vI z0])::(.f (OV g3.dr.w.heap.size [vI 0,vI 0,vI 0] 194)::[])))))))))))))) 14 [(12,25),(13,5)] (by kernel_rfl)
  ·refine EF [[]] rfl<|fR [(0,13)] (fun gd hf=>?_) ?_
   ·have eT:=(G.bI _).trans hf.le;exact ah rfl<|aj<|ay rfl<|aR T.ok rfl (aH.mono eT) (y:=⟨x⟩) rfl rfl rfl rfl rfl rfl rfl fun b p ys aL gw=>⟨_,rfl,a_.refl _,b,p,rfl,by rw[←show ys=[Value.string (bs x)]from gw];exact aL⟩
   refine fR [(1,14)] (fun gd hf=>?_) ?_
   ·skip;refine ba fun v1 h1=>?_;apply aj;obtain⟨b,p,rfl,aL⟩:=h1;refine ay rfl<|cI T.ok 0 rfl aL rfl rfl<|⟨_,rfl,a_.refl _,?_⟩;exact rfl
   refine fR [(2,15)] (fun gd hf=>?_) ?_
   ·have eJ:=hs.dr.call hf;have eT:=(G.bI _).trans hf.le;refine ah rfl<|aj<|ay rfl<|cC (Wc 250) aK rfl rfl rfl rfl rfl (j6 x _ (Nat.le_trans (sq x (by simp)) hlen) (hF.mono (ar.trans eT))) (fun g' v eR h=>⟨g',rfl,eR,h⟩) fun hn g' eR=>?_
    replace eJ:=eJ.call eR;(repeat (first|with_reducible refine gY ?_|with_reducible refine gZ ?_|with_reducible refine g_ ?_));exact dH (.inr ⟨by unfold iT;rw[Fw,hn];first|rfl|(cases gh x<;>first|rfl|(cases gh y<;>rfl)),fJ.intro ((ar.trans eT).trans eR.le) ⟨_,(eJ.drop 1).drop 1⟩⟩)
   refine EF [[]] rfl<|fR [(4,17)] (fun gd hf=>?_) ?_
   ·have eT:=(G.bI _).trans hf.le;exact ah rfl<|aj<|ay rfl<|aR T.ok rfl (aH.mono eT) (y:=⟨y⟩) rfl rfl rfl rfl rfl rfl rfl fun b p ys aL gw=>⟨_,rfl,a_.refl _,b,p,rfl,by rw[←show ys=[Value.string (bs y)]from gw];exact aL⟩
   refine fR [(5,18)] (fun gd hf=>?_) ?_
   ·skip;refine ba fun v5 h5=>?_;apply aj;obtain⟨b,p,rfl,aL⟩:=h5;refine ay rfl<|cI T.ok 0 rfl aL rfl rfl<|⟨_,rfl,a_.refl _,?_⟩;exact rfl
   refine fR [(6,19)] (fun gd hf=>?_) ?_
   ·have eJ:=hs.dr.call hf;have eT:=(G.bI _).trans hf.le;refine ah rfl<|aj<|ay rfl<|cC (Wc 250) aK rfl rfl rfl rfl rfl (j6 y _ (Nat.le_trans (sq y (by simp)) hlen) (hF.mono (ar.trans eT))) (fun g' v eR h=>⟨g',rfl,eR,h⟩) fun hn g' eR=>?_
    replace eJ:=eJ.call eR;(repeat (first|with_reducible refine gY ?_|with_reducible refine gZ ?_|with_reducible refine g_ ?_));exact dH (.inr ⟨by unfold iT;rw[Fw,hn];first|rfl|(cases gh x<;>first|rfl|(cases gh y<;>rfl)),fJ.intro ((ar.trans eT).trans eR.le) ⟨_,(eJ.drop 1).drop 1⟩⟩)
   refine EF [[]] rfl<|fR [(8,21)] (fun gd hf=>?_) ?_
   ·have eT:=(G.bI _).trans hf.le;exact ah rfl<|aj<|ay rfl<|aR T.ok rfl (aH.mono eT) (y:=⟨z⟩) rfl rfl rfl rfl rfl rfl rfl fun b p ys aL gw=>⟨_,rfl,a_.refl _,b,p,rfl,by rw[←show ys=[Value.string (bs z)]from gw];exact aL⟩
   refine fR [(9,22)] (fun gd hf=>?_) ?_
   ·skip;refine ba fun v9 h9=>?_;apply aj;obtain⟨b,p,rfl,aL⟩:=h9;refine ay rfl<|cI T.ok 0 rfl aL rfl rfl<|⟨_,rfl,a_.refl _,?_⟩;exact rfl
   refine fR [(10,23)] (fun gd hf=>?_) ?_
   ·have eJ:=hs.dr.call hf;have eT:=(G.bI _).trans hf.le;refine ah rfl<|aj<|ay rfl<|cC (Wc 250) aK rfl rfl rfl rfl rfl (j6 z _ (Nat.le_trans (sq z (by simp)) hlen) (hF.mono (ar.trans eT))) (fun g' v eR h=>⟨g',rfl,eR,h⟩) fun hn g' eR=>?_
    replace eJ:=eJ.call eR;(repeat (first|with_reducible refine gY ?_|with_reducible refine gZ ?_|with_reducible refine g_ ?_));exact dH (.inr ⟨by unfold iT;rw[Fw,hn];first|rfl|(cases gh x<;>first|rfl|(cases gh y<;>rfl)),fJ.intro ((ar.trans eT).trans eR.le) ⟨_,(eJ.drop 1).drop 1⟩⟩)
   refine fR [(3,16),(7,20),(11,24)] (fun gd hf=>?_) ?_
   ·skip;refine ba fun v3 h3=>?_;refine ba fun v7 h7=>?_;refine ba fun v11 K2=>?_;apply aj;obtain⟨x0,hx,rfl⟩:=h3;obtain⟨y0,hy,rfl⟩:=h7;obtain⟨z0,hz,rfl⟩:=K2;exact ay rfl<|aS T.ok rfl (vs:=[(0,vI x0),(1,vI y0),(2,vI z0)]) (cells:=[vI x0,vI y0,vI z0]) rfl rfl rfl rfl [(0,1),(1,1),(2,1)] rfl (by kernel_rfl)<|⟨_,rfl,a_.refl _,x0,y0,z0,hx,hy,hz,rfl⟩
   refine fR [] (fun gd hf=>?_) ?_
   ·skip;refine aj<|ay rfl<|aN T.ok rfl (St.start gd) rfl rfl fun b g' lB hle=>?_;have ho:=lB.own 0 _ rfl;exact⟨g',rfl,lB.rh,b,rfl,Nat.le_trans hf.below.size ho.1,ho.2⟩
   exact gG
  intro g1 aP;refine ba fun v12 P8=>?_;refine ba fun V' U8=>?_;apply aj;replace hs:=hs.dr.call aP;have ai:=(G.bI _).trans aP.le;obtain⟨ar,dc⟩:=cr ai ar dc;obtain⟨x0,y0,z0,hx,hy,hz,rfl⟩:=P8;obtain⟨bx,rfl,EY⟩:=U8;replace hs:=yH.dr.lr aP EY;clear yH;rw[hx,hy,hz]at Fw;replace Fw:iS line=some ⟨x0,y0,z0⟩:=Fw;have NS:iT f line=if(dA ⟨x0,y0,z0⟩ 40&&decide ((f.windows.length:Int)<20)&&decide ((f.steps.length:Int)>0)&&follows f.windows ⟨x0,y0,z0⟩)=true then some ⟨x0,y0,z0⟩else none:=by unfold iT;rw[Fw];rfl
  clear h4;refine sN 0 hs rfl fun g1 hs ai=>?_;obtain⟨ar,dc⟩:=cr ai ar dc;refine b_<|az ?_;cases yP:dA ⟨x0,y0,z0⟩ 40 with
  |false=>
   apply ea (dn (dn (dn (eF (.f Vq::[]))))) 27 [(26,52)] (by kernel_rfl)
   ·refine pO [[]] [.o 0] hs rfl<|fR [(0,26)] (fun gd hf=>?_) ?_
    ·skip;refine ah rfl<|aj<|ay rfl<|aC (Wc 211) aK rfl rfl rfl rfl rfl (gv ⟨x0,y0,z0⟩ 40 _ (by decide) (by decide)) fun g' v h1 h2=>⟨g',rfl,h1,?_⟩
     rw[h2];exact congrArg Value.bool yP
    refine EF [[1,1],[2],[3,2],[4,2],[5,2],[6,2]] rfl<|fR [(7,33),(2,28)] (fun gd hf=>?_) ?_
    ·skip;refine aat rfl<|aj ?_
     first|(refine iB rfl ?_;exact rfl)|(refine ay rfl ?_;refine aE _ T.ok rfl ?_;exact⟨_,rfl,a_.refl _,congrArg Value.bool bS⟩)
    refine EF [[2,8],[9],[10],[11,10],[12,10],[13,10],[14,10]] rfl<|fR [(15,41),(10,36)] (fun gd hf=>?_) ?_
    ·skip;refine aat rfl<|aj ?_
     first|(refine iB rfl ?_;exact rfl)|(refine ay rfl ?_;refine aE _ T.ok rfl ?_;exact⟨_,rfl,a_.refl _,congrArg Value.bool vT⟩)
    refine EF [[10,16],[17],[18],[19,18],[20,18],[21,18],[18],[22,23,18,18],[18,24]] rfl<|fR [(25,51)] (fun gd hf=>?_) ?_
    ·have eJ:=hs.dr.call hf;have eT:=(G.bI _).trans hf.le;refine ah rfl<|aj<|ay rfl<|cC (Wc 247) aK rfl rfl rfl rfl rfl (eA false _) (fun g' v eR h=>(by cases h.2)) fun _ g' eR=>?_
     replace eJ:=eJ.call eR;(repeat (first|with_reducible refine gY ?_|with_reducible refine gZ ?_|with_reducible refine g_ ?_));exact dH (.inr ⟨by rw[NS,yP];rfl,fJ.intro ((ar.trans eT).trans eR.le) ⟨_,(((eJ.drop 0).drop 1).drop 1)⟩⟩)
    exact gG
   intro g1 aP;refine ba fun v26 PO=>?_;apply aj;replace hs:=hs.dr.call aP;have ai:=(G.bI _).trans aP.le;obtain⟨ar,dc⟩:=cr ai ar dc;exact PO.elim
  |true=>
  cases bS:decide ((f.windows.length:Int)<20)with
  |false=>
   apply ea (dn (dn (dn (eF (.f Vq::[]))))) 27 [(26,52)] (by kernel_rfl)
   ·refine pO [[]] [.o 0] hs rfl<|fR [(0,26)] (fun gd hf=>?_) ?_
    ·skip;refine ah rfl<|aj<|ay rfl<|aC (Wc 211) aK rfl rfl rfl rfl rfl (gv ⟨x0,y0,z0⟩ 40 _ (by decide) (by decide)) fun g' v h1 h2=>⟨g',rfl,h1,?_⟩
     rw[h2];exact congrArg Value.bool yP
    refine pO [[1,1],[2],[3,2],[4,2],[5,2],[6,2]] [.o 1] hs rfl<|fR [(7,33),(2,28)] (fun gd hf=>?_) ?_
    ·skip;refine aat rfl<|aj ?_
     first|(refine iB rfl ?_;exact rfl)|(refine ay rfl ?_;refine aE _ T.ok rfl ?_;exact⟨_,rfl,a_.refl _,congrArg Value.bool bS⟩)
    refine EF [[2,8],[9],[10],[11,10],[12,10],[13,10],[14,10]] rfl<|fR [(15,41),(10,36)] (fun gd hf=>?_) ?_
    ·skip;refine aat rfl<|aj ?_
     first|(refine iB rfl ?_;exact rfl)|(refine ay rfl ?_;refine aE _ T.ok rfl ?_;exact⟨_,rfl,a_.refl _,congrArg Value.bool vT⟩)
    refine EF [[10,16],[17],[18],[19,18],[20,18],[21,18],[18],[22,23,18,18],[18,24]] rfl<|fR [(25,51)] (fun gd hf=>?_) ?_
    ·have eJ:=hs.dr.call hf;have eT:=(G.bI _).trans hf.le;refine ah rfl<|aj<|ay rfl<|cC (Wc 247) aK rfl rfl rfl rfl rfl (eA false _) (fun g' v eR h=>(by cases h.2)) fun _ g' eR=>?_
     replace eJ:=eJ.call eR;(repeat (first|with_reducible refine gY ?_|with_reducible refine gZ ?_|with_reducible refine g_ ?_));exact dH (.inr ⟨by rw[NS,yP,bS];rfl,fJ.intro ((ar.trans eT).trans eR.le) ⟨_,(((eJ.drop 0).drop 1).drop 1)⟩⟩)
    exact gG
   intro g1 aP;refine ba fun v26 PO=>?_;apply aj;replace hs:=hs.dr.call aP;have ai:=(G.bI _).trans aP.le;obtain⟨ar,dc⟩:=cr ai ar dc;exact PO.elim
  |true=>
  cases vT:decide ((f.steps.length:Int)>0)with
  |false=>
   apply ea (dn (dn (dn (eF (.f Vq::[]))))) 27 [(26,52)] (by kernel_rfl)
   ·refine pO [[]] [.o 0] hs rfl<|fR [(0,26)] (fun gd hf=>?_) ?_
    ·skip;refine ah rfl<|aj<|ay rfl<|aC (Wc 211) aK rfl rfl rfl rfl rfl (gv ⟨x0,y0,z0⟩ 40 _ (by decide) (by decide)) fun g' v h1 h2=>⟨g',rfl,h1,?_⟩
     rw[h2];exact congrArg Value.bool yP
    refine pO [[1,1],[2],[3,2],[4,2],[5,2],[6,2]] [.o 1] hs rfl<|fR [(7,33),(2,28)] (fun gd hf=>?_) ?_
    ·skip;refine aat rfl<|aj ?_
     first|(refine iB rfl ?_;exact rfl)|(refine ay rfl ?_;refine aE _ T.ok rfl ?_;exact⟨_,rfl,a_.refl _,congrArg Value.bool bS⟩)
    refine pO [[2,8],[9],[10],[11,10],[12,10],[13,10],[14,10]] [.o 1] hs rfl<|fR [(15,41),(10,36)] (fun gd hf=>?_) ?_
    ·skip;refine aat rfl<|aj ?_
     first|(refine iB rfl ?_;exact rfl)|(refine ay rfl ?_;refine aE _ T.ok rfl ?_;exact⟨_,rfl,a_.refl _,congrArg Value.bool vT⟩)
    refine EF [[10,16],[17],[18],[19,18],[20,18],[21,18],[18],[22,23,18,18],[18,24]] rfl<|fR [(25,51)] (fun gd hf=>?_) ?_
    ·have eJ:=hs.dr.call hf;have eT:=(G.bI _).trans hf.le;refine ah rfl<|aj<|ay rfl<|cC (Wc 247) aK rfl rfl rfl rfl rfl (eA false _) (fun g' v eR h=>(by cases h.2)) fun _ g' eR=>?_
     replace eJ:=eJ.call eR;(repeat (first|with_reducible refine gY ?_|with_reducible refine gZ ?_|with_reducible refine g_ ?_));exact dH (.inr ⟨by rw[NS,yP,bS,vT];rfl,fJ.intro ((ar.trans eT).trans eR.le) ⟨_,(((eJ.drop 0).drop 1).drop 1)⟩⟩)
    exact gG
   intro g1 aP;refine ba fun v26 PO=>?_;apply aj;replace hs:=hs.dr.call aP;have ai:=(G.bI _).trans aP.le;obtain⟨ar,dc⟩:=cr ai ar dc;exact PO.elim
  |true=>
  cases Qk:follows f.windows ⟨x0,y0,z0⟩with
  |false=>
   apply ea (dn (dn (dn (eF (.f Vq::[]))))) 27 [(26,52)] (by kernel_rfl)
   ·refine pO [[]] [.o 0] hs rfl<|fR [(0,26)] (fun gd hf=>?_) ?_
    ·skip;refine ah rfl<|aj<|ay rfl<|aC (Wc 211) aK rfl rfl rfl rfl rfl (gv ⟨x0,y0,z0⟩ 40 _ (by decide) (by decide)) fun g' v h1 h2=>⟨g',rfl,h1,?_⟩
     rw[h2];exact congrArg Value.bool yP
    refine pO [[1,1],[2],[3,2],[4,2],[5,2],[6,2]] [.o 1] hs rfl<|fR [(7,33),(2,28)] (fun gd hf=>?_) ?_
    ·skip;refine aat rfl<|aj ?_
     first|(refine iB rfl ?_;exact rfl)|(refine ay rfl ?_;refine aE _ T.ok rfl ?_;exact⟨_,rfl,a_.refl _,congrArg Value.bool bS⟩)
    refine pO [[2,8],[9],[10],[11,10],[12,10],[13,10],[14,10]] [.o 1] hs rfl<|fR [(15,41),(10,36)] (fun gd hf=>?_) ?_
    ·skip;refine aat rfl<|aj ?_
     first|(refine iB rfl ?_;exact rfl)|(refine ay rfl ?_;refine aE _ T.ok rfl ?_;exact⟨_,rfl,a_.refl _,congrArg Value.bool vT⟩)
    refine pO [[10,16],[17],[18],[19,18],[20,18],[21,18],[18]] [.o 1,.o 0] hs rfl<|fR [(22,48),(23,49),(18,44),(18,44)] (fun gd hf=>?_) ?_
    ·have eJ:=hs.dr.call hf;refine aau rfl<|ah rfl<|aj<|ay rfl<|Cf (α:=cQ) (fun _ _ r=>r= .bool (follows f.windows ⟨x0,y0,z0⟩)) (fun _ _ r=>r= .bool (follows f.windows ⟨x0,y0,z0⟩)) (Wc 212) aK rfl rfl rfl rfl rfl eJ 3 rfl (cY.win _ f.windows) (fun gf hle hw hr=>uT _ f.windows ⟨x0,y0,z0⟩ gf hr) (fun _ _ _ _ _ _ _ _ _ h=>h) fun g' v h1 h2=>⟨g',rfl,h1,?_⟩
     rw[h2];exact congrArg Value.bool Qk
    refine EF [[18,24]] rfl<|fR [(25,51)] (fun gd hf=>?_) ?_
    ·have eJ:=hs.dr.call hf;have eT:=(G.bI _).trans hf.le;refine ah rfl<|aj<|ay rfl<|cC (Wc 247) aK rfl rfl rfl rfl rfl (eA false _) (fun g' v eR h=>(by cases h.2)) fun _ g' eR=>?_
     replace eJ:=eJ.call eR;(repeat (first|with_reducible refine gY ?_|with_reducible refine gZ ?_|with_reducible refine g_ ?_));exact dH (.inr ⟨by rw[NS,yP,bS,vT,Qk];rfl,fJ.intro ((ar.trans eT).trans eR.le) ⟨_,(((eJ.drop 0).drop 1).drop 1)⟩⟩)
    exact gG
   intro g1 aP;refine ba fun v26 PO=>?_;apply aj;replace hs:=hs.dr.call aP;have ai:=(G.bI _).trans aP.le;obtain⟨ar,dc⟩:=cr ai ar dc;exact PO.elim
  |true=>
  rw[yP,bS,vT,Qk]at NS;replace NS:iT f line=some ⟨x0,y0,z0⟩:=NS;apply bD hs (dn (dn (dn (eF (.f Fact.any::[]))))) 27 [(1,27)] (by kernel_rfl) rfl
  ·refine pO [[]] [.o 0] hs rfl<|fR [(0,26)] (fun gd hf=>?_) ?_
   ·skip;refine ah rfl<|aj<|ay rfl<|aC (Wc 211) aK rfl rfl rfl rfl rfl (gv ⟨x0,y0,z0⟩ 40 _ (by decide) (by decide)) fun g' v h1 h2=>⟨g',rfl,h1,?_⟩
    rw[h2];exact congrArg Value.bool yP
   refine pO [[1,1],[2],[3,2],[4,2],[5,2],[6,2]] [.o 1] hs rfl<|fR [(7,33),(2,28)] (fun gd hf=>?_) ?_
   ·skip;refine aat rfl<|aj ?_
    first|(refine iB rfl ?_;exact rfl)|(refine ay rfl ?_;refine aE _ T.ok rfl ?_;exact⟨_,rfl,a_.refl _,congrArg Value.bool bS⟩)
   refine pO [[2,8],[9],[10],[11,10],[12,10],[13,10],[14,10]] [.o 1] hs rfl<|fR [(15,41),(10,36)] (fun gd hf=>?_) ?_
   ·skip;refine aat rfl<|aj ?_
    first|(refine iB rfl ?_;exact rfl)|(refine ay rfl ?_;refine aE _ T.ok rfl ?_;exact⟨_,rfl,a_.refl _,congrArg Value.bool vT⟩)
   refine pO [[10,16],[17],[18],[19,18],[20,18],[21,18],[18]] [.o 1,.o 0] hs rfl<|fR [(22,48),(23,49),(18,44),(18,44)] (fun gd hf=>?_) ?_
   ·have eJ:=hs.dr.call hf;refine aau rfl<|ah rfl<|aj<|ay rfl<|Cf (α:=cQ) (fun _ _ r=>r= .bool (follows f.windows ⟨x0,y0,z0⟩)) (fun _ _ r=>r= .bool (follows f.windows ⟨x0,y0,z0⟩)) (Wc 212) aK rfl rfl rfl rfl rfl eJ 3 rfl (cY.win _ f.windows) (fun gf hle hw hr=>uT _ f.windows ⟨x0,y0,z0⟩ gf hr) (fun _ _ _ _ _ _ _ _ _ h=>h) fun g' v h1 h2=>⟨g',rfl,h1,?_⟩
    rw[h2];exact congrArg Value.bool Qk
   exact EF [[18,24]] rfl<|fR [(25,51)] (fun gd hf=>aax rfl (ay rfl (cC (Wc 247) aK rfl rfl rfl rfl rfl (eA true _) (fun g' v eR h=>⟨g',rfl,eR,trivial⟩) fun h=>(by cases h))))<|gG
  clear hs;intro g1 hs ai;obtain⟨ar,dc⟩:=cr ai ar dc;have aap:f.windows.length<20:=by simp only[decide_eq_true_eq]at bS;omega
  have ZN:=yh f.windows;apply b_;apply E6 aK rfl (Fact.eq _::Fact.eq _::Fact.eq _::Fact.eq _::Fact.eq _::Fact.eq _::(Fact.rs [(⟨x0,y0,z0⟩:cQ)])::(TV g0 (fun v Vr=>vO bx [vI x0,vI y0,vI z0] 194::vO b [vI f.dm,vI f.dv,.slice sa f.steps.length sc,.slice wa f.windows.length wc] 67:: .row 115 7 (.slice sa f.steps.length sc) f.steps.length uR:: .row 194 3 v (f.windows.length+1) Vr::L) (f.windows.length+1) (f.windows++[(⟨x0,y0,z0⟩:cQ)]))::[]) 8 [(0,53),(7,60)] [] [1,2,3,4,5,6] 7 rfl (by kernel_rfl) (by kernel_rfl)
  case houts=>exact rfl
  case hsoft=>(repeat (first|exact u7|apply u9|refine cU (kL _) ?_|refine cU (cz _) ?_|refine cU (kH _ _) ?_|refine cU (jv _) ?_|refine cU (aaF _) ?_|refine cU (iH _) ?_|refine cU (oI _) ?_|refine cU (l7 _) ?_|refine u_ (by exact rfl) ?_))
  ·refine aY (p9 (js:=[]) (by kernel_rfl) (by exact rfl) fun gd hf=>?_) ?_
   ·skip;apply aj;(refine ay rfl ?_;refine aE _ T.ok rfl ?_;refine⟨_,rfl,a_.refl _,?_⟩;exact rfl)
   refine w3 [] (fun gd hf=>aj (aaL rfl rfl))<|w3 [(1,54)] (fun gd hf=>aax rfl (aaL rfl rfl))<|w3 [(2,55)] (fun gd hf=>aax rfl (aaL rfl rfl))<|w3 [(3,56)] (fun gd hf=>aax rfl (ay rfl (cJ T.ok 1 rfl (hs.dr.call hf) rfl rfl rfl (aav rfl))))<|w3 [] (fun gd hf=>aj (ay rfl (cJ T.ok 0 rfl (hs.dr.call hf) rfl rfl rfl (aav rfl))))<|w3 [(5,58)] (fun gd hf=>?_) ?_
   ·skip;refine ah rfl<|aj<|ay rfl<|bE T.ok rfl (St.start gd) (vs:=[(0,.agg #[vI x0,vI y0,vI z0])]) (cells:=[vI x0,vI y0,vI z0]) rfl rfl rfl rfl rfl rfl (by decide) (by decide) (by kernel_rfl) rfl fun b2 g2 tK PQ=>?_;obtain⟨g3,vT,ED,Ak,oZ⟩:=tK.cP (α:=cQ) (xs:=[⟨x0,y0,z0⟩]) (i:=0) rfl ⟨_,[],by rw[List.append_nil],rfl,rfl⟩;exact⟨g3,vT,ED.rh,oZ⟩
   refine aY (vc (js:=[(4,57),(6,59)]) (by kernel_rfl) fun gd hf=>?_) ?_
   ·have eJ:=hs.dr.call hf;refine ah rfl<|ba fun v6 h6=>?_
    apply aj;obtain⟨ax,cx,rfl⟩:=Rs.isSlice h6;obtain⟨_,news,JP,iu⟩:=Src.jx h6;refine⟨rfl,?_⟩;exact bU T.ok 3 rfl eJ rfl rfl rfl rfl rfl rfl rfl (by decide) rfl iu JP.one (by show(f.windows.length+1)*24≤_;omega) (by unfold maxLen;show f.windows.length+1≤_;omega) fun a' c' g8 tW mc=>⟨g8,rfl,mc,a',c',_,rfl,tW,cY.app (JP.mono mc) (cY.win _ _)⟩
   exact vb
  intro g1 aP;refine ah rfl<|ba fun v7 h7=>?_;apply aj
  have ai:=(G.bI _).trans aP;obtain⟨ar,dc⟩:=cr ai ar dc;obtain⟨ZT,ZU,Vr,rfl,hs,Sk⟩:=h7;obtain rfl:=cY.Fy Sk;refine Wp 2 rfl<|sN 1 hs rfl fun g1 hs ai=>?_;obtain⟨ar,dc⟩:=cr ai ar dc;refine aA<|lC rfl (.inl (db.intro ar ⟨rfl,_,NS,sa,sc,ZT,ZU,uR,?_,dc⟩));have aV:=hs.drop 0;show St g0 _ (.obj b _:: .row _ 7 _ _ _:: .row _ 3 (.slice ZT (f.windows++[_]).length ZU) (f.windows++[_]).length _::L);rw[List.length_append];exact aV
 refine bM 11 (b':=false) (by simp;omega) rfl<|HL rfl (eA false _) ?_ ?_
 ·rintro g3 _ fD ⟨_,hc⟩;cases hc
 intro _ g3 fD;replace hs:=hs.call fD;replace ar:=ar.trans fD.le;(repeat (first|with_reducible refine gY ?_|with_reducible refine gZ ?_|with_reducible refine g_ ?_));exact dH (.inr ⟨by unfold iT;rw[Ml (by rw[sw];exact h4)];rfl,fJ.intro ar ⟨_,(hs.drop 1).drop 1⟩⟩)
end Go.Proofs.YtbfjdfecgiegpaaGreatDoor
namespace Go.Proofs.YtbfjdfecgiegpaaGreatDoor
open Go Go.K
set_option maxRecDepth 10000
attribute [local irreducible] W WL cS bh bY bB bA bC cL cD
set_option maxHeartbeats 2000000
def PR(n:Nat):List (List UInt8):=[iY,dec n,gE,[],aaA,[],mG,[],mH,[]]
def Qv:List (List UInt8):=[[],[],[],[],[],[],[],[],[],[],lX,[],iF,[]]
theorem PS{α:Type}{l:List α}(h:10≤l.length): ∃a0 a1 a2 a3 a4 a5 a6 a7 a8 a9 r,l=a0::a1::a2::a3::a4::a5::a6::a7::a8::a9::r:=by
 match l,h with
 |a0::a1::a2::a3::a4::a5::a6::a7::a8::a9::r,_=>exact⟨a0,a1,a2,a3,a4,a5,a6,a7,a8,a9,r,rfl⟩
theorem Mo{a3 a5 a7 a9:List UInt8}{bk:Option (Int×Int)}(h:gh a3=none):jj a3 a5 a7 a9 bk=none:=by
 unfold jj;split
 ·simp_all
 rfl
theorem Mp{a3 a5 a7 a9:List UInt8}{bk:Option (Int×Int)}(h:nH a5=none):jj a3 a5 a7 a9 bk=none:=by
 unfold jj;split
 ·simp_all
 rfl
theorem Mq{a3 a5 a7 a9:List UInt8}{bk:Option (Int×Int)}(h:nI a7=none):jj a3 a5 a7 a9 bk=none:=by
 unfold jj;split
 ·simp_all
 rfl
theorem Mr{a3 a5 a7 a9:List UInt8}{bk:Option (Int×Int)}(h:rv a9=none):jj a3 a5 a7 a9 bk=none:=by
 unfold jj;split
 ·simp_all
 rfl
theorem FA{a3 a5 a7 a9:List UInt8}:jj a3 a5 a7 a9 none=none:=by
 unfold jj;split
 ·rename_i h1;cases h1
 rfl
theorem FB{a3 a5 a7 a9:List UInt8}{r:Nat}{t nx:List Nat}{m n:Nat}{bk lm:Int}(h3:gh a3=some r)(h5:nH a5=some t)(h7:nI a7=some (m,n))(h9:rv a9=some nx):
  jj a3 a5 a7 a9 (some (bk,lm))=some ⟨r,ints t,m,n,ints nx,bk,lm⟩:=by
 unfold jj;rw[h3,h5,h7,h9]
theorem GX{n:Nat}{line a0 a1 a2 a3 a4 a5 a6 a7 a8 a9:List UInt8}{r:List (List UInt8)}(h:bW 32 line=a0::a1::a2::a3::a4::a5::a6::a7::a8::a9::r):fm n line=none∨ ∃bk,fm n line=jj a3 a5 a7 a9 bk:=by
 unfold fm;rw[h]
 match r with
 |[]=>exact(Decidable.em (aaC n a0 a1 a2 a4 a6 a8=true)).elim (fun hf=> .inr ⟨some (-1,0),if_pos hf⟩) (fun hf=> .inl (if_neg hf))
 |[b0,b1,b2,b3]=>exact(Decidable.em (aaC n a0 a1 a2 a4 a6 a8=true∧b0=lX∧b2=iF)).elim (fun hf=> .inr ⟨vj b1 b3,if_pos hf⟩) (fun hf=> .inl (if_neg hf))
 |[_]=>exact .inl rfl
 |[_,_]=>exact .inl rfl
 |[_,_,_]=>exact .inl rfl
 |_::_::_::_::_::_=>exact .inl rfl
theorem GY{n:Nat}{line a0 a1 a2 a3 a4 a5 a6 a7 a8 a9:List UInt8}{r:List (List UInt8)}(h:bW 32 line=a0::a1::a2::a3::a4::a5::a6::a7::a8::a9::r)(hb: ∀bk,jj a3 a5 a7 a9 bk=none):fm n line=none:=by
 rcases GX (n:=n) h with e|⟨bk,e⟩
 ·exact e
 rw[e,hb]
theorem GZ{n:Nat}{a0 a1 a2 a3 a4 a5 a6 a7 a8 a9:List UInt8}{r:List (List UInt8)}(h:iU (PR n) (a0::a1::a2::a3::a4::a5::a6::a7::a8::a9::r)):aaC n a0 a1 a2 a4 a6 a8=true:=by obtain rfl:=jk h 0 (w:=iY) rfl rfl (by decide);obtain rfl:=jk h 1 (w:=dec n) rfl rfl (qk n);obtain rfl:=jk h 2 (w:=gE) rfl rfl (by decide);obtain rfl:=jk h 4 (w:=aaA) rfl rfl (by decide);obtain rfl:=jk h 6 (w:=mG) rfl rfl (by decide);obtain rfl:=jk h 8 (w:=mH) rfl rfl (by decide);unfold aaC;simp
theorem zY{n:Nat}{a0 a1 a2 a3 a4 a5 a6 a7 a8 a9:List UInt8}{r:List (List UInt8)}(h:aaC n a0 a1 a2 a4 a6 a8=true):iU (PR n) (a0::a1::a2::a3::a4::a5::a6::a7::a8::a9::r):=by
 unfold aaC at h;simp only[Bool.and_eq_true,beq_iff_eq]at h;obtain⟨⟨⟨⟨⟨rfl,rfl⟩,rfl⟩,rfl⟩,rfl⟩,rfl⟩:=h;refine⟨by show 10≤_;simp only[List.length_cons];omega,fun i w hw=>?_⟩
 match i,hw with
 |0,hw=>exact .inr hw
 |1,hw=>exact .inr hw
 |2,hw=>exact .inr hw
 |3,hw=>exact .inl (Option.some.inj hw).symm
 |4,hw=>exact .inr hw
 |5,hw=>exact .inl (Option.some.inj hw).symm
 |6,hw=>exact .inr hw
 |7,hw=>exact .inl (Option.some.inj hw).symm
 |8,hw=>exact .inr hw
 |9,hw=>exact .inl (Option.some.inj hw).symm
 |_+10,hw=>cases hw
theorem G0{a0 a1 a2 a3 a4 a5 a6 a7 a8 a9 b1 b3:List UInt8}:iU Qv [a0,a1,a2,a3,a4,a5,a6,a7,a8,a9,lX,b1,iF,b3]:=by
 refine⟨Nat.le_refl _,fun i w hw=>?_⟩
 match i,hw with
 |0,hw=>exact .inl (Option.some.inj hw).symm
 |1,hw=>exact .inl (Option.some.inj hw).symm
 |2,hw=>exact .inl (Option.some.inj hw).symm
 |3,hw=>exact .inl (Option.some.inj hw).symm
 |4,hw=>exact .inl (Option.some.inj hw).symm
 |5,hw=>exact .inl (Option.some.inj hw).symm
 |6,hw=>exact .inl (Option.some.inj hw).symm
 |7,hw=>exact .inl (Option.some.inj hw).symm
 |8,hw=>exact .inl (Option.some.inj hw).symm
 |9,hw=>exact .inl (Option.some.inj hw).symm
 |10,hw=>exact .inr hw
 |11,hw=>exact .inl (Option.some.inj hw).symm
 |12,hw=>exact .inr hw
 |13,hw=>exact .inl (Option.some.inj hw).symm
 |_+14,hw=>cases hw
theorem J0{n:Nat}{line:List UInt8}(h: ¬iU (PR n) (bW 32 line)):fm n line=none:=by
 unfold fm;split
 ·rename_i he;rw[he]at h;rw[if_neg fun hf=>h (zY hf)]
 ·rename_i he;rw[he]at h;rw[if_neg fun hf=>h (zY hf.1)]
 rfl
theorem Ej{n:Nat}{line a0 a1 a2 a3 a4 a5 a6 a7 a8 a9:List UInt8}(h:bW 32 line=[a0,a1,a2,a3,a4,a5,a6,a7,a8,a9])(hf:aaC n a0 a1 a2 a4 a6 a8=true):fm n line=jj a3 a5 a7 a9 (some (-1,0)):=by unfold fm;rw[h];show(if _ then _ else _)=_;rw[if_pos hf]
theorem G1{n:Nat}{line a0 a1 a2 a3 a4 a5 a6 a7 a8 a9 b0 b1 b2 b3:List UInt8}(h:bW 32 line=[a0,a1,a2,a3,a4,a5,a6,a7,a8,a9,b0,b1,b2,b3])(hf:aaC n a0 a1 a2 a4 a6 a8=true)
  (hb:iU Qv [a0,a1,a2,a3,a4,a5,a6,a7,a8,a9,b0,b1,b2,b3]):fm n line=jj a3 a5 a7 a9 (vj b1 b3):=by
 obtain rfl:=jk hb 10 (w:=lX) rfl rfl (by decide);obtain rfl:=jk hb 12 (w:=iF) rfl rfl (by decide);unfold fm;rw[h];show(if _ then _ else _)=_;rw[if_pos ⟨hf,rfl,rfl⟩]
theorem G2{n:Nat}{line:List UInt8}(hl:10<(bW 32 line).length)(h: ¬iU Qv (bW 32 line)):fm n line=none:=by
 unfold fm;split
 ·rename_i he;rw[he]at hl;exact absurd hl (by simp)
 ·rename_i he;rw[he]at h;rw[if_neg];rintro⟨_,rfl,rfl⟩;exact h G0
 rfl
theorem G3{n:Nat}{line:List UInt8}(hl:10<(bW 32 line).length)(h:(bW 32 line).length≠14):fm n line=none:=by
 unfold fm;split
 ·rename_i he;rw[he]at hl;exact absurd hl (by simp)
 ·rename_i he;rw[he]at h;exact absurd rfl h
 rfl
def tF(f:bG)(line:List UInt8):Option Step:=(fm f.steps.length line).bind fun s=>if(cf s 40&&decide ((f.steps.length:Int)<40)&&decide ((f.windows.length:Int)=0))=true then some s else none
theorem hQ{f:bG}{line:List UInt8}(h:fm f.steps.length line=none):tF f line=none:=by unfold tF;rw[h];rfl
end Go.Proofs.YtbfjdfecgiegpaaGreatDoor
