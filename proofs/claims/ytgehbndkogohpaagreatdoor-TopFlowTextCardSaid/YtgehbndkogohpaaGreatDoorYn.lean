/- Parts of the proof, from: What Parse accepts: the lines of a valid flow, and ignored ones. -/
import Derived.Test.YtgehbndkogohpaaGreatDoorYg
import Derived.Test.YtgehbndkogohpaaGreatDoorYl
import Derived.Test.YtgehbndkogohpaaGreatDoorYm
import Derived.Test.YtgehbndkogohpaaGreatDoorYk
import Derived.Test.YtgehbndkogohpaaGreatDoorYc
import Derived.Test.YtgehbndkogohpaaGreatDoorYd
import Derived.Test.YtgehbndkogohpaaGreatDoorYe
import Derived.Test.YtgehbndkogohpaaGreatDoorShelfP
namespace Go.Proofs.YtgehbndkogohpaaGreatDoor
open Go Go.K
def kp:Nat→List Step→List (List UInt8)
 |_,[]=>[]
 |k,s::r=>ed k s::kp (k+1) r
def il(f:bQ):List (List UInt8):=gY f.bB f.bU::(kp 0 f.steps++f.windows.map dE)
def lf(ls:List (List UInt8)):List UInt8:=(ls.map fun l=>l++[10]).flatten
theorem lH(l:List UInt8)(ls:List (List UInt8)):lf (l::ls)=l++10::lf ls:=by simp[lf]
theorem BQ(ls ms:List (List UInt8)):lf (ls++ms)=lf ls++lf ms:=by simp[lf]
theorem ri: ∀(l:List Step) (k:Nat),lf (kp k l)=f_ k l
 |[],_=>rfl
 |s::l,k=>by rw[kp,lH,ri l (k+1)];rfl
theorem sR: ∀l:List bZ,lf (l.map dE)=kg l
 |[]=>rfl
 |w::l=>by rw[List.map_cons,lH,sR l];rfl
theorem yC(f:bQ):gI f=lf (il f):=by unfold gI il;rw[lH,BQ,ri,sR]
theorem vb: ∀ls:List (List UInt8),(∀l∈ls,(10:UInt8)∉l)→bN 10 (lf ls)=ls++[[]]
 |[],_=>rfl
 |l::ls,h=>by rw[lH,sb 10 l _ (h l (List.mem_cons_self ..)),vb ls fun x hx=>h x (List.mem_cons_of_mem _ hx)];rfl
def acc(first:Bool)(f:bQ):List (List UInt8)→Option bQ
 |[]=>some f
 |l::r=>(oC first f l).bind fun f'=>acc false f' r
theorem go_acc: ∀(ls:List (List UInt8)) (first:Bool) (f:bQ) (i:Nat),
  (∃f',fj first f i ls= .inl f'∧acc first f (ls.filter fun l=> !pC l)=some f')∨
  (∃j,fj first f i ls= .inr j∧acc first f (ls.filter fun l=> !pC l)=none)
 |[],first,f,i=> .inl ⟨f,rfl,rfl⟩
 |l::r,first,f,i=>by
  rw[fj];by_cases hs:pC l=true
  ·rw[if_pos hs,List.filter_cons_of_neg (by simp[hs])];exact go_acc r first f (i+1)
  rw[if_neg hs,List.filter_cons_of_pos (by simp[hs]),acc];cases oC first f l with
  |none=>exact .inr ⟨_,rfl,rfl⟩
  |some f'=>exact go_acc r false f' (i+1)
theorem D2(p r:List UInt8):p.isPrefixOf (p++r)=true:=by rw[List.isPrefixOf_iff_prefix];exact List.prefix_append p r
theorem GC(i:Nat)(s:Step):kA.isPrefixOf (ed i s)=true:=by rw[pA,List.append_assoc];exact D2 _ _
theorem BR(w:bZ):kA.isPrefixOf (dE w)=false:=by rw[iK];rfl
theorem xi: ∀(r:List (List UInt8)) (f f':bQ),acc false f r=some f'→
  ∃ss ws,f'=⟨f.bB,f.bU,f.steps++ss,f.windows++ws⟩∧r=kp f.steps.length ss++ws.map dE∧(ss≠[]→f.windows=[])
 |[],f,f',h=>by obtain rfl:=Option.some.inj h;exact⟨[],[],by simp,rfl,fun h=>absurd rfl h⟩
 |l::r,f,f',h=>by
  rw[acc]at h;obtain⟨f1,h1,h2⟩:=Option.bind_eq_some_iff.1 h;obtain⟨ss,ws,rfl,rfl,hw⟩:=xi r f1 f' h2;have h1:l9 f l=some f1:=h1;unfold l9 at h1;split at h1
  ·obtain⟨s,hs,rfl⟩:=Option.map_eq_some_iff.1 h1;unfold pD at hs;obtain⟨s',nz,aT⟩:=Option.bind_eq_some_iff.1 hs;split at aT
   ·rename_i hc;obtain rfl:=Option.some.inj aT;have hl:=(w9.1 nz).1;simp only[Bool.and_eq_true,decide_eq_true_eq]at hc;have XU:f.windows=[]:=List.eq_nil_of_length_eq_zero (by omega);refine⟨s'::ss,ws,by simp,?_,fun _=>XU⟩;rw[hl,kp,List.length_append,List.length_singleton];rfl
   cases aT
  obtain⟨w,hs,rfl⟩:=Option.map_eq_some_iff.1 h1;unfold iq at hs;obtain⟨w',nz,aT⟩:=Option.bind_eq_some_iff.1 hs;split at aT
  ·obtain rfl:=Option.some.inj aT;have hl:=(sO.1 nz).1;have XV:ss=[]:=by
    cases ss with
    |nil=>rfl
    |cons a b=>exact absurd (hw (by simp)) (by simp)
   subst XV;refine⟨[],w'::ws,by simp,?_,fun h=>absurd rfl h⟩;rw[hl];rfl
  cases aT
theorem Ai(f:bQ)(l:List UInt8):oC false f l=l9 f l:=rfl
theorem vc{lo hi hi':Int}(h:hi≤hi'): ∀{l:List Int} {p:Int},iF lo hi p l=true→iF lo hi' p l=true
 |[],_,_=>rfl
 |n::r,p,h1=>by simp only[iF,within,Bool.and_eq_true,decide_eq_true_eq]at h1⊢;exact⟨⟨⟨h1.1.1.1,by omega⟩,h1.1.2⟩,vc h h1.2⟩
theorem vd{s:Step}{n m:Int}(h:n≤m)(h1:bT s n=true):bT s m=true:=by
 unfold bT at h1⊢;simp only[Bool.and_eq_true,Bool.or_eq_true,decide_eq_true_eq,within,beq_iff_eq]at h1⊢;obtain⟨⟨⟨⟨⟨⟨⟨a,b⟩,c⟩,d⟩,e⟩,f⟩,g⟩,k⟩:=h1;refine⟨⟨⟨⟨⟨⟨⟨?_,b⟩,c⟩,d⟩,?_⟩,f⟩,g⟩,k⟩
 ·rcases a with a|a
  ·exact .inl a
  exact .inr (by omega)
 cases hn:s.next with
 |nil=>rfl
 |cons x r=>
  rw[hn]at e;simp only[ascending,within,Bool.and_eq_true,decide_eq_true_eq]at e⊢;exact⟨by omega,vc (by omega) e.2⟩
theorem sh{w:bZ}{n m:Int}(h:n≤m)(h1:de w n=true):de w m=true:=by unfold de at h1⊢;simp only[Bool.and_eq_true,within,decide_eq_true_eq]at h1⊢;obtain⟨⟨⟨a,b⟩,c⟩,d⟩:=h1;exact⟨⟨⟨by omega,by omega⟩,c⟩,d⟩
theorem sS{n m:Int}(h:n≤m): ∀{l pre:List bZ},dB n pre l=true→dB m pre l=true
 |[],_,_=>rfl
 |w::r,pre,h1=>by simp only[dB,Bool.and_eq_true]at h1⊢;exact⟨⟨sh h h1.1.1,h1.1.2⟩,sS h h1.2⟩
theorem xj(r:List (List UInt8)): ∀(ss:List Step) (f:bQ),f.windows=[]→(∀s∈ss,bT s 40=true)→f.steps.length+ss.length≤40→
  acc false f (kp f.steps.length ss++r)=acc false ⟨f.bB,f.bU,f.steps++ss,[]⟩ r
 |[],f,hw,_,_=>by rw[kp,List.nil_append,List.append_nil,←hw]
 |s::ss,f,hw,hs,hl=>by
  have s7:=hs s (List.mem_cons_self ..);have hN:=(sP (n:=40) (by decide) s7).n;rw[List.length_cons]at hl;have e:oC false f (ed f.steps.length s)=some ⟨f.bB,f.bU,f.steps++[s],[]⟩:=by rw[Ai];unfold l9;rw[if_pos (GC _ _)];unfold pD;rw[w9.2 ⟨rfl,hN⟩];show Option.map _ (if _ then _ else _)=_;rw[if_pos (by rw[s7,hw];simp;omega),Option.map_some,hw]
  have:=xj r ss ⟨f.bB,f.bU,f.steps++[s],[]⟩ rfl (fun x hx=>hs x (List.mem_cons_of_mem _ hx)) (by simp;omega);rw[kp,List.cons_append,acc,e];show acc false _ _=_;rw[List.length_append,List.length_singleton]at this;rw[this,List.append_assoc];rfl
theorem Aj: ∀(ws:List bZ) (f:bQ),dB 40 f.windows ws=true→f.windows.length+ws.length≤20→f.steps≠[]→
  acc false f (ws.map dE)=some ⟨f.bB,f.bU,f.steps,f.windows++ws⟩
 |[],f,_,_,_=>by rw[List.append_nil];rfl
 |w::ws,f,hw,hl,hs=>by
  rw[dB,Bool.and_eq_true,Bool.and_eq_true]at hw;rw[List.length_cons]at hl;have hlen:0<f.steps.length:=List.length_pos_iff.2 hs;have hN:=pB (n:=40) (by decide) hw.1.1;have e:oC false f (dE w)=some ⟨f.bB,f.bU,f.steps,f.windows++[w]⟩:=by rw[Ai];unfold l9;rw[if_neg (by rw[BR];decide)];unfold iq;rw[sO.2 ⟨rfl,hN⟩];show Option.map _ (if _ then _ else _)=_;rw[if_pos (by rw[hw.1.1,hw.1.2];simp;omega)];rfl
  rw[List.map_cons,acc,e];show acc false _ _=_;rw[Aj ws ⟨f.bB,f.bU,f.steps,f.windows++[w]⟩ hw.2 (by simp;omega) hs,List.append_assoc];rfl
structure LX(f:bQ):Prop where
 Qy:dA f=true
 one:1≤f.steps.length
 steps:f.steps.length≤40
 IV:f.windows.length≤20
 all: ∀s∈f.steps,bT s f.steps.length=true
 ok:dB f.steps.length [] f.windows=true
theorem IX{f:bQ}:valid f=true↔LX f:=by
 unfold valid;simp only[Bool.and_eq_true,within,decide_eq_true_eq,List.all_eq_true];constructor
 ·rintro⟨⟨⟨⟨a,b,c⟩,d⟩,e⟩,f⟩;exact⟨a,by omega,by omega,by omega,e,f⟩
 rintro⟨a,b,c,d,e,f⟩;exact⟨⟨⟨⟨a,by omega,by omega⟩,by omega⟩,e⟩,f⟩
theorem BS{f:bQ}(h:dA f=true):lI (gY f.bB f.bU)=some (f.bB,f.bU):=by unfold lI;rw[w_.2 ⟨rfl,nf h⟩];show(if _ then _ else _)=_;exact if_pos h
theorem GD{f:bQ}(hm:dA f=true)(hs: ∀s∈f.steps,bT s 40=true)(hl:f.steps.length≤40)(fB:f.steps≠[])(hw:dB 40 [] f.windows=true)(Ih:f.windows.length≤20):acc true np (il f)=some f:=by unfold il;rw[acc];show((lI _).map _).bind _=_;rw[BS hm];show acc false ⟨f.bB,f.bU,[],[]⟩ _=_;rw[show kp 0 f.steps=kp (⟨f.bB,f.bU,[],[]⟩:bQ).steps.length f.steps from rfl];rw[xj _ f.steps ⟨f.bB,f.bU,[],[]⟩ rfl hs (by simpa using hl)];show acc false ⟨f.bB,f.bU,f.steps,[]⟩ _=_;rw[Aj f.windows ⟨f.bB,f.bU,f.steps,[]⟩ hw (by simpa using Ih) fB];rfl
theorem ng{f:bQ}(h:valid f=true):acc true np (il f)=some f:=by have hB:=IX.1 h;have:=hB.steps;exact GD hB.Qy (fun s hs=>vd (by omega) (hB.all s hs)) hB.steps (fun e=>by have:=hB.one;rw[e]at this;simp at this) (sS (by omega) hB.ok) hB.IV
theorem D3{f:bQ}{ls:List (List UInt8)}(h:acc true np ls=some f)(hv:valid f=true):ls=il f:=by
 cases ls with
 |nil=>
  obtain rfl:=Option.some.inj h;cases hv
 |cons l r=>
  rw[acc]at h;obtain⟨f1,h1,h2⟩:=Option.bind_eq_some_iff.1 h;have h1:(lI l).map (fun p=>(⟨p.1,p.2,[],[]⟩:bQ))=some f1:=h1;obtain⟨⟨m,n⟩,hm,rfl⟩:=Option.map_eq_some_iff.1 h1;unfold lI at hm;obtain⟨⟨m',n'⟩,JR,Ms⟩:=Option.bind_eq_some_iff.1 hm;split at Ms
  ·obtain⟨rfl,rfl⟩:=Prod.mk.inj (Option.some.inj Ms);obtain⟨ss,ws,rfl,rfl,_⟩:=xi r _ f h2;rw[(w_.1 JR).1];rfl
  cases Ms
theorem qe{x:List UInt8}: ∀{ss:List Step} {k:Nat},x∈kp k ss→ ∃i s,x=ed i s
 |s::ss,k,h=>by
  rcases List.mem_cons.1 h with rfl|h
  ·exact⟨_,_,rfl⟩
  exact qe h
theorem BT{f:bQ}: ∀l∈il f,(10:UInt8)∉l:=by
 intro l hl;unfold il at hl;rcases List.mem_cons.1 hl with rfl|hl
 ·rw[lG];intro h;rcases List.mem_append.1 h with h|h
  ·revert h;decide
  exact se (by decide) (by decide) _ _ h
 rcases List.mem_append.1 hl with hl|hl
 ·obtain⟨i,s,rfl⟩:=qe hl;exact yx (by decide) (Ag (by decide) (by decide) (by decide) (by decide) (by decide) i s)
 obtain⟨w,_,rfl⟩:=List.mem_map.1 hl;rw[iK];intro h;simp only[List.mem_append]at h;rcases h with((((h|h)|h)|h)|h)|h
 ·revert h;decide
 ·exact jS (by decide) _ h
 ·revert h;decide
 ·exact jS (by decide) _ h
 ·revert h;decide
 exact jS (by decide) _ h
theorem yD{f:bQ}: ∀l∈il f,pC l=false:=by
 intro l hl;unfold il at hl;rcases List.mem_cons.1 hl with rfl|hl
 ·rw[lG];rfl
 rcases List.mem_append.1 hl with hl|hl
 ·obtain⟨i,s,rfl⟩:=qe hl;rw[pA];rfl
 obtain⟨w,_,rfl⟩:=List.mem_map.1 hl;rw[iK];rfl
theorem yE(f:bQ):(il f++[[]]).filter (fun l=> !pC l)=il f:=by rw[List.filter_append,List.filter_eq_self.2 fun l hl=>by rw[yD l hl];rfl];show _++[]=_;rw[List.append_nil]
theorem D4{s:List UInt8}{f:bQ}:kW s= .inl f↔valid f=true∧(bN 10 s).filter (fun l=> !pC l)=il f:=by
 unfold kW;rcases go_acc (bN 10 s) true np 0 with⟨f',h1,h2⟩|⟨j,h1,h2⟩
 ·rw[h1];show(if valid f'=true then Sum.inl f' else Sum.inr (bN 10 s).length)=_↔_;by_cases hv:valid f'=true
  ·rw[if_pos hv];constructor
   ·intro e;obtain rfl:=Sum.inl.inj e;exact⟨hv,D3 h2 hv⟩
   rintro⟨a,b⟩;rw[b,ng a]at h2;rw[Option.some.inj h2]
  rw[if_neg hv];refine⟨fun e=>(by cases e),?_⟩;rintro⟨a,b⟩;rw[b,ng a]at h2;exact absurd (Option.some.inj h2▸a) hv
 rw[h1];refine⟨fun e=>(by cases e),?_⟩;rintro⟨a,b⟩;rw[b,ng a]at h2;cases h2
theorem sK{f:bQ}(h:valid f=true):kW (gI f)= .inl f:=by refine D4.2 ⟨h,?_⟩;rw[yC,vb _ BT,yE]
set_option maxRecDepth 100000
structure XQ(R:List bH):Prop where
 ok: ∀x∈R,eC x=true∧x.kind=1∧x.day=0∧x.gone=false∧x.waf=1∧0≤x.time∧x.time≤1000000
 key:R.Pairwise fun x y=>eP x≠eP y
 time:R.Pairwise fun x y=>x.time<y.time
 idn:R.Pairwise fun x y=>x.idn≠y.idn
theorem IQ{α:Type}{p:α→Bool}{l:List α}(h: ∀x∈l,p x=true):l.filter p=l:=List.filter_eq_self.2 h
end Go.Proofs.YtgehbndkogohpaaGreatDoor
namespace Go.Proofs.YtgehbndkogohpaaGreatDoor
open Go Go.K
set_option maxRecDepth 100000
structure Ac(b:gn)(f:bQ)(R:List bH):Prop where
 procs:b.procs.Perm R
 vX:b.vX=[]
 iz:b.iz=(List.range 3).map mj
 lZ:b.lZ=[mi (gI f)]
 nh:b.nh.Perm ((List.range 120).map uB)
 holds:b.holds=[]
 val:valid f=true
 ok:XQ R
variable {b:gn} {f:bQ} {R:List bH}
theorem Ac.XR(h:Ac b f R){m:Int}(hm:ky m=true)(t:Int):vC b m t=m:=by unfold vC uy;rw[h.vX,if_pos hm];rfl
theorem Ac.lot(h:Ac b f R){t:Int}(ht:0≤t):nV b 1 t=some (mj 0):=by
 unfold nV;rw[h.iz];have e:(List.range 3).map mj=[mj 0,mj 1,mj 2]:=rfl;have h1:uz 1 t (mj 0)=true:=by show((ky 1&&(1:Int)==1)&&decide ((0:Int)≤t))=true;rw[decide_eq_true ht];rfl
 have h2:uz 1 t (mj 1)=false:=rfl;have h3:uz 1 t (mj 2)=false:=rfl;rw[e];simp[nw,h1,h2,h3]
theorem Ac.Dv(h:Ac b f R){t:Int}(ht:0≤t):ja b 1 t=if(check f).1=0 then some f else none:=by unfold ja;rw[h.lot ht,h.lZ];have e:((some (mj 0)).getD iy).prod=1:=rfl;rw[e,if_neg (by decide)];have e2:([mi (gI f)].find? fun x=>x.prod==1)=some (mi (gI f)):=rfl;rw[e2];have e3:(mi (gI f)).text=gI f:=rfl;simp only[e3,sK h.val]
theorem Ac.LV(h:Ac b f R):mc b 1=R:=by
 unfold mc;rw[if_pos (show ky 1=true from rfl)];have h1: ∀x∈b.procs,(vC b x.waf x.time==1)=true:=fun x hx=>by have e:=(h.ok.ok x (h.procs.mem_iff.1 hx)).2.2.2.2.1;rw[e,h.XR rfl];rfl
 rw[IQ h1];refine mC ((fR _).trans h.procs) (jj _) (h.ok.time.imp fun {x y} Kq=>?_) fun x hx y hy e=>?_
 ·rw[iA];show ¬(y.time<x.time∨(y.time=x.time∧y.idn<x.idn));omega
 have Q7:=h.procs.mem_iff.1 ((fR _).mem_iff.1 hx);have XS:=h.procs.mem_iff.1 ((fR _).mem_iff.1 hy);obtain⟨i,hi,rfl⟩:=List.mem_iff_getElem.1 Q7;obtain⟨j,hj,rfl⟩:=List.mem_iff_getElem.1 XS;have hp:=List.pairwise_iff_getElem.1 h.ok.time;have et:R[i].time=R[j].time:=congrArg Prod.fst e;rcases Nat.lt_trichotomy i j with vv|vv|vv
 ·have:=hp i j hi hj vv;omega
 ·subst vv;rfl
 have:=hp j i hj hi vv;omega
theorem DX{a:jJ}{h:List bH}(hf:ja b a.waf a.time=some f)(hh:b.holds=[]):
  qG b a h=bn (!(uk (some f) h).contains a.step) 2+bn ((jL (some f) a.step).isSome&& !((jL (some f) a.step).getD lB).dt.contains a.tool) 4+bn ((jL (some f) a.step).isSome&&((jL (some f) a.step).getD lB).cE !=a.rcp) 8+bn (!b.nh.any (pd a.tool a.cham a.rcp a.rvn a.time)) 16:=by
 unfold qG Dq;rw[PA,hf,BL a hh];simp[bn]
theorem AA{a:jJ}{h:List bH}(hf:ja b a.waf a.time=none)(hh:b.holds=[]):qG b a h=1+bn (!b.nh.any (pd a.tool a.cham a.rcp a.rvn a.time)) 16:=by unfold qG Dq;rw[PA,hf,BL a hh];simp[bn,jL]
theorem IS:uk (some f) []=[0]:=rfl
end Go.Proofs.YtgehbndkogohpaaGreatDoor
namespace Go.Proofs.YtgehbndkogohpaaGreatDoor
theorem Cs{c:Int}(h:qN c)(j:Nat):qN (c.fdiv (2^j)):=by
 unfold qN at h⊢;have hp:(0:Int)<2^j:=Int.pow_pos (by omega);have e:c.fdiv (2^j)=c/2^j:=Int.fdiv_eq_ediv_of_nonneg _ (by omega);rw[e];constructor
 ·have: -9223372036854775808≤c/2^j:=by
   rw[Int.le_ediv_iff_mul_le hp];have h1:(1:Int)≤2^j:=by omega
   have h2:(-9223372036854775808:Int)*2^j≤ -9223372036854775808*1:=Int.mul_le_mul_of_nonpos_left (by omega) h1;omega
  exact this
 rcases Int.lt_or_le c 0 with h0|h0
 ·have:c/2^j<0:=Int.ediv_neg_of_neg_of_pos h0 hp;omega
 have:c/2^j≤c:=Int.ediv_le_self _ h0;omega
def later(y:Y6)(i k:Nat):Bool:=
 (decide (k=i+1)&&decide (0<aS y.y2 8))||(decide (i+1<k)&&decide (aS (y.y2.fdiv (2^k)) 4=0))||(decide (k≤i)&&decide (aS (y.y2.fdiv (2^k)) 41=0))
def oA(y:Y6)(i:Nat)(acc:List Int)(k:Nat):List Int:=if later y i k=true∧acc.length<4 then acc++[(k:Int)]else acc
def gi(y:Y6)(i k:Nat):List Int:=(List.range k).foldl (oA y i) []
theorem oB(y:Y6)(i k:Nat):gi y i (k+1)=oA y i (gi y i k) k:=by unfold gi;rw[List.range_succ,List.foldl_append];rfl
def stepOf(x:List Y6)(n i:Nat):Step:=
 match x[i]? with
 |none=>⟨1+i,[(i:Int)],10,10,[],-1,0⟩
 |some y=>⟨1+aS y.y0 6,[aS (y.y0.tdiv 6) 5,5+aS (y.y0.tdiv 30) 5],1+aS y.y1 20,1+aS y.y1 20+aS (y.y1.tdiv 20) 15,gi y i n,
   if aS y.y3 3=0 then aS (y.y3.tdiv 3) n else -1,if aS y.y3 3=0 then 1+aS y.y4 3 else 0⟩
def tx(x:List Y6)(n i:Nat):List bZ:=
 match x[i]? with
 |none=>[]
 |some y=>if aS (y.y4.tdiv 3) n≠i∧aS y.y4 2=0 then [⟨i,aS (y.y4.tdiv 3) n,aS y.y5 120⟩]else []
def gh(x:List Y6):Nat:=max 1 (min x.length 10)
def mh(x:List Y6)(n k:Nat):List Step:=(List.range k).map (stepOf x n)
def hD(x:List Y6)(n k:Nat):List bZ:=(List.range k).flatMap (tx x n)
theorem vW(x:List Y6)(n k:Nat):mh x n (k+1)=mh x n k++[stepOf x n k]:=by unfold mh;rw[List.range_succ,List.map_append];rfl
theorem oF(x:List Y6)(n k:Nat):hD x n (k+1)=hD x n k++tx x n k:=by unfold hD;rw[List.range_succ,List.flatMap_append];simp
def made(x:List Y6):bQ:=
 ⟨match x[0]? with|none=>2|some y=>aS y.y5 7,match x[0]? with|none=>9|some y=>aS y.y5 7+aS (y.y5.tdiv 7) 20,mh x (gh x) (gh x),hD x (gh x) (min (gh x) x.length)⟩
theorem Ak(y:Y6)(i k:Nat):(gi y i k).length≤4:=by
 induction k with
 |zero=>simp[gi]
 |succ k ih=>
  rw[oB];unfold oA;split
  ·rw[List.length_append];rename_i h;simp;omega
  exact ih
theorem rj(l:List Int)(lo hi:Int):ascending l lo hi=true↔(∀m∈l,lo≤m∧m≤hi)∧l.Pairwise (· < ·):=by
 have go: ∀(l:List Int) (p:Int),iF lo hi p l=true↔(∀m∈l,lo≤m∧m≤hi)∧(p::l).Pairwise (· < ·):=by
  intro l
  induction l with
  |nil=>simp[iF]
  |cons n r ih=>
   intro p;simp only[iF,within,Bool.and_eq_true,decide_eq_true_eq,ih,List.pairwise_cons,List.mem_cons];constructor
   ·rintro⟨⟨⟨h1,h2⟩,h3⟩,h4,h5,h6⟩;refine⟨?_,?_,h5,h6⟩
    ·rintro m (rfl|hm)
     ·exact⟨h1,h2⟩
     exact h4 m hm
    rintro m (rfl|hm)
    ·exact h3
    have:=h5 m hm;omega
   rintro⟨h1,h2,h3,h4⟩;exact⟨⟨h1 n (.inl rfl),h2 n (.inl rfl)⟩,fun m hm=>h1 m (.inr hm),h3,h4⟩
 cases l with
 |nil=>simp[ascending]
 |cons n r=>
  simp only[ascending,within,Bool.and_eq_true,decide_eq_true_eq,go,List.mem_cons];constructor
  ·rintro⟨h1,h2,h3⟩;refine⟨?_,h3⟩;rintro m (rfl|hm)
   ·exact h1
   exact h2 m hm
  rintro⟨h1,h2⟩;exact⟨h1 n (.inl rfl),fun m hm=>h1 m (.inr hm),h2⟩
theorem Al(y:Y6)(i k:Nat):(∀m∈gi y i k,0≤m∧m<k)∧(gi y i k).Pairwise (· < ·):=by
 induction k with
 |zero=>simp[gi]
 |succ k ih=>
  rw[oB];unfold oA;split
  ·refine⟨fun m hm=>?_,?_⟩
   ·rcases List.mem_append.1 hm with h|h
    ·have:=ih.1 m h;omega
    rw[List.mem_singleton]at h;omega
   rw[List.pairwise_append];exact⟨ih.2,by simp,fun a ha b hb=>by have:=ih.1 a ha;rw[List.mem_singleton]at hb;omega⟩
  exact⟨fun m hm=>by have:=ih.1 m hm;omega,ih.2⟩
theorem o0(x:List Y6):1≤gh x∧gh x≤10:=by unfold gh;omega
theorem w0(x:List Y6)(n i:Nat)(hn:1≤n)(Eo:n≤10)(hi:i<n):bT (stepOf x n i) n=true:=by
 unfold stepOf;cases x[i]? with
 |none=>
  simp only[bT,within,Bool.and_eq_true,Bool.or_eq_true,decide_eq_true_eq,beq_iff_eq,rj];simp;omega
 |some y=>
  have p1:=b_ (c:=y.y0) (n:=6) (by omega);have p2:=b_ (c:=y.y0.tdiv 6) (n:=5) (by omega);have p3:=b_ (c:=y.y0.tdiv 30) (n:=5) (by omega);have p4:=b_ (c:=y.y1) (n:=20) (by omega);have p5:=b_ (c:=y.y1.tdiv 20) (n:=15) (by omega);have p6:=b_ (c:=y.y3.tdiv 3) (n:=n) (by omega);have p7:=b_ (c:=y.y4) (n:=3) (by omega);have q1:=Ak y i n;have q2:=Al y i n;simp only[bT,within,Bool.and_eq_true,Bool.or_eq_true,decide_eq_true_eq,beq_iff_eq,rj];refine⟨⟨⟨⟨⟨⟨⟨?_,?_,?_⟩,?_⟩,?_⟩,?_⟩,?_⟩,?_⟩,?_⟩
  ·by_cases h:aS y.y3 3=0
   ·right;rw[if_pos h,if_pos h];omega
   left;rw[if_neg h,if_neg h];omega
  ·simp
  ·omega
  ·omega
  ·refine⟨?_,?_⟩
   ·intro m hm;simp only[List.mem_cons,List.not_mem_nil,or_false]at hm;rcases hm with rfl|rfl<;>omega
   simp;omega
  ·exact⟨fun m hm=>by have:=q2.1 m hm;omega,q2.2⟩
  ·omega
  ·omega
  omega
theorem so(x:List Y6)(n:Nat)(_hn:1≤n)(k:Nat):(hD x n k).length≤k∧ ∀w∈hD x n k,w.src<k:=by
 induction k with
 |zero=>simp[hD]
 |succ k ih=>
  rw[oF];have h:(tx x n k).length≤1∧ ∀w∈tx x n k,w.src=k:=by
   unfold tx;cases x[k]? with
   |none=>simp
   |some y=>simp only;split<;>simp
  refine⟨by rw[List.length_append];omega,fun w hw=>?_⟩;rcases List.mem_append.1 hw with h1|h1
  ·have:=ih.2 w h1;omega
  have:=h.2 w h1;omega
theorem rk(n:Int): ∀(a pre b:List bZ),dB n pre (a++b)=(dB n pre a&&dB n (pre++a) b)
 |[],pre,b=>by simp[dB]
 |w::a,pre,b=>by simp only[List.cons_append,dB];rw[rk n a (pre++[w]) b];simp[Bool.and_assoc]
theorem xa(x:List Y6)(n:Nat)(hn:1≤n)(k:Nat)(hk:k≤n):dB n [] (hD x n k)=true:=by
 induction k with
 |zero=>simp[hD,dB]
 |succ k ih=>
  rw[oF,rk,ih (by omega),Bool.true_and,List.nil_append];have hs:=(so x n hn k).2;unfold tx;cases x[k]? with
  |none=>simp[dB]
  |some y=>
   simp only;split
   ·rename_i h;have p1:=b_ (c:=y.y4.tdiv 3) (n:=n) (by omega);have p2:=b_ (c:=y.y5) (n:=120) (by omega);simp only[dB,de,within,Bool.and_eq_true,decide_eq_true_eq,bne_iff_ne,ne_eq,Bool.and_true];refine⟨⟨⟨⟨by omega,by omega⟩,fun e=>h.1 e.symm⟩,by omega⟩,?_⟩;unfold follows;cases hl:(hD x n k).getLast? with
    |none=>rfl
    |some v=>
     have:=hs v (List.mem_of_getLast? hl);simp only[ly,Bool.or_eq_true,decide_eq_true_eq];left;exact this
   simp[dB]
theorem vi(x:List Y6):(made x).steps.length=gh x:=by simp[made,mh]
theorem Am(x:List Y6):valid (made x)=true:=by
 have hn:=o0 x;have hl:=vi x;unfold valid;simp only[Bool.and_eq_true,List.all_eq_true];refine⟨⟨⟨⟨?_,?_⟩,?_⟩,?_⟩,?_⟩
 ·unfold dA made;simp only[Bool.and_eq_true,decide_eq_true_eq];cases x[0]? with
  |none=>simp
  |some y=>
   have p1:=b_ (c:=y.y5) (n:=7) (by omega);have p2:=b_ (c:=y.y5.tdiv 7) (n:=20) (by omega);simp only;omega
 ·unfold within;simp only[Bool.and_eq_true,decide_eq_true_eq];omega
 ·have:=(so x (gh x) hn.1 (min (gh x) x.length)).1;have h2:=Nat.min_le_left (gh x) x.length;simp only[made];exact decide_eq_true (by have h3:=Nat.le_trans this h2;omega)
 ·intro s hs;rw[hl];unfold made mh at hs;obtain⟨i,hi,rfl⟩:=List.mem_map.1 hs;exact w0 x _ i hn.1 hn.2 (List.mem_range.1 hi)
 rw[hl];exact xa x _ hn.1 _ (Nat.min_le_left _ _)
end Go.Proofs.YtgehbndkogohpaaGreatDoor
namespace Go.Proofs.YtgehbndkogohpaaGreatDoor
open Go Go.K
set_option maxRecDepth 100000
def Rw(t:List UInt8):bH:={iy with kind:=5,ver:=1,prod:=2,text:=t}
def Rx:bH:={iy with kind:=4,ver:=1,waf:=4,lot:=1,prod:=2}
def VB(tool rcp:Int):bH:={iy with kind:=6,idn:=1,ver:=1,tool:=tool,rcp:=rcp,rvn:=1,til:=1000}
theorem vU{t:List UInt8}(h:t.length≤8192):eC (Rw t)=true:=by
 unfold eC;rw[show dQ (Rw t).kind=some (o4 4)from rfl];have e3:mz (o4 4).fields (Rw t)=some {Rw t with prod:=0}:=by rw[show(o4 4).fields=[eH 10]from rfl,yL (by simp[Rw,bH.num,eH])];rfl
 simp only[e3];simp[Rw,iy,o4,my,pE,qj];exact decide_eq_false (by omega)
theorem vV:eC Rx=true:=by decide+kernel
theorem BJ{tool rcp:Int}(h5:0≤tool∧tool≤59)(h7:1≤rcp∧rcp≤1000000):eC (VB tool rcp)=true:=by
 have e1:dQ (VB tool rcp).kind=some (o4 5):=rfl;unfold eC;rw[e1];have e2:qj (o4 5).rest (VB tool rcp)=true:=rfl;have e3:mz (o4 5).fields (VB tool rcp)=some (pE (VB tool rcp)):=by
  have e:(o4 5).fields=mw++fb++sW++gQ:=rfl;rw[e];simp only[mw,fb,sW,gQ,eH,eB,List.cons_append,List.nil_append]
  repeat rw[yL (by simp[VB,iy,bH.num,bH.put];try omega)]
  rfl
 simp only[e2,e3];simp[VB,o4,my,pE,iy]
theorem GB{R:List bH}(cR: ∀x∈R,eC x=true∧x.day=0∧x.gone=false)(hp:R.Pairwise fun x y=>x.kind≠y.kind)(i:Nat):(ofM R 0).ls i=dN (lK i) (R.filter fun x=>decide (x.kind=(i:Int)+1)):=by have hq:R.Pairwise fun x y=>eP x≠eP y:=hp.imp_of_mem fun {x y} hx _ fB e=>fB (BU (Cu (cR x hx).1) e);have hb:=CY (day:=0) (l:=[]) R (fun x hx=>⟨Cu (cR x hx).1,by have:=(cR x hx).2.1;omega⟩) hq (fun x hx=>absurd hx List.not_mem_nil);rw[List.nil_append]at hb;show dN _ (gR (jl 0 R) i)=_;rw[hb];congr 1;show gR ([]++_) i=_;rw[List.nil_append];unfold gR;rw[List.filter_map,List.map_map];have:((fun p:List UInt8×bH=>p.2)∘fun x=>(eP x,x))=id:=rfl;rw[this,List.map_id];refine List.filter_congr fun x hx=>?_;simp[(cR x hx).2.2]
structure Ko(b:gn)(f:bQ)(Q:List bH):Prop where
 procs:b.procs=[]
 iz:b.iz=[Rx]
 lZ:b.lZ=[Rw (gI f)]
 nh:b.nh=Q
 holds:b.holds=[]
theorem Jt{f:bQ}(hv:valid f=true):Ko (ofM [Rw (gI f),Rx] 0) f []:=by
 have h:=vU (t:=gI f) (rA (CX hv));have e:=GB (R:=[Rw (gI f),Rx]) (fun x hx=>by
  simp only[List.mem_cons,List.not_mem_nil,or_false]at hx;rcases hx with rfl|rfl
  ·exact⟨h,rfl,rfl⟩
  exact⟨vV,rfl,rfl⟩) (by simp[Rw,Rx])
 exact⟨e 0,e 3,e 4,e 5,e 6⟩
theorem JF{f:bQ}(hv:valid f=true){tool rcp:Int}(h5:0≤tool∧tool≤59)(h7:1≤rcp∧rcp≤1000000):Ko (ofM [Rw (gI f),Rx,VB tool rcp] 0) f [VB tool rcp]:=by
 have h:=vU (t:=gI f) (rA (CX hv));have e:=GB (R:=[Rw (gI f),Rx,VB tool rcp]) (fun x hx=>by
  simp only[List.mem_cons,List.not_mem_nil,or_false]at hx;rcases hx with rfl|rfl|rfl
  ·exact⟨h,rfl,rfl⟩
  ·exact⟨vV,rfl,rfl⟩
  exact⟨BJ h5 h7,rfl,rfl⟩) (by simp[Rw,Rx,VB])
 exact⟨e 0,e 3,e 4,e 5,e 6⟩
variable {b:gn} {f:bQ} {Q:List bH}
theorem Ko.LV(h:Ko b f Q)(w t:Int):lS b w t=[]:=by
 have e:mc b w=[]:=by unfold mc;rw[h.procs];split<;>rfl
 unfold lS;rw[e];rfl
theorem Ko.Dv(h:Ko b f Q)(hv:valid f=true){t:Int}(ht:0≤t):ja b 4 t=if(check f).1=0 then some f else Option.none:=by
 have e0:nV b 4 t=some Rx:=by
  unfold nV;rw[h.iz];have h1:uz 4 t Rx=true:=by show((ky 4&&(4:Int)==4)&&decide ((0:Int)≤t))=true;rw[decide_eq_true ht];rfl
  simp[nw,h1]
 unfold ja;rw[e0,h.lZ];have e:((some Rx).getD iy).prod=2:=rfl;rw[e,if_neg (by decide)];have e2:([Rw (gI f)].find? fun x=>x.prod==2)=some (Rw (gI f)):=rfl;rw[e2];have e3:(Rw (gI f)).text=gI f:=rfl;simp only[e3,sK hv]
theorem Ko.K0(h:Ko b f Q)(t:Int):ja b 5 t=Option.none:=by
 have e0:nV b 5 t= .none:=by unfold nV;rw[h.iz];have h1:uz 5 t Rx=false:=rfl;simp[nw,h1]
 unfold ja;rw[e0];rfl
theorem Ko.next(h:Ko b f Q)(hv:valid f=true){t:Int}(ht:0≤t):wG b 4 t=if(check f).1=0 then [0]else []:=by
 unfold wG;rw[h.LV,h.Dv hv ht];by_cases hc:(check f).1=0
 ·rw[if_pos hc,if_pos hc];rfl
 rw[if_neg hc,if_neg hc];rfl
theorem Jf{tool rcp t:Int}(h0:0≤t)(h1:t≤1000):[VB tool rcp].any (pd tool 0 rcp 1 t)=true:=by show(((((tool==tool&&((0:Int)==0&&(rcp==rcp&&(1:Int)==1)))&&decide ((0:Int)≤t))&&decide (t≤1000))||false)=true);simp;omega
theorem Ko.C8{tool rcp:Int}(h:Ko b f [VB tool rcp])(w:Int){t:Int}(hf:ja b w t=Option.none)(h0:0≤t)(h1:t≤1000):KZ b ⟨w,0,tool,0,rcp,1,t⟩=1:=by unfold KZ;rw[h.LV,AA (a:=⟨w,0,tool,0,rcp,1,t⟩) hf h.holds];show 1+bn (!b.nh.any (pd tool 0 rcp 1 t)) 16=1;rw[h.nh,Jf (tool:=tool) (rcp:=rcp) (t:=t) h0 h1];rfl
theorem Ko.GR(h:Ko b f [])(hv:valid f=true)(hc:(check f).1=0){s:Step}{tool t:Int}(hs:dS f.steps 0=some s)(ht:s.dt[0]? =some tool)(h0:0≤t):KZ b ⟨4,0,tool,0,s.cE,1,t⟩=16:=by have hf:=h.Dv hv h0;rw[if_pos hc]at hf;have e1:s.dt.contains tool=true:=List.contains_iff_mem.2 (List.mem_of_getElem? ht);have e2:jL (some f) 0=some s:=hs;unfold KZ;rw[h.LV,DX (a:=⟨4,0,tool,0,s.cE,1,t⟩) hf h.holds];show bn (!(uk (some f) []).contains 0) 2+bn ((jL (some f) 0).isSome&& !((jL (some f) 0).getD lB).dt.contains tool) 4+bn ((jL (some f) 0).isSome&&((jL (some f) 0).getD lB).cE !=s.cE) 8+bn (!b.nh.any (pd tool 0 s.cE 1 t)) 16=16;rw[h.nh,IS,e2,Option.getD_some,e1,show(s.cE !=s.cE)=false from by simp];rfl
theorem Ko.BX{s:Step}{tool t:Int}(h:Ko b f [VB tool s.cE])(hv:valid f=true)(hc:(check f).1=0)(hs:dS f.steps 0=some s)(ht:s.dt[0]? =some tool)(h0:0≤t)(h1:t≤1000):KZ b ⟨4,0,tool,0,s.cE,1,t⟩=0:=by have hf:=h.Dv hv h0;rw[if_pos hc]at hf;have e1:s.dt.contains tool=true:=List.contains_iff_mem.2 (List.mem_of_getElem? ht);have e2:jL (some f) 0=some s:=hs;unfold KZ;rw[h.LV,DX (a:=⟨4,0,tool,0,s.cE,1,t⟩) hf h.holds];show bn (!(uk (some f) []).contains 0) 2+bn ((jL (some f) 0).isSome&& !((jL (some f) 0).getD lB).dt.contains tool) 4+bn ((jL (some f) 0).isSome&&((jL (some f) 0).getD lB).cE !=s.cE) 8+bn (!b.nh.any (pd tool 0 s.cE 1 t)) 16=0;rw[h.nh,IS,e2,Option.getD_some,e1,Jf (tool:=tool) (rcp:=s.cE) (t:=t) h0 h1,show(s.cE !=s.cE)=false from by simp];rfl
end Go.Proofs.YtgehbndkogohpaaGreatDoor
namespace Go.Proofs.YtgehbndkogohpaaGreatDoor
open Go Go.K
set_option maxRecDepth 10000
attribute [local irreducible] W WL cD bc bK bd bg bh cq ck
set_option maxHeartbeats 4000000
theorem Mh(v:Value)(f:bQ)(s:Step)(tool w n t:Int)(g:G)(dj:ff g v f)(dH:dS f.steps n=some s)(ht:s.dt[0]? =some tool):
  CallsIn Wd 0 Tryz.prog 10 #[v,.int .i64 w,.int .i64 n,.int .i64 t] g.w (cF g fun _ r=>r=HR ⟨w,n,tool,0,s.cE,1,t⟩):=by
 obtain⟨a1,n1,c1,a2,n2,c2,rfl,aU,bS⟩:=id dj;obtain⟨_,_,e⟩:=aU.isSlice;obtain⟨rfl,rfl,rfl⟩:=Value.slice.inj e;clear e;clear bS;have hs:=St.start g;have aq:=G.le.refl g;refine enter Tryz.func10 rfl Tryz.ntmps10 rfl ?_;apply cM;refine ak rfl rfl (aO rfl hs rfl rfl ?_);clear hs;rintro b4 g1 hs ah;replace aU:=aU.mono ah;obtain⟨g2,bL,aT,ah,aL⟩:=hs.ba (i:=0) rfl;replace hs:=aT;clear aT;rw[←bL];replace aU:=aU.mono ah;have aC:=aL;clear aL;skip;refine ak rfl rfl (aK T.ok rfl hs rfl rfl ?_);clear hs;rintro b8 g1 hs ah;obtain⟨aC,aU⟩:=cf ah aC aU;apply bW;refine dz 3 [.z aC] (St.start _) rfl ?_;refine ak rfl rfl (aW T.ok rfl aU (y:=s) dH rfl rfl rfl rfl rfl rfl ?_);rintro b6 q6 ys aL d_;obtain⟨a7,n7,c7,a8,n8,c8,rfl,eh,ku⟩:=d_;clear ku;have cU:=aL;clear aL;refine Wm 1 [.e cU 0] (St.start _) rfl ?_;refine ak rfl rfl (aK T.ok rfl hs rfl rfl ?_);clear hs;rintro b9 g1 hs ah;replace eh:=eh.mono ah;refine bA rfl (az T.ok 0 rfl hs rfl rfl rfl rfl rfl rfl rfl rfl rfl ?_);replace hs:=hs;rintro g1 hs ah;replace eh:=eh.mono ah;obtain⟨g2,bL,aT,ah,aL⟩:=hs.ba (i:=0) rfl;replace hs:=aT;clear aT;rw[←bL];replace eh:=eh.mono ah;have aR:=aL;clear aL;apply bW;apply aD;obtain⟨rfl,_,_⟩:=eh.Be;obtain⟨b0,p0,ys,rfl,Es,hx⟩:=eh.at (i:=0) ht;obtain rfl:ys=[.int .i64 tool]:=hx;have bC:0<s.dt.length:=(List.getElem?_eq_some_iff.1 ht).1;apply bP hs (eO (fe (.e (HR ⟨w,n,tool,0,s.cE,1,t⟩)::[]))) 10 [(9,24)] (by kernel_rfl) rfl
 ·refine Dm [[],[],[],[2]] [.z aR] hs (by kernel_rfl) rfl ?_;refine ay (an (js:=[(3,18)]) (by kernel_rfl) fun gd hf=>ai rfl (aj (aB rfl (kX T.ok rfl rfl rfl (by omega) bC rfl rfl rfl ⟨gd,rfl,a_.refl _,rfl⟩)))) ?_;refine Dm [[4],[],[6],[]] [.e Es 0,.z aR] hs (by kernel_rfl) rfl ?_;refine ay (an (js:=[(0,15),(1,16),(5,20),(7,22),(8,23)]) (by kernel_rfl) fun gd hf=>ai rfl (ai rfl (ai rfl (ai rfl (ai rfl (aj (aB rfl (aQ T.ok rfl (vs:=[(0,.int .i64 w),(1,.int .i64 n),(2,.int .i64 tool),(4,.int .i64 s.cE),(5,.int .i64 1),(6,.int .i64 t)]) (cells:=vz ⟨w,n,tool,0,s.cE,1,t⟩) rfl rfl rfl rfl [(0,1),(1,1),(2,1),(3,1),(4,1),(5,1),(6,1)] rfl (by kernel_rfl) ⟨gd,rfl,a_.refl _,rfl⟩)))))))) ?_;exact fD
 (repeat clear hs);intro g6 hs ah
 skip;refine bA rfl (az T.ok 0 rfl hs rfl rfl rfl rfl rfl rfl rfl rfl rfl ?_);replace hs:=hs;rintro g1 hs ah;apply bW;exact aI (kC T.ok 0 rfl hs rfl rfl rfl (hs.ret rfl))
end Go.Proofs.YtgehbndkogohpaaGreatDoor
namespace Go.Proofs.YtgehbndkogohpaaGreatDoor
open Go Go.K
set_option maxRecDepth 10000
attribute [local irreducible] W WL cD bc bK bd bg bh cq ck
set_option maxHeartbeats 4000000
theorem yB{n:Int}{j:Nat}(h:j<64):ck .i64 n j=n.fdiv (2^j):=by unfold ck;rw[show min j IntKind.i64.bits=j by simp[IntKind.bits];omega]
def pF(s:Step)(tv nv:Value):List Value:=[.int .i64 s.cE,tv,.int .i64 s.min,.int .i64 s.max,nv,.int .i64 s.back,.int .i64 s.dI]
def WU(y:Y6):Fact:=
 ⟨fun v g=> ∃b p,v= .pointer (some ⟨b,p,none⟩)∧EP g b p [.int .i64 y.y0,.int .i64 y.y1,.int .i64 y.y2,.int .i64 y.y3,.int .i64 y.y4,.int .i64 y.y5],fun _ _ _ hf ⟨b,p,e,h1⟩=>⟨b,p,e,h1.mono hf.le⟩⟩
theorem x6(y:Y6):pH (WU y):=fun _ _ _ hle ⟨b,p,e,h1⟩=>⟨b,p,e,h1.mono hle⟩
theorem nZ(n:Int):pH (FX n):=fun _ _ _ hle ⟨b,p,e,h1⟩=>⟨b,p,e,h1.mono hle⟩
theorem cG.length{α:Type}[El α]{g:G}{xs:List α}{cells:List Value}(h:cG g cells xs):cells.length=xs.length*El.k α:=h.len
def Jd(g:G)(f:bQ)(g':G)(r:Value):Prop:=
 ∃a n c a2 n2 c2 cells,r= .agg #[.int .i64 f.bB,.int .i64 f.bU,.slice a n c,.slice a2 n2 c2]∧cS.holds g.w.heap.size g' (.row 60 7 (.slice a n c) f.steps.length cells)∧cG g' cells f.steps∧Rs g' (.slice a2 n2 c2) f.windows
theorem GF(v:Value)(x:List Y6)(g:G)(aH:Rs g v x)(hx: ∀y∈x,y.fit):CallsIn Wd 0 Tryz.prog 17 #[v] g.w (cF g (Jd g (made x))):=by
 obtain⟨a,c,rfl⟩:=aH.isSlice;have hlen:=aH.dJ;unfold maxLen at hlen;have hs:=St.start g;have aq:=G.le.refl g;have hn:=o0 x;refine enter Tryz.func17 rfl Tryz.ntmps17 rfl ?_;apply cM;refine ak rfl rfl (aK T.ok rfl hs rfl rfl ?_);clear hs;rintro br g1 hs ah;replace aH:=aH.mono ah;apply bW;refine aY rfl ?_;apply cM;have hN:(if(1:Int)<(if(10:Int)<(x.length:Int)then 10 else(x.length:Int))then(if(10:Int)<(x.length:Int)then 10 else(x.length:Int))else 1)=(gh x:Int):=by unfold gh;split<;>split<;>omega
 refine kz (.int .i64 (gh x)) (t:=3) rfl (congrArg (Value.int .i64) hN) ?_;refine ak rfl rfl (aQ T.ok rfl (vs:=[(0,.int .i64 2),(1,.int .i64 9)]) (cells:=[.int .i64 2,.int .i64 9,.slice none 0 0,.slice none 0 0]) rfl rfl rfl rfl [(0,1),(1,1),(2,1),(3,1)] rfl (by kernel_rfl) ?_);skip;refine ak rfl rfl (aK T.ok rfl hs rfl rfl ?_);clear hs;rintro bf g1 hs ah;replace aH:=aH.mono ah;skip;refine bA rfl (az T.ok 0 rfl hs rfl rfl rfl rfl rfl rfl rfl rfl rfl ?_);replace hs:=hs;rintro g1 hs ah;replace aH:=aH.mono ah;apply bW;apply aD;refine aY rfl ?_;refine pb (fun a' w=> ∃g2,w=g2.w∧St g g2 [.obj bf (.cells [.int .i64 (made x).bB,.int .i64 (made x).bU,.slice none 0 0,.slice none 0 0].toArray 28 (0,0)),.obj br (.cells [.int .i64 0,.int .i64 0,.slice none 0 0,.slice none 0 0].toArray 28 (0,0))]∧G.le g1 g2∧
  Fr 205 [] [(0,.slice a x.length c),(2,.pointer (some ⟨br,0,none⟩)),(3,.int .i64 (gh x)),(4,.pointer (some ⟨bf,0,none⟩))] a') ?_ ?_
 ·have fF:=G.le.refl g1;by_cases h0:0<x.length
  ·refine aM (b:=decide ((0:Int)<(x.length:Int))) (by simp;omega) rfl ?_;have jh:=hx x[0] (List.getElem_mem h0);have Xj:(made x).bB=aS x[0].y5 7:=by unfold made;rw[List.getElem?_eq_getElem h0]
   have E1:(made x).bU=aS x[0].y5 7+aS (x[0].y5.tdiv 7) 20:=by unfold made;rw[List.getElem?_eq_getElem h0]
   have p1:=b_ (c:=x[0].y5) (n:=7) (by omega);have p2:=b_ (c:=x[0].y5.tdiv 7) (n:=20) (by omega);have hq:=lb (n:=7) jh.h5 (by omega);rw[Xj,E1];refine cN 1 rfl ?_;refine ak rfl rfl (aW T.ok rfl aH (y:=x[0]) (cZ (j:=0) rfl h0) rfl rfl rfl rfl rfl rfl ?_);rintro b p ys aL rfl;refine ak rfl rfl (cA T.ok (q:=5) rfl rfl rfl rfl rfl rfl (by decide) ?_);refine ak rfl rfl (bJ T.ok (5*1) rfl aL rfl rfl ?_);refine ak rfl rfl (au qd aJ rfl rfl rfl rfl rfl (iW _ _ _ jh.h5 (by decide)) ?_);rintro g1 _ aP rfl;replace hs:=hs.call aP;have ah:=aP.le;obtain⟨fF,aH⟩:=cf ah fF aH;refine Wp 1 rfl ?_;refine bA rfl (az T.ok 0 rfl hs rfl rfl rfl rfl rfl rfl rfl rfl rfl ?_);replace hs:=hs;rintro g1 hs ah;obtain⟨fF,aH⟩:=cf ah fF aH;apply bW;apply bP hs (eQ (fe (.f (WU x[0])::(.f (FX x[0].y5)::(iY (fe [])))))) 10 [(8,34),(9,35)] (by kernel_rfl) rfl
   ·refine Dm [[],[0],[]] [.o 0] hs (by kernel_rfl) rfl ?_;refine ay (an (js:=[(2,28)]) (by kernel_rfl) fun gd hf=>?_) ?_
    ·have dG:=(G.bu _).trans hf.le;refine ai rfl ?_;apply aj;refine aB rfl ?_;refine aW T.ok rfl (aH.mono dG) (y:=x[0]) (cZ (j:=0) rfl h0) rfl rfl rfl rfl rfl rfl ?_;intro b p ys aL d_;exact⟨_,rfl,a_.refl _,b,p,rfl,d_▸aL⟩
    refine ay (an (js:=[(3,29)]) (by kernel_rfl) fun gd hf=>?_) ?_
    ·skip;refine aZ fun v3 h3=>?_;apply aj;obtain⟨b,p,rfl,aL⟩:=h3;refine aB rfl ?_;refine cA T.ok (q:=5) rfl rfl rfl rfl rfl rfl (by decide) ?_;exact⟨_,rfl,a_.refl _,b,_,rfl,aL.sub 5 rfl⟩
    refine ay (an (js:=[(4,30)]) (by kernel_rfl) fun gd hf=>?_) ?_
    ·skip;refine aZ fun v4 h4=>?_;apply aj;obtain⟨b,p,rfl,aL⟩:=h4;refine aB rfl ?_;refine bJ T.ok 0 rfl aL rfl rfl ?_;refine⟨_,rfl,a_.refl _,?_⟩;exact rfl
    refine ay (an (js:=[(5,31)]) (by kernel_rfl) fun gd hf=>?_) ?_
    ·skip;refine ai rfl ?_;apply aj;refine aB rfl ?_;refine aN _ T.ok rfl ?_;refine⟨_,rfl,a_.refl _,?_⟩;exact congrArg (Value.int .i64) (show _=x[0].y5.tdiv 7 from wr hq.1 hq.2)
    refine ay (an (js:=[(6,32)]) (by kernel_rfl) fun gd hf=>?_) ?_
    ·skip;refine ai rfl ?_;apply aj;refine aB rfl ?_;refine au qd aJ rfl rfl rfl rfl rfl (iW (x[0].y5.tdiv 7) 20 _ hq (by decide)) fun g' v h1 h2=>⟨g',rfl,h1,?_⟩
     exact h2
    refine ay (an (js:=[(1,27),(7,33)]) (by kernel_rfl) fun gd hf=>?_) ?_
    ·skip;refine ai rfl ?_;refine ai rfl ?_;apply aj;refine aB rfl ?_;refine aN _ T.ok rfl ?_;refine⟨_,rfl,a_.refl _,?_⟩;exact congrArg (Value.int .i64) (show _=aS x[0].y5 7+aS (x[0].y5.tdiv 7) 20 from wr (by omega) (by omega))
    exact Dy [[]] (by kernel_rfl) rfl
   clear hs;intro g1 hs ah;obtain⟨fF,aH⟩:=cf ah fF aH;skip;refine bA rfl (az T.ok 0 rfl hs rfl rfl rfl rfl rfl rfl rfl rfl rfl ?_);replace hs:=hs;rintro g1 hs ah;obtain⟨fF,aH⟩:=cf ah fF aH;apply aE;refine fun a ha=>rm ⟨_,rfl,hs,fF,ha.keep (by(repeat (first|exact trivial|refine⟨rfl,?_⟩)))⟩
  refine aV (b:=decide ((0:Int)<(x.length:Int))) (decide_eq_false (by omega)) rfl ?_;obtain rfl:x=[]:=List.eq_nil_of_length_eq_zero (by omega);apply aF;refine fun a ha=>rm ⟨_,rfl,hs,fF,ha.keep (by(repeat (first|exact trivial|refine⟨rfl,?_⟩)))⟩
 rintro a' _ ⟨g2,rfl,jo,ah,eF⟩;replace hs:=jo;clear jo;replace aH:=aH.mono ah;revert a';apply cI;apply aD;refine aY rfl ?_;apply aG;have nL:=aH;have gM:=G.le.refl g2;replace hs:=hs.iN 60 7 none;refine bM (fun m a' w=> ∃(k:Nat) (sv:Value) (cells:List Value) (g3:G),w=g3.w∧St g g3 [.row 60 7 sv k cells,.obj bf (.cells [.int .i64 (made x).bB,.int .i64 (made x).bU,sv,.slice none 0 0].toArray 28 (0,0)),.obj br (.cells [.int .i64 0,.int .i64 0,.slice none 0 0,.slice none 0 0].toArray 28 (0,0))]∧G.le g2 g3∧k≤gh x∧m=gh x-k∧cG g3 cells (mh x (gh x) k)∧
   Fr 205 [] [(0,.slice a x.length c),(2,.pointer (some ⟨br,0,none⟩)),(3,.int .i64 (gh x)),(4,.pointer (some ⟨bf,0,none⟩)),(5,.int .i64 k)] a') (gh x)
  (fun a' ha=>⟨0,_,[],g2,rfl,hs,gM,Nat.zero_le _,rfl,rfl,ha.keep (by(repeat (first|exact trivial|refine⟨rfl,?_⟩)))⟩) ?_
 clear hs gM aH;rintro m a' _ ⟨k,sv,cells,g3,rfl,hs,gM,hk,rfl,d_,eF⟩;have aH:=nL.mono gM;obtain⟨sa,sc,rfl⟩:=(hs.own 0 _ rfl).1.form;revert a';apply cI;apply aD;refine aY rfl ?_;by_cases bC:k<gh x
 ·refine aM (b:=decide ((k:Int)<(gh x:Int))) (by simp;omega) rfl ?_;have dH:=vW x (gh x) k;have K':=d_;have cC:=G.le.refl g3;have jY:=gM;apply aF;apply ar;apply aD;apply aG;refine cN 3 rfl ?_;refine ak rfl rfl (bD T.ok rfl hs (vs:=[(0,.int .i64 (k:Int))]) (cells:=[.int .i64 (k:Int)]) rfl rfl rfl rfl rfl rfl (by decide) (by decide) (by kernel_rfl) rfl ?_);rintro b2 g4 hs ah;obtain⟨cC,aH⟩:=cf ah cC aH;replace gM:=gM.trans ah;replace d_:=d_.mono ah;obtain⟨g5,WW,DC,WX,ny⟩:=hs.cK (α:=Int) (xs:=[(k:Int)]) (i:=0) rfl (cG.ints _ [(k:Int)]);clear ah;have ah:=WX;rw[←WW];replace hs:=DC;obtain⟨cC,aH⟩:=cf ah cC aH;replace gM:=gM.trans ah;replace d_:=d_.mono ah;refine ak rfl rfl (aQ T.ok rfl (vs:=[(0,.int .i64 (IntKind.i64.wrap (1+(k:Int)))),(1,.slice (some ⟨b2,0,none⟩) 1 1),(2,.int .i64 10),(3,.int .i64 10),(5,.int .i64 (-1))])
   (cells:=[.int .i64 (IntKind.i64.wrap (1+(k:Int))),.slice (some ⟨b2,0,none⟩) 1 1,.int .i64 10,.int .i64 10,.slice none 0 0,.int .i64 (-1),.int .i64 0]) rfl rfl rfl rfl [(0,1),(1,1),(2,1),(3,1),(4,1),(5,1),(6,1)] rfl (by kernel_rfl) ?_)
  skip;refine ak rfl rfl (aK T.ok rfl hs rfl rfl ?_);clear hs;rintro bs g1 hs ah;obtain⟨cC,aH⟩:=cf ah cC aH;replace gM:=gM.trans ah;replace d_:=d_.mono ah;replace ny:=ny.mono ah;skip;refine bA rfl (az T.ok 0 rfl hs rfl rfl rfl rfl rfl rfl rfl rfl rfl ?_);replace hs:=hs;rintro g1 hs ah;obtain⟨cC,aH⟩:=cf ah cC aH;replace gM:=gM.trans ah;replace d_:=d_.mono ah;replace ny:=ny.mono ah;apply bW;apply aD;refine aY rfl ?_;refine pb (fun a' w=> ∃(tv nv:Value) (g4:G),w=g4.w∧St g g4 [.obj bs (.cells (pF (stepOf x (gh x) k) tv nv).toArray 60 (0,0)),.row 60 7 (.slice sa k sc) k cells,.obj bf (.cells [.int .i64 (made x).bB,.int .i64 (made x).bU,.slice sa k sc,.slice none 0 0].toArray 28 (0,0)),.obj br (.cells [.int .i64 0,.int .i64 0,.slice none 0 0,.slice none 0 0].toArray 28 (0,0))]∧G.le g3 g4∧
    Rs g4 tv (stepOf x (gh x) k).dt∧Rs g4 nv (stepOf x (gh x) k).next∧
    Fr 205 [] [(0,.slice a x.length c),(2,.pointer (some ⟨br,0,none⟩)),(3,.int .i64 (gh x)),(4,.pointer (some ⟨bf,0,none⟩)),(5,.int .i64 k),(6,.pointer (some ⟨bs,0,none⟩))] a') ?_ ?_
  ·by_cases Ro:k<x.length
   ·refine aM (b:=decide ((k:Int)<(x.length:Int))) (by simp;omega) rfl ?_;obtain⟨y,hy⟩: ∃y,x[k]? =some y:=⟨_,List.getElem?_eq_getElem Ro⟩
    have jh:=hx y (List.mem_of_getElem? hy);have jG:dS x (k:Int)=some y:=by simp[dS,hy]
    have SY:stepOf x (gh x) k=⟨1+aS y.y0 6,[aS (y.y0.tdiv 6) 5,5+aS (y.y0.tdiv 30) 5],1+aS y.y1 20,1+aS y.y1 20+aS (y.y1.tdiv 20) 15,gi y k (gh x),
     if aS y.y3 3=0 then aS (y.y3.tdiv 3) (gh x)else -1,if aS y.y3 3=0 then 1+aS y.y4 3 else 0⟩:=by unfold stepOf;rw[hy]
    have p1:=b_ (c:=y.y0) (n:=6) (by omega);have p2:=b_ (c:=y.y0.tdiv 6) (n:=5) (by omega);have p3:=b_ (c:=y.y0.tdiv 30) (n:=5) (by omega);have p4:=b_ (c:=y.y1) (n:=20) (by omega);have p5:=b_ (c:=y.y1.tdiv 20) (n:=15) (by omega);have p6:=b_ (c:=y.y3.tdiv 3) (n:=gh x) (by omega);have p7:=b_ (c:=y.y4) (n:=3) (by omega);have q1:=lb (n:=6) jh.h0 (by omega);have q2:=lb (n:=30) jh.h0 (by omega);have q3:=lb (n:=20) jh.h1 (by omega);have q4:=lb (n:=3) jh.h3 (by omega);refine cN 2 rfl ?_;refine ak rfl rfl (aW T.ok rfl aH (y:=y) jG rfl rfl rfl rfl rfl rfl ?_);rintro b p ys aL rfl;refine Wm 1 [.e aL 0] (St.start _) rfl ?_;skip;refine ak rfl rfl (aK T.ok rfl hs rfl rfl ?_);clear hs;rintro bY g1 hs ah;obtain⟨cC,aH⟩:=cf ah cC aH;replace ny:=ny.mono ah;skip;refine bA rfl (az T.ok 0 rfl hs rfl rfl rfl rfl rfl rfl rfl rfl rfl ?_);replace hs:=hs;rintro g1 hs ah;obtain⟨cC,aH⟩:=cf ah cC aH;replace ny:=ny.mono ah;obtain⟨g2,bL,aT,ah,aL⟩:=hs.ba (i:=0) rfl;replace hs:=aT;clear aT;rw[←bL];obtain⟨cC,aH⟩:=cf ah cC aH;replace ny:=ny.mono ah;have aC:=aL;clear aL;apply bW;apply cM;refine ak rfl rfl (cA T.ok (q:=0) rfl rfl rfl rfl rfl rfl (by decide) ?_);refine Wm 1 [.z aC] (St.start _) rfl ?_;refine ak rfl rfl (au qd aJ rfl rfl rfl rfl rfl (iW _ _ _ jh.h0 (by decide)) ?_);rintro g1 _ aP rfl;replace hs:=hs.call aP;have ah:=aP.le;obtain⟨cC,aC,aH⟩:=dy ah cC aC aH;replace ny:=ny.mono ah;refine Wp 2 rfl ?_;rw[wr (n:=1+aS y.y0 6) (by omega) (by omega)];refine bA rfl (az T.ok 0 rfl hs rfl rfl rfl rfl rfl rfl rfl rfl rfl ?_);replace hs:=hs;rintro g1 hs ah;obtain⟨cC,aC,aH⟩:=dy ah cC aC aH;replace ny:=ny.mono ah;apply bW;apply aD;apply ea (eO (fe (.f (Fact.rs [aS (y.y0.tdiv 6) 5,5+aS (y.y0.tdiv 30) 5])::(fe [])))) 11 [(9,68),(10,69)] (by kernel_rfl)
    ·refine ay (an (js:=[]) (by kernel_rfl) fun gd hf=>?_) ?_
     ·skip;apply aj
      (refine aB rfl ?_;refine cA T.ok (q:=0) rfl rfl rfl rfl rfl rfl (by decide) ?_;refine⟨_,rfl,a_.refl _,?_⟩;exact rfl)
     refine Dm [[0]] [.e aC 0] (St.start _) (by kernel_rfl) rfl ?_;refine ay (an (js:=[(1,60)]) (by kernel_rfl) fun gd hf=>?_) ?_
     ·skip;refine ai rfl ?_;apply aj;refine aB rfl ?_;refine aN _ T.ok rfl ?_;refine⟨_,rfl,a_.refl _,?_⟩;exact congrArg (Value.int .i64) (show _=y.y0.tdiv 6 from wr q1.1 q1.2)
     refine ay (an (js:=[(2,61)]) (by kernel_rfl) fun gd hf=>?_) ?_
     ·skip;refine ai rfl ?_;apply aj;refine aB rfl ?_;refine au qd aJ rfl rfl rfl rfl rfl (iW (y.y0.tdiv 6) 5 _ q1 (by decide)) fun g' v h1 h2=>⟨g',rfl,h1,?_⟩
      exact h2
     refine ay (an (js:=[]) (by kernel_rfl) fun gd hf=>?_) ?_
     ·skip;apply aj
      (refine aB rfl ?_;refine cA T.ok (q:=0) rfl rfl rfl rfl rfl rfl (by decide) ?_;refine⟨_,rfl,a_.refl _,?_⟩;exact rfl)
     refine Dm [[4]] [.e aC 0] (St.start _) (by kernel_rfl) rfl ?_;refine ay (an (js:=[(5,64)]) (by kernel_rfl) fun gd hf=>?_) ?_
     ·skip;refine ai rfl ?_;apply aj;refine aB rfl ?_;refine aN _ T.ok rfl ?_;refine⟨_,rfl,a_.refl _,?_⟩;exact congrArg (Value.int .i64) (show _=y.y0.tdiv 30 from wr q2.1 q2.2)
     refine ay (an (js:=[(6,65)]) (by kernel_rfl) fun gd hf=>?_) ?_
     ·skip;refine ai rfl ?_;apply aj;refine aB rfl ?_;refine au qd aJ rfl rfl rfl rfl rfl (iW (y.y0.tdiv 30) 5 _ q2 (by decide)) fun g' v h1 h2=>⟨g',rfl,h1,?_⟩
      exact h2
     refine ay (an (js:=[(7,66)]) (by kernel_rfl) fun gd hf=>?_) ?_
     ·skip;refine ai rfl ?_;apply aj;refine aB rfl ?_;refine aN _ T.ok rfl ?_;refine⟨_,rfl,a_.refl _,?_⟩;exact congrArg (Value.int .i64) (show _=5+aS (y.y0.tdiv 30) 5 from wr (by omega) (by omega))
     refine ay (an (js:=[(3,62),(8,67)]) (by kernel_rfl) fun gd hf=>?_) ?_
     ·skip;refine ai rfl ?_;refine ai rfl ?_;apply aj;refine aB rfl ?_;refine bD T.ok rfl (St.start gd) (vs:=[(0,.int .i64 (aS (y.y0.tdiv 6) 5)),(1,.int .i64 (5+aS (y.y0.tdiv 30) 5))]) (cells:=[.int .i64 (aS (y.y0.tdiv 6) 5),.int .i64 (5+aS (y.y0.tdiv 30) 5)]) rfl rfl rfl rfl rfl rfl (by decide) (by decide) (by kernel_rfl) rfl ?_;intro b2 g2 nz FU;obtain⟨g3,pf,vn,qI,ny⟩:=nz.cK (α:=Int) (xs:=[aS (y.y0.tdiv 6) 5,5+aS (y.y0.tdiv 30) 5]) (i:=0) rfl (cG.ints _ [aS (y.y0.tdiv 6) 5,5+aS (y.y0.tdiv 30) 5]);exact⟨g3,pf,vn.nC,ny⟩
     exact Dy [[]] (by kernel_rfl) rfl
    intro g1 aP;refine aZ fun v9 h9=>?_;refine ai rfl ?_;apply aj;replace hs:=hs.dr.call aP;have ah:=(G.bu _).trans aP.le;obtain⟨cC,aC,aH⟩:=dy ah cC aC aH;have Pc:Rs g1 v9 [aS (y.y0.tdiv 6) 5,5+aS (y.y0.tdiv 30) 5]:=h9;clear h9;obtain⟨ta,tc,rfl⟩:=Pc.isSlice;skip;refine bA rfl (az T.ok 0 rfl hs rfl rfl rfl rfl rfl rfl rfl rfl rfl ?_);replace hs:=hs;rintro g1 hs ah;obtain⟨cC,aC,aH⟩:=dy ah cC aC aH;replace Pc:=Pc.mono ah;apply bW;apply cM;refine ak rfl rfl (cA T.ok (q:=1) rfl rfl rfl rfl rfl rfl (by decide) ?_);refine Wm 1 [.z aC] (St.start _) rfl ?_;refine ak rfl rfl (au qd aJ rfl rfl rfl rfl rfl (iW _ _ _ jh.h1 (by decide)) ?_);rintro g1 _ aP rfl;replace hs:=hs.call aP;have ah:=aP.le;obtain⟨cC,aC,aH⟩:=dy ah cC aC aH;replace Pc:=Pc.mono ah;refine Wp 2 rfl ?_;rw[wr (n:=1+aS y.y1 20) (by omega) (by omega)];refine bA rfl (az T.ok 0 rfl hs rfl rfl rfl rfl rfl rfl rfl rfl rfl ?_);replace hs:=hs;rintro g1 hs ah;obtain⟨cC,aC,aH⟩:=dy ah cC aC aH;replace Pc:=Pc.mono ah;apply bW;apply aD;apply bP hs (eO []) 8 [(6,81),(7,82)] (by kernel_rfl) rfl
    ·refine Dm [[],[0]] [.o 0] hs (by kernel_rfl) rfl ?_;refine ay (an (js:=[]) (by kernel_rfl) fun gd hf=>?_) ?_
     ·skip;apply aj
      (refine aB rfl ?_;refine cA T.ok (q:=1) rfl rfl rfl rfl rfl rfl (by decide) ?_;refine⟨_,rfl,a_.refl _,?_⟩;exact rfl)
     refine Dm [[2]] [.e aC 1] (St.start _) (by kernel_rfl) rfl ?_;refine ay (an (js:=[(3,78)]) (by kernel_rfl) fun gd hf=>?_) ?_
     ·skip;refine ai rfl ?_;apply aj;refine aB rfl ?_;refine aN _ T.ok rfl ?_;refine⟨_,rfl,a_.refl _,?_⟩;exact congrArg (Value.int .i64) (show _=y.y1.tdiv 20 from wr q3.1 q3.2)
     refine ay (an (js:=[(4,79)]) (by kernel_rfl) fun gd hf=>?_) ?_
     ·skip;refine ai rfl ?_;apply aj;refine aB rfl ?_;refine au qd aJ rfl rfl rfl rfl rfl (iW (y.y1.tdiv 20) 15 _ q3 (by decide)) fun g' v h1 h2=>⟨g',rfl,h1,?_⟩
      exact h2
     refine ay (an (js:=[(1,76),(5,80)]) (by kernel_rfl) fun gd hf=>?_) ?_
     ·skip;refine ai rfl ?_;refine ai rfl ?_;apply aj;refine aB rfl ?_;refine aN _ T.ok rfl ?_;refine⟨_,rfl,a_.refl _,?_⟩;exact congrArg (Value.int .i64) (show _=1+aS y.y1 20+aS (y.y1.tdiv 20) 15 from wr (by omega) (by omega))
     exact Dy [[]] (by kernel_rfl) rfl
    clear hs;intro g1 hs ah;obtain⟨cC,aC,aH⟩:=dy ah cC aC aH;replace Pc:=Pc.mono ah;skip;refine bA rfl (az T.ok 0 rfl hs rfl rfl rfl rfl rfl rfl rfl rfl rfl ?_);replace hs:=hs;rintro g1 hs ah;obtain⟨cC,aC,aH⟩:=dy ah cC aC aH;replace Pc:=Pc.mono ah;apply bW;apply aD;refine aY rfl ?_;apply aG;replace hs:=hs.iN 3 1 none;have Mg:=aC;have Mi:=Pc;have GG:=aH;have MR:=cC;have nJ:=G.le.refl g1;refine bM (fun m a' w=> ∃(j:Nat) (nv:Value) (g5:G),w=g5.w∧St g g5 [.row 3 1 nv (gi y k j).length (iw (gi y k j)),.obj bs (.cells [.int .i64 (1+aS y.y0 6),.slice ta 2 tc,.int .i64 (1+aS y.y1 20),.int .i64 (1+aS y.y1 20+aS (y.y1.tdiv 20) 15),nv,.int .i64 (-1),.int .i64 0].toArray 60 (0,0)),.row 60 7 (.slice sa k sc) k cells,.obj bf (.cells [.int .i64 (made x).bB,.int .i64 (made x).bU,.slice sa k sc,.slice none 0 0].toArray 28 (0,0)),.obj br (.cells [.int .i64 0,.int .i64 0,.slice none 0 0,.slice none 0 0].toArray 28 (0,0))]∧G.le g1 g5∧j≤gh x∧m=gh x-j∧
      Fr 205 [] [(0,.slice a x.length c),(2,.pointer (some ⟨br,0,none⟩)),(3,.int .i64 (gh x)),(4,.pointer (some ⟨bf,0,none⟩)),(5,.int .i64 k),(6,.pointer (some ⟨bs,0,none⟩)),(7,.pointer (some ⟨bY,0,none⟩)),(8,.int .i64 j)] a') (gh x)
     (fun a' ha=>⟨0,_,_,rfl,hs,nJ,Nat.zero_le _,rfl,ha.keep (by(repeat (first|exact trivial|refine⟨rfl,?_⟩)))⟩) ?_
    clear hs nJ aC aH Pc cC ny d_ gM;rintro m a' _ ⟨j,nv,g5,rfl,hs,nJ,hj,rfl,eF⟩;have aC:=Mg.mono nJ;have aH:=GG.mono nJ;have Pc:=Mi.mono nJ;have cC:=MR.trans nJ;obtain⟨na,nc,rfl⟩:=(hs.own 0 _ rfl).1.form;revert a';apply cI;apply aD;refine aY rfl ?_;by_cases Lj:j<gh x
    ·refine aM (b:=decide ((j:Int)<(gh x:Int))) (by simp;omega) rfl ?_;have Ir:=oB y k j;unfold oA at Ir;have q5:=Cs jh.h2 j;have fF:=G.le.refl g5;have Fx:=aC;have Ny:=Pc;have GQ:=aH;have Nz:=cC;apply aF;apply ar;apply aD;apply aG;refine cN 5 rfl ?_;refine Lz (fun a' w=> ∃g6,w=g6.w∧St g g6 [.row 3 1 (.slice na (gi y k j).length nc) (gi y k j).length (iw (gi y k j)),.obj bs (.cells [.int .i64 (1+aS y.y0 6),.slice ta 2 tc,.int .i64 (1+aS y.y1 20),.int .i64 (1+aS y.y1 20+aS (y.y1.tdiv 20) 15),.slice na (gi y k j).length nc,.int .i64 (-1),.int .i64 0].toArray 60 (0,0)),.row 60 7 (.slice sa k sc) k cells,.obj bf (.cells [.int .i64 (made x).bB,.int .i64 (made x).bU,.slice sa k sc,.slice none 0 0].toArray 28 (0,0)),.obj br (.cells [.int .i64 0,.int .i64 0,.slice none 0 0,.slice none 0 0].toArray 28 (0,0))]∧G.le g5 g6∧
      Fr 205 [] [(0,.slice a x.length c),(2,.pointer (some ⟨br,0,none⟩)),(3,.int .i64 (gh x)),(4,.pointer (some ⟨bf,0,none⟩)),(5,.int .i64 k),(6,.pointer (some ⟨bs,0,none⟩)),(7,.pointer (some ⟨bY,0,none⟩)),(8,.int .i64 j),(9,.bool (later y k j))] a') (List.append_nil _).symm ?_ ?_
     ·skip;by_cases c1:j=k+1
      ·refine cO 92 (b':=true) (by rw[wr (by omega) (by omega)];exact beq_iff_eq.2 (by omega)) rfl ?_;refine ak rfl rfl (cA T.ok (q:=2) rfl rfl rfl rfl rfl rfl (by decide) ?_);refine Wm 1 [.z aC] (St.start _) rfl ?_;refine ak rfl rfl (au qd aJ rfl rfl rfl rfl rfl (iW _ _ _ jh.h2 (by decide)) ?_);rintro g1 _ aP rfl;replace hs:=hs.call aP;have ah:=aP.le;obtain⟨fF,cC,aC,aH⟩:=eS ah fF cC aC aH;refine Wp 3 rfl ?_;by_cases c2:0<aS y.y2 8
       ·refine cO 98 (b':=true) (decide_eq_true c2) rfl ?_;refine Wp 27 rfl ?_;apply aE;exact fun a ha=>rm ⟨_,rfl,hs,fF,ha.keep ⟨rfl,rfl,rfl,rfl,rfl,rfl,rfl,rfl,kB rfl (by unfold later;simp[c1,c2]),trivial⟩⟩
       refine cO 98 (b':=false) (decide_eq_false c2) rfl ?_;refine Wp 5 rfl ?_;refine cO 103 (b':=false) (by rw[wr (by omega) (by omega)];exact decide_eq_false (by omega)) rfl ?_;refine Wp 13 rfl ?_;refine cO 116 (b':=false) (decide_eq_false (by omega)) rfl ?_;refine Wp 9 rfl ?_;apply aE;exact fun a ha=>rm ⟨_,rfl,hs,fF,ha.keep ⟨rfl,rfl,rfl,rfl,rfl,rfl,rfl,rfl,kB rfl (by unfold later;simp[c1,c2];intro h;omega),trivial⟩⟩
      refine cO 92 (b':=false) (by rw[wr (by omega) (by omega)];exact beq_eq_false_iff_ne.2 (by omega)) rfl ?_;refine Wp 11 rfl ?_;by_cases c3:k+1<j
      ·refine cO 103 (b':=true) (by rw[wr (by omega) (by omega)];exact decide_eq_true (by omega)) rfl ?_;refine ak rfl rfl (cA T.ok (q:=2) rfl rfl rfl rfl rfl rfl (by decide) ?_);refine Wm 3 [.z aC] (St.start _) rfl ?_;rw[yB (by omega:j<64)];refine ak rfl rfl (au qd aJ rfl rfl rfl rfl rfl (iW _ _ _ q5 (by decide)) ?_);rintro g1 _ aP rfl;replace hs:=hs.call aP;have ah:=aP.le;obtain⟨fF,cC,aC,aH⟩:=eS ah fF cC aC aH;refine Wp 4 rfl ?_;by_cases c4:aS (y.y2.fdiv (2^j)) 4=0
       ·refine cO 112 (b':=true) (beq_iff_eq.2 c4) rfl ?_;refine Wp 13 rfl ?_;apply aE;exact fun a ha=>rm ⟨_,rfl,hs,fF,ha.keep ⟨rfl,rfl,rfl,rfl,rfl,rfl,rfl,rfl,kB rfl (by unfold later;simp[c3,c4]),trivial⟩⟩
       refine cO 112 (b':=false) (beq_eq_false_iff_ne.2 c4) rfl ?_;refine Wp 4 rfl ?_;refine cO 116 (b':=false) (decide_eq_false (by omega)) rfl ?_;refine Wp 9 rfl ?_;apply aE;exact fun a ha=>rm ⟨_,rfl,hs,fF,ha.keep ⟨rfl,rfl,rfl,rfl,rfl,rfl,rfl,rfl,kB rfl (by unfold later;simp[c1,c3,c4];omega),trivial⟩⟩
      refine cO 103 (b':=false) (by rw[wr (by omega) (by omega)];exact decide_eq_false (by omega)) rfl ?_;refine Wp 13 rfl ?_;refine cO 116 (b':=true) (decide_eq_true (by omega)) rfl ?_;refine ak rfl rfl (cA T.ok (q:=2) rfl rfl rfl rfl rfl rfl (by decide) ?_);refine Wm 3 [.z aC] (St.start _) rfl ?_;rw[yB (by omega:j<64)];refine ak rfl rfl (au qd aJ rfl rfl rfl rfl rfl (iW _ _ _ q5 (by decide)) ?_);rintro g1 _ aP rfl;replace hs:=hs.call aP;have ah:=aP.le;obtain⟨fF,cC,aC,aH⟩:=eS ah fF cC aC aH;refine Wp 4 rfl ?_;apply aE;exact fun a ha=>rm ⟨_,rfl,hs,fF,ha.keep ⟨rfl,rfl,rfl,rfl,rfl,rfl,rfl,rfl,kB rfl (by unfold later;simp[c1,c3,show j≤k from by omega];rfl),trivial⟩⟩
     rintro a' _ ⟨g6,rfl,jo,ah,eF⟩;replace hs:=jo;clear jo aC Pc aH cC;have aC:=Fx.mono ah;have Pc:=Ny.mono ah;have aH:=GQ.mono ah;have cC:=Nz.trans ah;replace nJ:=nJ.trans ah;revert a';apply Je;apply ar;refine cN 2 rfl ?_;refine cp (want:=true) (x:=decide ((gi y k j).length<4)) 4 aJ rfl rfl rfl rfl (.inl ⟨rfl,rfl,rfl⟩) rfl rfl rfl rfl (fun hb Q' eG=>?_) (fun g' hf=>?_)
     ·refine Wm 4 [.o 1] hs rfl ?_;apply aE;exact fun a ha=>eG _ a (a_.refl _) (ha.keep ⟨kB rfl (by simp;omega),(by(repeat (first|exact trivial|refine⟨rfl,?_⟩)))⟩)
     replace hs:=hs.call hf;have ah:=hf.le;obtain⟨cC,aC,aH⟩:=dy ah cC aC aH;replace nJ:=nJ.trans ah;replace Pc:=Pc.mono ah;apply bW;by_cases wO:later y k j=true∧(gi y k j).length<4
     ·rw[if_pos wO]at Ir;refine aM (b:=later y k j&&decide ((gi y k j).length<4)) (by simp[wO]) rfl ?_;apply aA;refine Wm 3 [.o 1] hs rfl ?_;refine ak rfl rfl (bD T.ok rfl hs (vs:=[(0,.int .i64 (j:Int))]) (cells:=[.int .i64 (j:Int)]) rfl rfl rfl rfl rfl rfl (by decide) (by decide) (by kernel_rfl) rfl ?_);rintro b2 g4 hs ah;obtain⟨cC,aC,aH⟩:=dy ah cC aC aH;replace nJ:=nJ.trans ah;replace Pc:=Pc.mono ah;skip;refine ak rfl rfl (cd T.ok 1 rfl hs rfl rfl rfl rfl rfl rfl rfl (by decide) rfl (Src.fL (hs.own 0 _ rfl).1).2 (by simp[Value.oneCell']) (by have:=wO.2;show((gi y k j).length+1)*8≤_;omega) (by have:=wO.2;unfold maxLen;omega) ?_);rintro a9 c9 g8 hs ah;obtain⟨cC,aC,aH⟩:=dy ah cC aC aH;replace nJ:=nJ.trans ah;replace Pc:=Pc.mono ah;refine Wp 1 rfl ?_;refine bA rfl (az T.ok 2 rfl hs rfl rfl rfl rfl rfl rfl rfl rfl rfl ?_);replace hs:=hs;rintro g1 hs ah;obtain⟨cC,aC,aH⟩:=dy ah cC aC aH;replace nJ:=nJ.trans ah;replace Pc:=Pc.mono ah;have aT:St g _ [.row 3 1 (.slice a9 ((gi y k j).length+1) c9) ((gi y k j).length+1) (iw (gi y k j)++[Value.int .i64 (j:Int)]),.obj bs (.cells [.int .i64 (1+aS y.y0 6),.slice ta 2 tc,.int .i64 (1+aS y.y1 20),.int .i64 (1+aS y.y1 20+aS (y.y1.tdiv 20) 15),.slice a9 ((gi y k j).length+1) c9,.int .i64 (-1),.int .i64 0].toArray 60 (0,0)),.row 60 7 (.slice sa k sc) k cells,.obj bf (.cells [.int .i64 (made x).bB,.int .i64 (made x).bU,.slice sa k sc,.slice none 0 0].toArray 28 (0,0)),.obj br (.cells [.int .i64 0,.int .i64 0,.slice none 0 0,.slice none 0 0].toArray 28 (0,0))]:=hs.re [1,2,3,4,5] (by decide) rfl;have Pq:(gi y k (j+1)).length=(gi y k j).length+1:=by rw[Ir];simp
      have AM:iw (gi y k (j+1))=iw (gi y k j)++[Value.int .i64 (j:Int)]:=by rw[Ir];simp[iw]
      apply aE;apply bR;apply ar;apply aA;refine Wp 3 rfl ?_;apply aE;exact fun a ha=>⟨gh x-(j+1),by omega,j+1,.slice a9 ((gi y k j).length+1) c9,_,rfl,by rw[Pq,AM];exact aT,nJ,by omega,rfl,ha.keep ⟨rfl,rfl,rfl,rfl,rfl,rfl,rfl,kI rfl (by rw[wr (by omega) (by omega)];omega),trivial⟩⟩
     rw[if_neg wO]at Ir;refine aV (b:=later y k j&&decide ((gi y k j).length<4)) (by
      cases hl:later y k j with
      |false=>rfl
      |true=>rw[Bool.true_and];exact decide_eq_false (fun h=>wO ⟨hl,h⟩)) rfl ?_
     apply aF;apply bR;apply ar;apply aA;refine Wp 3 rfl ?_;apply aE;exact fun a ha=>⟨gh x-(j+1),by omega,j+1,.slice na (gi y k j).length nc,_,rfl,by rw[Ir];exact hs,nJ,by omega,rfl,ha.keep ⟨rfl,rfl,rfl,rfl,rfl,rfl,rfl,kI rfl (by rw[wr (by omega) (by omega)];omega),trivial⟩⟩
    refine aV (b:=decide ((j:Int)<(gh x:Int))) (by simp;omega) rfl ?_;obtain rfl:j=gh x:=by omega
    apply bF;apply bG;apply bG;apply c_;apply ar;apply cM;refine ak rfl rfl (cA T.ok (q:=3) rfl rfl rfl rfl rfl rfl (by decide) ?_);refine Wm 1 [.z aC] (St.start _) rfl ?_;refine ak rfl rfl (au qd aJ rfl rfl rfl rfl rfl (iW _ _ _ jh.h3 (by decide)) ?_);rintro g1 _ aP rfl;replace hs:=hs.call aP;have ah:=aP.le;obtain⟨cC,aC,aH⟩:=dy ah cC aC aH;replace Pc:=Pc.mono ah;refine bj rfl ?_;obtain⟨g9,Hh,Ch,Ig,lO⟩:=hs.cK (α:=Int) (xs:=gi y k (gh x)) (i:=0) rfl (cG.ints _ _);clear ah;have ah:=Ig;rw[←Hh];replace hs:=Ch;obtain⟨cC,aC,aH⟩:=dy ah cC aC aH;replace Pc:=Pc.mono ah;by_cases Hl:aS y.y3 3=0
    ·rw[if_pos Hl,if_pos Hl]at SY;refine aM (b:=aS y.y3 3==0) (beq_iff_eq.2 Hl) rfl ?_;apply cM;refine ak rfl rfl (cA T.ok (q:=3) rfl rfl rfl rfl rfl rfl (by decide) ?_);refine Wm 3 [.z aC] (St.start _) rfl ?_;refine kz (.int .i64 (y.y3.tdiv 3)) (t:=144) rfl (congrArg (Value.int .i64) (wr q4.1 q4.2)) ?_;refine ak rfl rfl (au qd aJ rfl rfl rfl rfl rfl (iW _ _ _ q4 (by omega)) ?_);rintro g1 _ aP rfl;replace hs:=hs.call aP;have ah:=aP.le;obtain⟨cC,aC,aH⟩:=dy ah cC aC aH;replace Pc:=Pc.mono ah;replace lO:=lO.mono ah;refine Wp 1 rfl ?_;refine bA rfl (az T.ok 0 rfl hs rfl rfl rfl rfl rfl rfl rfl rfl rfl ?_);replace hs:=hs;rintro g1 hs ah;obtain⟨cC,aC,aH⟩:=dy ah cC aC aH;replace Pc:=Pc.mono ah;replace lO:=lO.mono ah;apply bW;apply aA;refine ak rfl rfl (cA T.ok (q:=4) rfl rfl rfl rfl rfl rfl (by decide) ?_);refine Wm 1 [.z aC] (St.start _) rfl ?_;refine ak rfl rfl (au qd aJ rfl rfl rfl rfl rfl (iW _ _ _ jh.h4 (by decide)) ?_);rintro g1 _ aP rfl;replace hs:=hs.call aP;have ah:=aP.le;obtain⟨cC,aH⟩:=cf ah cC aH;replace Pc:=Pc.mono ah;replace lO:=lO.mono ah;refine Wp 2 rfl ?_;rw[wr (n:=1+aS y.y4 3) (by omega) (by omega)];refine bA rfl (az T.ok 0 rfl hs rfl rfl rfl rfl rfl rfl rfl rfl rfl ?_);replace hs:=hs;rintro g1 hs ah;obtain⟨cC,aH⟩:=cf ah cC aH;replace Pc:=Pc.mono ah;replace lO:=lO.mono ah;apply aE;rw[SY];exact fun a ha=>rm ⟨_,_,_,rfl,hs,cC,Pc,lO,ha.keep (by(repeat (first|exact trivial|refine⟨rfl,?_⟩)))⟩
    rw[if_neg Hl,if_neg Hl]at SY;refine aV (b:=aS y.y3 3==0) (beq_eq_false_iff_ne.2 Hl) rfl ?_;apply aF;rw[SY];exact fun a ha=>rm ⟨_,_,_,rfl,hs,cC,Pc,lO,ha.keep (by(repeat (first|exact trivial|refine⟨rfl,?_⟩)))⟩
   refine aV (b:=decide ((k:Int)<(x.length:Int))) (decide_eq_false (by omega)) rfl ?_;have SY:stepOf x (gh x) k=⟨1+k,[(k:Int)],10,10,[],-1,0⟩:=by unfold stepOf;rw[List.getElem?_eq_none (by omega)]
   rw[SY];rw[wr (by omega) (by omega)]at hs;apply aF;exact fun a ha=>rm ⟨_,_,_,rfl,hs,cC,ny,Rs.nil _,ha.keep (by(repeat (first|exact trivial|refine⟨rfl,?_⟩)))⟩
  rintro a' _ ⟨tv,nv,g4,rfl,jo,ah,FL,Gq,eF⟩;revert a';replace d_:=K'.mono ah;replace hs:=jo;clear jo;obtain⟨ta,tc,rfl⟩:=FL.isSlice;obtain⟨na,nc,rfl⟩:=Gq.isSlice;replace gM:=jY.trans ah;clear aH cC ny aq;apply cI;apply aA;refine Wm 3 [.o 2,.o 0] hs rfl ?_;refine ak rfl rfl (bD T.ok rfl hs (vs:=[(0,.agg (pF (stepOf x (gh x) k) (.slice ta (stepOf x (gh x) k).dt.length tc) (.slice na (stepOf x (gh x) k).next.length nc)).toArray)])
   (cells:=pF (stepOf x (gh x) k) (.slice ta (stepOf x (gh x) k).dt.length tc) (.slice na (stepOf x (gh x) k).next.length nc)) rfl rfl rfl rfl rfl rfl (by decide) (by decide) (by kernel_rfl) rfl ?_);rintro b2 g4 hs ah;skip
  replace gM:=gM.trans ah;replace d_:=d_.mono ah;replace FL:=FL.mono ah;replace Gq:=Gq.mono ah;skip;refine ak rfl rfl (cd T.ok 2 rfl hs rfl rfl rfl rfl rfl rfl rfl (by decide) rfl (Src.fL (hs.own 0 _ rfl).1).2 (by simp[pF,Value.oneCell']) (by show(k+1)*88≤_;omega) (by unfold maxLen;omega) ?_);rintro a9 c9 g8 hs ah;skip;replace gM:=gM.trans ah;replace d_:=d_.mono ah;replace FL:=FL.mono ah;replace Gq:=Gq.mono ah;refine Wp 1 rfl ?_;refine bA rfl (az T.ok 3 rfl hs rfl rfl rfl rfl rfl rfl rfl rfl rfl ?_);replace hs:=hs;rintro g1 hs ah;skip;replace gM:=gM.trans ah;replace d_:=d_.mono ah;replace FL:=FL.mono ah;replace Gq:=Gq.mono ah;have aT:St g _ [.row 60 7 (.slice a9 (k+1) c9) (k+1) (cells++pF (stepOf x (gh x) k) (.slice ta (stepOf x (gh x) k).dt.length tc) (.slice na (stepOf x (gh x) k).next.length nc)),.obj bf (.cells [.int .i64 (made x).bB,.int .i64 (made x).bU,.slice a9 (k+1) c9,.slice none 0 0].toArray 28 (0,0)),.obj br (.cells [.int .i64 0,.int .i64 0,.slice none 0 0,.slice none 0 0].toArray 28 (0,0))]:=hs.re [2,3,4] (by decide) rfl;apply aE;apply bR;apply ar;apply aA;refine Wp 3 rfl ?_;apply aE;refine fun a ha=>⟨gh x-(k+1),by omega,k+1,_,_,_,rfl,aT,gM,by omega,rfl,?_,ha.keep ⟨rfl,rfl,rfl,rfl,kI rfl (by rw[wr (by omega) (by omega)];omega),trivial⟩⟩
  rw[dH];exact cG.app (α:=Step) (ys:=[stepOf x (gh x) k]) ⟨_,[],by rw[List.append_nil],(show qD _ (pF _ _ _) _ from⟨_,_,_,_,_,_,rfl,FL,Gq⟩),rfl⟩ d_
 refine aV (b:=decide ((k:Int)<(gh x:Int))) (by simp;omega) rfl ?_;obtain rfl:k=gh x:=by omega
 apply bF;apply bG;apply bG;apply c_;apply ar;apply aD;refine aY rfl ?_;apply aG;replace hs:=hs.iN 58 3 none;have K':=d_;have GG:=aH;have nJ:=G.le.refl g3;have HT:min (gh x) x.length≤gh x:=Nat.min_le_left _ _;have Rp:min (gh x) x.length≤x.length:=Nat.min_le_right _ _;refine bM (fun m a' w=> ∃(j:Nat) (wv:Value) (Rm:List Value) (g5:G),w=g5.w∧St g g5 [.row 58 3 wv (hD x (gh x) j).length Rm,.row 60 7 (.slice sa (gh x) sc) (gh x) cells,.obj bf (.cells [.int .i64 (made x).bB,.int .i64 (made x).bU,.slice sa (gh x) sc,wv].toArray 28 (0,0)),.obj br (.cells [.int .i64 0,.int .i64 0,.slice none 0 0,.slice none 0 0].toArray 28 (0,0))]∧cG g5 Rm (hD x (gh x) j)∧G.le g3 g5∧j≤min (gh x) x.length∧m=gh x-j∧
   Fr 205 [] [(0,.slice a x.length c),(2,.pointer (some ⟨br,0,none⟩)),(3,.int .i64 (gh x)),(4,.pointer (some ⟨bf,0,none⟩)),(10,.int .i64 j)] a') (gh x)
  (fun a' ha=>⟨0,_,[],_,rfl,hs,rfl,nJ,Nat.zero_le _,rfl,ha.keep (by(repeat (first|exact trivial|refine⟨rfl,?_⟩)))⟩) ?_
 clear hs nJ aH d_ gM;rintro m a' _ ⟨j,wv,Rm,g5,rfl,hs,Cq,nJ,hj,rfl,eF⟩;have aH:=GG.mono nJ;have d_:=K'.mono nJ;obtain⟨wa,wc,rfl⟩:=(hs.own 0 _ rfl).1.form;have Ih:=so x (gh x) hn.1 j;revert a';apply cI;apply aD;refine cN 4 rfl ?_;refine cp (want:=true) (x:=decide ((j:Int)<(x.length:Int))) 4 aJ rfl rfl rfl rfl (.inl ⟨rfl,rfl,rfl⟩) rfl rfl rfl rfl (fun hb Q' eG=>?_) (fun g' hf=>?_)
 ·refine Wp 4 rfl ?_;apply aE;exact fun a ha=>eG _ a (a_.refl _) (ha.keep (by(repeat (first|exact trivial|refine⟨rfl,?_⟩))))
 replace hs:=hs.call hf;have ah:=hf.le;replace aH:=aH.mono ah;replace nJ:=nJ.trans ah;replace Cq:=Cq.mono ah;replace d_:=d_.mono ah;apply bW;by_cases Lj:j<min (gh x) x.length
 ·refine aM (b:=decide ((j:Int)<(gh x:Int))&&decide ((j:Int)<(x.length:Int))) (by simp;omega) rfl ?_;obtain⟨y,hy⟩: ∃y,x[j]? =some y:=⟨_,List.getElem?_eq_getElem (by omega)⟩
  have jh:=hx y (List.mem_of_getElem? hy);have jG:dS x (j:Int)=some y:=by simp[dS,hy]
  have Ir:=oF x (gh x) j;have Rq:tx x (gh x) j=if aS (y.y4.tdiv 3) (gh x)≠j∧aS y.y4 2=0 then [⟨j,aS (y.y4.tdiv 3) (gh x),aS y.y5 120⟩]else []:=by unfold tx;rw[hy]
  rw[Rq]at Ir;have q4:=lb (n:=3) jh.h4 (by omega);apply aF;apply ar;apply aD;apply aG;refine cN 2 rfl ?_;refine ak rfl rfl (aW T.ok rfl aH (y:=y) jG rfl rfl rfl rfl rfl rfl ?_);rintro b p ys aL rfl;refine ak rfl rfl (cA T.ok (q:=4) rfl rfl rfl rfl rfl rfl (by decide) ?_);refine ak rfl rfl (bJ T.ok (4*1) rfl aL rfl rfl ?_);refine Wp 2 rfl ?_;refine cY (.int .i64 (y.y4.tdiv 3)) (t:=175) rfl (congrArg (Value.int .i64) (wr q4.1 q4.2)) ?_;refine ak rfl rfl (au qd aJ rfl rfl rfl rfl rfl (iW _ _ _ q4 (by omega)) ?_);rintro g1 _ aP rfl;replace hs:=hs.call aP;have ah:=aP.le;replace aH:=aH.mono ah;replace nJ:=nJ.trans ah;replace Cq:=Cq.mono ah;replace d_:=d_.mono ah;refine bj rfl ?_;refine cN 4 rfl ?_;refine cp (want:=true) (x:=aS y.y4 2==0) 7 aJ rfl rfl rfl rfl (.inl ⟨rfl,rfl,rfl⟩) rfl rfl rfl rfl (fun hb Q' eG=>?_) (fun g' hf=>?_)
  ·refine Wp 2 rfl ?_;refine ak rfl rfl (aW T.ok rfl aH (y:=y) jG rfl rfl rfl rfl rfl rfl ?_);rintro b p ys aL rfl;refine ak rfl rfl (cA T.ok (q:=4) rfl rfl rfl rfl rfl rfl (by decide) ?_);refine ak rfl rfl (bJ T.ok (4*1) rfl aL rfl rfl ?_);refine ak rfl rfl (au qd aJ rfl rfl rfl rfl rfl (iW _ _ _ jh.h4 (by decide)) ?_);rintro g8 _ Fm rfl;refine Wp 1 rfl ?_;apply aE;exact fun a ha=>eG _ a Fm (ha.keep (by(repeat (first|exact trivial|refine⟨rfl,?_⟩))))
  replace hs:=hs.call hf;have ah:=hf.le;replace aH:=aH.mono ah;replace nJ:=nJ.trans ah;replace Cq:=Cq.mono ah;replace d_:=d_.mono ah;apply bW;by_cases wO:aS (y.y4.tdiv 3) (gh x)≠j∧aS y.y4 2=0
  ·rw[if_pos wO]at Ir;refine aM (b:=(aS (y.y4.tdiv 3) (gh x) !=(j:Int))&&(aS y.y4 2==0)) (by simp[wO]) rfl ?_;skip;apply CH aJ rfl (Fact.eq _::Fact.eq _::Fact.eq _::Fact.eq _::Fact.eq _::Fact.eq _::(WU y)::(FX y.y5)::Fact.eq _::Fact.eq _::Fact.eq _::(Fact.rs [(⟨j,aS (y.y4.tdiv 3) (gh x),aS y.y5 120⟩:bZ)])::(P9 g (fun v Rm=>[.row 58 3 v ((hD x (gh x) j).length+1) Rm,.row 60 7 (.slice sa (gh x) sc) (gh x) cells,.obj bf (.cells [.int .i64 (made x).bB,.int .i64 (made x).bU,.slice sa (gh x) sc,.slice wa (hD x (gh x) j).length wc].toArray 28 (0,0)),.obj br (.cells [.int .i64 0,.int .i64 0,.slice none 0 0,.slice none 0 0].toArray 28 (0,0))]) ((hD x (gh x) j).length+1) (hD x (gh x) j++[(⟨j,aS (y.y4.tdiv 3) (gh x),aS y.y5 120⟩:bZ)]))::Fact.eq _::[]) 14 [(12,202),(13,203)] [] [0,1,2,3,4,5,6,7,8,9,10,11] 12 rfl (by kernel_rfl) (by kernel_rfl)
   case houts=>exact rfl
   case hsoft=>(repeat (first|exact FQ|apply FR|refine gN (qK _) ?_|refine gN (cr _) ?_|refine gN (rX _ _) ?_|refine gN (pS _) ?_|refine gN (rY _) ?_|refine gN (nZ _) ?_|refine gN (x6 _) ?_|refine gN (zI _) ?_|refine FT (by exact rfl) ?_))
   ·refine iC (nj (js:=[]) (by kernel_rfl) (by exact rfl) (by exact rfl) fun gd hf=>?_) ?_
    ·skip;apply aj
     (refine aB rfl ?_;refine aN _ T.ok rfl ?_;refine⟨_,rfl,a_.refl _,?_⟩;exact rfl)
    refine iC (nj (js:=[(0,190)]) (by kernel_rfl) (by exact rfl) (by exact rfl) fun gd hf=>?_) ?_
    ·have eJ:=hs.dr.call hf;refine ai rfl ?_;apply aj
     (refine aB rfl ?_;refine e_ T.ok 2 rfl eJ rfl rfl rfl ?_;refine⟨_,rfl,a_.refl _,?_⟩;exact rfl)
    refine iC (nj (js:=[]) (by kernel_rfl) (by exact rfl) (by exact rfl) fun gd hf=>?_) ?_
    ·skip;apply aj
     (refine aB rfl ?_;refine aN _ T.ok rfl ?_;refine⟨_,rfl,a_.refl _,?_⟩;exact rfl)
    refine iC (nj (js:=[]) (by kernel_rfl) (by exact rfl) (by exact rfl) fun gd hf=>?_) ?_
    ·skip;apply aj
     (refine aB rfl ?_;refine aN _ T.ok rfl ?_;refine⟨_,rfl,a_.refl _,?_⟩;exact rfl)
    refine iC (nj (js:=[]) (by kernel_rfl) (by exact rfl) (by exact rfl) fun gd hf=>?_) ?_
    ·skip;apply aj
     (refine aB rfl ?_;refine aN _ T.ok rfl ?_;refine⟨_,rfl,a_.refl _,?_⟩;exact rfl)
    refine iC (nj (js:=[]) (by kernel_rfl) (by exact rfl) (by exact rfl) fun gd hf=>?_) ?_
    ·skip;apply aj
     (refine aB rfl ?_;refine aN _ T.ok rfl ?_;refine⟨_,rfl,a_.refl _,?_⟩;exact rfl)
    refine iC (nj (js:=[(4,194),(5,195)]) (by kernel_rfl) (by exact rfl) (by exact rfl) fun gd hf=>?_) ?_
    ·have dG:=(G.bu _).trans hf.le;refine ai rfl ?_;refine ai rfl ?_;apply aj;refine aB rfl ?_;refine aW T.ok rfl (aH.mono dG) (y:=y) jG rfl rfl rfl rfl rfl rfl ?_;intro b p ys aL d_;exact⟨_,rfl,a_.refl _,b,p,rfl,d_▸aL⟩
    refine iC (nj (js:=[(6,196)]) (by kernel_rfl) (by exact rfl) (by exact rfl) fun gd hf=>?_) ?_
    ·skip;refine aZ fun v6 h6=>?_;apply aj;obtain⟨b,p,rfl,aL⟩:=h6;refine aB rfl ?_;refine cA T.ok (q:=5) rfl rfl rfl rfl rfl rfl (by decide) ?_;exact⟨_,rfl,a_.refl _,b,_,rfl,EP.sub aL 5 rfl⟩
    refine iC (nj (js:=[(7,197)]) (by kernel_rfl) (by exact rfl) (by exact rfl) fun gd hf=>?_) ?_
    ·skip;refine aZ fun v7 h7=>?_;apply aj;obtain⟨b,p,rfl,aL⟩:=h7;refine aB rfl ?_;refine bJ T.ok 0 rfl aL rfl rfl ?_;refine⟨_,rfl,a_.refl _,?_⟩;exact rfl
    refine iC (nj (js:=[(8,198)]) (by kernel_rfl) (by exact rfl) (by exact rfl) fun gd hf=>?_) ?_
    ·skip;refine ai rfl ?_;apply aj;refine aB rfl ?_;refine au qd aJ rfl rfl rfl rfl rfl (iW y.y5 120 _ jh.h5 (by decide)) fun g' v h1 h2=>⟨g',rfl,h1,?_⟩
     exact h2
    refine iC (nj (js:=[(2,192),(3,193),(9,199)]) (by kernel_rfl) (by exact rfl) (by exact rfl) fun gd hf=>?_) ?_
    ·skip;refine ai rfl ?_;refine ai rfl ?_;refine ai rfl ?_;apply aj;refine aB rfl ?_;refine aQ T.ok rfl (vs:=[(0,.int .i64 (j:Int)),(1,.int .i64 (aS (y.y4.tdiv 3) (gh x))),(2,.int .i64 (aS y.y5 120))]) (cells:=[.int .i64 (j:Int),.int .i64 (aS (y.y4.tdiv 3) (gh x)),.int .i64 (aS y.y5 120)]) rfl rfl rfl rfl [(0,1),(1,1),(2,1)] rfl (by kernel_rfl) ?_;refine⟨_,rfl,a_.refl _,?_⟩;exact rfl
    refine iC (nj (js:=[(10,200)]) (by kernel_rfl) (by exact rfl) (by exact rfl) fun gd hf=>?_) ?_
    ·skip;refine ai rfl ?_;apply aj;refine aB rfl ?_;refine bD T.ok rfl (St.start gd) (vs:=[(0,.agg #[.int .i64 (j:Int),.int .i64 (aS (y.y4.tdiv 3) (gh x)),.int .i64 (aS y.y5 120)])]) (cells:=[.int .i64 (j:Int),.int .i64 (aS (y.y4.tdiv 3) (gh x)),.int .i64 (aS y.y5 120)]) rfl rfl rfl rfl rfl rfl (by decide) (by decide) (by kernel_rfl) rfl ?_;intro b2 g2 nz FU;obtain⟨g3,pf,vn,qI,ny⟩:=nz.cK (α:=bZ) (xs:=[⟨j,aS (y.y4.tdiv 3) (gh x),aS y.y5 120⟩]) (i:=0) rfl ⟨_,[],by rw[List.append_nil],rfl,rfl⟩;exact⟨g3,pf,vn.nC,ny⟩
    refine iC (J9 (js:=[(1,191),(11,201)]) (by kernel_rfl) fun gd hf=>?_) ?_
    ·have eJ:=hs.dr.call hf;have dG:=(G.bu _).trans hf.le;refine ai rfl ?_;refine aZ fun v11 OP=>?_;apply aj;obtain⟨ax,cx,rfl⟩:=Rs.isSlice OP;obtain⟨_,news,CA,g_⟩:=Src.lq OP;refine⟨rfl,?_⟩;refine cd T.ok 0 rfl eJ rfl rfl rfl rfl rfl rfl rfl (by decide) rfl g_ CA.one (by show((hD x (gh x) j).length+1)*24≤_;omega) (by unfold maxLen;show(hD x (gh x) j).length+1≤_;omega) ?_;intro a' c' g8 yW vG;exact⟨g8,rfl,vG,a',c',_,rfl,yW,cG.app (CA.mono vG) ((Cq.mono dG).mono vG)⟩
    refine iC (Gb (js:=[]) (by kernel_rfl) (by exact rfl) fun gd hf=>?_) ?_
    ·skip;apply aj
     (refine aB rfl ?_;refine aN _ T.ok rfl ?_;refine⟨_,rfl,a_.refl _,?_⟩;exact rfl)
    exact J8
   intro g1 aP;refine aZ fun v12 OQ=>?_;refine ai rfl ?_;apply aj;have ah:=(G.bu _).trans aP;obtain⟨a9,c9,PC,rfl,hs,Ct⟩:=OQ;replace nJ:=nJ.trans ah;replace d_:=d_.mono ah;skip;refine bA rfl (az T.ok 2 rfl hs rfl rfl rfl rfl rfl rfl rfl rfl rfl ?_);replace hs:=hs;rintro g1 hs ah;replace nJ:=nJ.trans ah;replace Ct:=Ct.mono ah;replace d_:=d_.mono ah;have Pq:(hD x (gh x) (j+1)).length=(hD x (gh x) j).length+1:=by rw[Ir];simp
   apply aE;apply bR;apply ar;apply aA;refine Wp 3 rfl ?_;apply aE;exact fun a ha=>⟨gh x-(j+1),by omega,j+1,.slice a9 ((hD x (gh x) j).length+1) c9,PC,_,rfl,by rw[Pq];exact hs,by rw[Ir];exact Ct,nJ,by omega,rfl,ha.keep ⟨rfl,rfl,rfl,rfl,kI rfl (by rw[wr (by omega) (by omega)];omega),trivial⟩⟩
  rw[if_neg wO,List.append_nil]at Ir;refine aV (b:=(aS (y.y4.tdiv 3) (gh x) !=(j:Int))&&(aS y.y4 2==0)) (by
   cases hl:(aS (y.y4.tdiv 3) (gh x) !=(j:Int))with
   |false=>rfl
   |true=>rw[Bool.true_and];exact beq_eq_false_iff_ne.2 (fun h=>wO ⟨bne_iff_ne.1 hl,h⟩)) rfl ?_
  apply aF;apply bR;apply ar;apply aA;refine Wp 3 rfl ?_;apply aE;exact fun a ha=>⟨gh x-(j+1),by omega,j+1,.slice wa (hD x (gh x) j).length wc,Rm,_,rfl,by rw[Ir];exact hs,by rw[Ir];exact Cq,nJ,by omega,rfl,ha.keep ⟨rfl,rfl,rfl,rfl,kI rfl (by rw[wr (by omega) (by omega)];omega),trivial⟩⟩
 refine aV (b:=decide ((j:Int)<(gh x:Int))&&decide ((j:Int)<(x.length:Int))) (by
  rw[Bool.and_eq_false_iff];by_cases h:j<gh x
  ·right;exact decide_eq_false (by omega)
  left;exact decide_eq_false (by omega)) rfl ?_
 obtain rfl:j=min (gh x) x.length:=by omega
 apply bF;apply bG;apply bG;apply c_;apply ar;refine dz 1 [.o 2] hs rfl ?_;refine bA rfl (az T.ok 3 rfl hs rfl rfl rfl rfl rfl rfl rfl rfl rfl ?_);replace hs:=hs;rintro g1 hs ah;replace Cq:=Cq.mono ah;replace d_:=d_.mono ah;apply bW;obtain⟨g9,Hh,Ch,Ig,Ct⟩:=hs.cK (α:=bZ) (xs:=hD x (gh x) (min (gh x) x.length)) (i:=0) rfl Cq;replace d_:=d_.mono Ig;rw[←Hh];refine aI ?_;skip;refine kC T.ok 2 rfl Ch rfl rfl rfl (Ch.ret ?_);refine⟨sa,gh x,sc,wa,(hD x (gh x) (min (gh x) x.length)).length,wc,cells,rfl,?_,d_,Ct⟩;rw[vi];exact Ch.own 0 _ rfl
end Go.Proofs.YtgehbndkogohpaaGreatDoor
namespace Go.Proofs.YtgehbndkogohpaaGreatDoor
open Go Go.K
set_option maxRecDepth 10000
attribute [local irreducible] W WL cD bc bK bd bg bh cq ck
set_option maxHeartbeats 2000000
theorem FI{b:Nat}{p v:Value}{xs:List UInt8}{Lr:List cS}(hp:p= .pointer none∨p= .pointer (some ⟨b,0,none⟩))(hb:ma 5 v xs Lr)(c:UInt8)(hl:xs.length+1≤140737488355328)
  {E:TypeId} (hE:I' E) {g0 g:G} {L:List cS} (hs:St g0 g (.obj b (.cells [p,v].toArray E (0,0))::(Lr++L))):
  CallsIn Wd 0 Tryz.prog 51 #[.pointer (some ⟨b,0,none⟩),.int .u8 (c.toNat:Int)] g.w
   (ek g fun g' _=> ∃v' vt,ma 5 v' (xs++[c]) vt∧St g0 g' (.obj b (.cells [.pointer (some ⟨b,0,none⟩),v'].toArray E (0,0))::(vt++L))):=by
 have aq:=G.le.refl g;refine enter Tryz.func51 rfl Tryz.ntmps51 rfl ?_;refine aY rfl ?_;refine cN 1 rfl ?_;refine ak rfl rfl (du Nk aJ rfl rfl rfl rfl rfl (Av hp hE hs) ?_);clear hs;rintro g1 _ ah ⟨rfl,hs⟩;replace aq:=G.le.trans aq ah;apply bW;refine dz 6 [.o 0] hs rfl ?_;refine ak rfl rfl (bD T.ok rfl hs (vs:=[(0,.int .u8 (c.toNat:Int))]) (cells:=[.int .u8 (c.toNat:Int)]) rfl rfl rfl rfl rfl rfl (by decide) (by decide) (by kernel_rfl) rfl ?_);clear hs;rintro bl gl hs ah;replace aq:=G.le.trans aq ah;obtain⟨gz,iQ,cP,jq,aH⟩:=hs.cK (α:=UInt8) (xs:=[c]) (i:=0) rfl (cG.bytes _ [c]);have ah:=jq;rw[←iQ];replace hs:=cP;clear cP;replace aq:=G.le.trans aq ah;have hs:St g0 gz (.obj b (.cells [.pointer (some ⟨b,0,none⟩),v].toArray E (0,0))::(Lr++L)):=hs;obtain⟨_,news,CA,g_⟩:=Src.lq aH;obtain rfl:=cG.r5 CA;obtain⟨b',p',RH,zX⟩:=g_.2.resolve_left (by simp);have fr: ∀j u,(ez [c])[j]? =some u→gz.w.cell? ((⟨bl,0,none⟩:Addr).add j)=some u:=by intro j u hu;have:=zX j u hu;rw[Addr.add_lit];cases RH;exact this
 skip;refine ak rfl rfl (xc T.ok rfl hb hs.Xr rfl rfl fr (by simp) rfl rfl rfl rfl rfl rfl hl ?_);rintro v' vt g2 Vv aT ah;replace aq:=G.le.trans aq ah;obtain⟨ao,no,co,rfl⟩: ∃ao no co,v'= .slice ao no co:=by rcases Vv with⟨rfl,_⟩|⟨_,_,_,rfl,_⟩<;>exact⟨_,_,_,rfl⟩
 replace hs:=aT.TF;refine Wp 2 rfl ?_;refine bA rfl (az T.ok 0 rfl hs rfl rfl rfl rfl rfl rfl rfl rfl rfl ?_);replace hs:=hs;rintro g1 hs ah;replace aq:=G.le.trans aq ah;apply bW;refine aY rfl ?_;exact aI (aX rfl rfl (ek.intro aq ⟨_,vt,Vv,hs⟩))
theorem yM(c:UInt8): ∀l:List (List UInt8),Lib.join l [c]=dP c l
 |[]=>rfl
 |[x]=>by simp[Lib.join,dP,List.intercalate]
 |x::y::r=>by have ih:=yM c (y::r);unfold Lib.join at ih⊢;rw[show dP c (x::y::r)=x++c::dP c (y::r)from rfl,←ih];simp[List.intercalate,List.intersperse]
theorem FJ(v:Value)(l:List (List UInt8))(c:UInt8)(g:G)(hv:Rs g v (l.map yf.mk))(hn:l.length≤1000000)(hlen:(dP c l).length≤140737488355328):
  CallsIn Wd 0 Tryz.prog 228 #[v,.string (bs [c])] g.w (cF g fun _ r=>r= .string (bs (dP c l))):=by
 obtain⟨a,cc,rfl⟩:=hv.isSlice;have rP:=hv.Be;rw[List.length_map]at rP⊢;cases l with
 |nil=>
  refine kE ((Tryz.strings_Join_none a cc (bs [c]) g.w).mono ?_) fun _ _=>rfl;rintro e w' ⟨rfl,rfl⟩;exact⟨rfl,RowKit.Below.refl _ _⟩
 |cons x r=>
  obtain⟨_,news,CA,g_⟩:=Src.lq hv;obtain⟨b',p',rfl,zX⟩:=g_.2.resolve_left (by simp);have K7:news=(x::r).map fun s=>Value.string (bs s):=by
   have h: ∀(l:List (List UInt8)) (news:List Value),cG g news (l.map yf.mk)→news=l.map fun s=>Value.string (bs s):=by
    intro l
    induction l with
    |nil=>intro news h;exact h
    |cons s l ih=>rintro news ⟨c1,c2,e,h1,h2⟩;rw[e,show c1=[Value.string (bs s)]from h1,ih c2 h2];rfl
   exact h _ _ CA
  have hj:Lib.join (((x::r).map bs).map (·.data.toList)) (bs [c]).data.toList=dP c (x::r):=by
   rw[List.map_map,←yM];congr 1;conv=>rhs;rw[←List.map_id (x::r)]
   exact List.map_congr_left fun s _=>rfl
  have Qz: ∀(o:Option (List UInt8)) {y:ByteArray},o.map bs=some y→o.map (fun s=>Value.string (bs s))=some (.string y):=by
   intro o y h;cases o with
   |none=>cases h
   |some val=>obtain rfl:=Option.some.inj h;rfl
  have nY:=Tryz.strings_Join b' p' cc ((x::r).map bs) (bs [c]) g.w (by intro j y hy;have:=zX j (.string y) (by rw[K7,List.getElem?_map];rw[List.getElem?_map]at hy;exact Qz _ hy);exact this) (by have:=zX 0 (.string (bs x)) (by rw[K7];rfl);simp only[World.cell?]at this;apply Classical.byContradiction;intro Hj;rw[Array.getElem?_eq_none (by omega)]at this;cases this) (by rw[List.length_map];omega) (by rw[List.length_map];exact rP.2.1) (by rw[hj];exact hlen);rw[List.length_map,hj]at nY;exact kE nY fun _ _=>rfl
end Go.Proofs.YtgehbndkogohpaaGreatDoor
namespace Go.Proofs.YtgehbndkogohpaaGreatDoor
open Go Go.K
set_option maxRecDepth 10000
attribute [local irreducible] W WL cD bc bK bd bg bh cq ck
set_option maxHeartbeats 2000000
theorem DB{n:Int}(h:kK n):Lib.itoa n=cz n:=by
 obtain⟨m,rfl⟩: ∃m:Nat,n=m:=⟨n.toNat,by have:=h.1;omega⟩
 rw[u3];rfl
theorem l8(n:Int)(g:G)(hn:kK n)(hF:jv g):CallsIn Wd 0 Tryz.prog 49 #[.int .i64 n] g.w (cF g fun _ r=>r= .string (bs (cz n))):=by rw[←DB hn];exact GK n g ⟨by have:=hn.1;omega,by have:=hn.2;omega⟩ hF
theorem D5(a b:Int)(g:G)(ha:kK a)(hb:kK b)(hF:jv g):CallsIn Wd 0 Tryz.prog 48 #[.int .i64 a,.int .i64 b] g.w (cF g fun _ r=>r= .string (bs (iV a b))):=by have hs:=St.start g;have aq:=G.le.refl g;have l1:=dF ha;have l2:=dF hb;refine enter Tryz.func48 rfl Tryz.ntmps48 rfl ?_;refine aY rfl ?_;refine cN 1 rfl ?_;refine ak rfl rfl (au M3 aJ rfl rfl rfl rfl rfl (l8 a _ ha hF) ?_);rintro g1 _ aP rfl;replace hs:=hs.call aP;have ah:=aP.le;replace aq:=G.le.trans aq ah;refine ak rfl rfl (ct (p:=cz a) (q:=[46,46]) rfl rfl rfl (by simp only[List.length_cons,List.length_nil];omega) ?_);refine Wp 1 rfl ?_;refine ak rfl rfl (au M3 aJ rfl rfl rfl rfl rfl (l8 b _ hb (hF.mono aq)) ?_);rintro g1 _ aP rfl;replace hs:=hs.call aP;have ah:=aP.le;refine ak rfl rfl (ct (p:=cz a++[46,46]) (q:=cz b) rfl rfl rfl (by simp only[List.length_append,List.length_cons,List.length_nil];omega) ?_);refine bj rfl ?_;refine aI ?_;skip;refine aX rfl rfl (hs.ret ?_);unfold iV;simp
theorem Ee(n:Int)(g:G)(hn:kK n)(hF:jv g):CallsIn Wd 0 Tryz.prog 128 #[.int .i64 n] g.w (cF g fun _ r=>r= .string (bs (cz n))):=by have hs:=St.start g;have aq:=G.le.refl g;refine enter Tryz.func128 rfl Tryz.ntmps128 rfl ?_;refine aY rfl ?_;refine cN 1 rfl ?_;refine ak rfl rfl (au M3 aJ rfl rfl rfl rfl rfl (l8 n _ hn hF) ?_);rintro g1 _ aP rfl;replace hs:=hs.call aP;have ah:=aP.le;refine bj rfl ?_;exact aI (aX rfl rfl (hs.ret rfl))
theorem Ef(v:Value)(l:List Int)(g:G)(hl:Rs g v l)(hb: ∀n∈l,kK n)(hn:l.length≤1000)(hF:jv g):
  CallsIn Wd 0 Tryz.prog 127 #[v,.func (.func 128) #[] #[]] g.w (cF g fun _ r=>r= .string (bs (dP 44 (l.map cz)))):=by
 obtain⟨pa,pc,rfl⟩:=hl.isSlice;have hs:=St.start g;refine enter Tryz.func127 rfl Tryz.ntmps127 rfl ?_;replace hs:=hs.iN 9 1 none;refine aY rfl ?_;refine aY rfl ?_;apply aD;refine aY rfl ?_;apply aG;refine bM (fun m a' w=> ∃(k:Nat) (ra:Option Addr) (rc:Nat) (g':G),w=g'.w∧St g g' [.row 9 1 (.slice ra k rc) k ((l.take k).map fun n=>Value.string (bs (cz n)))]∧G.le g g'∧k≤l.length∧m=l.length-k∧
  Fr 23 [] [(1,.func (.func 128) #[] #[]),(5,.slice ra k rc),(8,.slice pa l.length pc),(9,.int .i64 l.length),(10,.int .i64 k)] a') l.length (fun a' ha=>⟨0,none,0,g,rfl,hs,G.le.refl _,Nat.zero_le _,rfl,ha.keep (by(repeat (first|exact trivial|refine⟨rfl,?_⟩)))⟩) ?_
 clear hs;rintro m a' _ ⟨k,ra,rc,g',rfl,hs,aq,hk,rfl,eF⟩;have aH:=hl.mono aq;revert a';apply cI;refine aY rfl ?_;apply aD;by_cases bC:k<l.length
 ·refine aM (b:=decide ((k:Int)<(l.length:Int))) (by simp;omega) rfl ?_;apply aF;apply ar;apply aD;apply aG;apply cM;refine ak rfl rfl (aW T.ok rfl aH (y:=l[k]) (by simp[dS,bC]) rfl rfl rfl rfl rfl rfl ?_);rintro b p ys aL rfl;refine Wm 1 [.e aL 0] (St.start _) rfl ?_;refine bj rfl ?_;apply aA;refine Wp 3 rfl ?_;refine ak rfl rfl (au IZ aJ rfl rfl rfl rfl rfl (Ee l[k] _ (hb _ (List.getElem_mem bC)) (hF.mono aq)) ?_);rintro g1 _ aP rfl;replace hs:=hs.call aP;have ah:=aP.le;replace aq:=G.le.trans aq ah;refine ak rfl rfl (bD T.ok rfl hs (vs:=[(0,.string (bs (cz l[k])))]) (cells:=[.string (bs (cz l[k]))]) rfl rfl rfl rfl rfl rfl (by decide) (by decide) (by kernel_rfl) rfl ?_);rintro ZE ZF hs ah;replace aq:=aq.trans ah;skip;refine ak rfl rfl (cd T.ok 1 rfl hs rfl rfl rfl rfl rfl rfl rfl (by decide) rfl (Src.fL (hs.own 0 _ rfl).1).2 (by simp[Value.oneCell']) (by show(k+1)*16≤_;omega) (by unfold maxLen;show k+1≤_;omega) ?_);rintro a9 c9 g9 hs ah;replace aq:=aq.trans ah;replace hs:=hs.drop 0;refine Wp 1 rfl ?_;apply aE;apply bR;apply ar;apply aA;refine Wp 2 rfl ?_;apply aE;refine fun a ha=>⟨l.length-(k+1),by omega,k+1,a9,c9,g9,rfl,?_,aq,by omega,rfl,ha.keep ⟨rfl,rfl,rfl,rfl,kI rfl (by rw[wr (by omega) (by omega)];omega),trivial⟩⟩
  rw[List.take_add_one,List.getElem?_eq_getElem bC,List.map_append];exact hs
 refine aV (b:=decide ((k:Int)<(l.length:Int))) (by simp;omega) rfl ?_;obtain rfl:k=l.length:=by omega
 rw[List.take_length]at hs;have e1:(l.map fun n=>Value.string (bs (cz n)))=(l.map cz).map fun s=>Value.string (bs s):=by rw[List.map_map];rfl
 rw[e1]at hs;obtain⟨gy,QM,Yd,Rr,ny⟩:=hs.cK (α:=yf) (xs:=(l.map cz).map yf.mk) (i:=0) rfl (cG.strs _ _);replace hs:=Yd;rw[←QM];have Fy:=p_ (c:=44) (l:=l.map cz) (k:=7) fun x hx=>by obtain⟨n,hn,rfl⟩:=List.mem_map.1 hx;exact dF (hb n hn)
 rw[List.length_map]at Fy;apply bF;apply bG;apply bG;apply c_;apply ar;refine cN 1 rfl ?_;refine ak rfl rfl (au I0 aJ rfl rfl rfl rfl rfl (FJ _ (l.map cz) 44 _ ny (by rw[List.length_map];omega) (by omega)) ?_);rintro g1 _ aP rfl;replace hs:=hs.call aP;have ah:=aP.le;refine bj rfl ?_;refine aI ?_;skip;exact aX rfl rfl (hs.ret rfl)
theorem Az(v:Value)(l:List Int)(g:G)(hl:Rs g v l)(hb: ∀n∈l,kK n)(hn:l.length≤1000)(hF:jv g):
  CallsIn Wd 0 Tryz.prog 50 #[v] g.w (cF g fun _ r=>r= .string (bs (fq l))):=by
 have Eg:=hl;obtain⟨pa,pc,rfl⟩:=hl.isSlice;have hs:=St.start g;have aq:=G.le.refl g;refine enter Tryz.func50 rfl Tryz.ntmps50 rfl ?_;refine aY rfl ?_;apply aD;refine aY rfl ?_;by_cases h0:l=[]
 ·refine aM (b:=_) ?_ rfl ?_
  ·subst h0;rfl
  refine aY rfl ?_;refine aI ?_;apply eD;refine aX rfl rfl (hs.ret ?_);unfold fq;rw[if_pos h0];rfl
 refine aV (b:=_) ?_ rfl ?_
 ·simp[h0]
 apply aF;apply ar;refine cN 1 rfl ?_;refine ak rfl rfl (au IY aJ rfl rfl rfl rfl rfl (Ef _ l _ Eg hb hn hF) ?_);rintro g1 _ aP rfl;replace hs:=hs.call aP;have ah:=aP.le;refine bj rfl ?_;refine aI ?_;skip;refine aX rfl rfl (hs.ret ?_);unfold fq;rw[if_neg h0]
end Go.Proofs.YtgehbndkogohpaaGreatDoor
