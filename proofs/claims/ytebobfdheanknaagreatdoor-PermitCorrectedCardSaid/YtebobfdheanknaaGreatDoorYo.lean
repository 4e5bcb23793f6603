/- Parts of the proof, from: Which facts are in effect, plain: what facts of one kind change, and what those of other things do not. -/
import Derived.Test.YtebobfdheanknaaGreatDoorYn
import Derived.JoinedOf
namespace Go.Proofs.YtebobfdheanknaaGreatDoor
open Go Go.K
set_option maxRecDepth 10000
attribute [local irreducible] W WL cT bu bX bA bB bD cW cG
theorem Ai{k:Int}(h:1≤k∧k≤11):(fO k).head? =some (UInt8.ofNat (2*k).toNat):=by
 have:k=1∨k=2∨k=3∨k=4∨k=5∨k=6∨k=7∨k=8∨k=9∨k=10∨k=11:=by omega
 rcases this with e|e|e|e|e|e|e|e|e|e|e<;>subst e<;>decide+kernel
theorem uF{f:bc}(h:fp f≠[]):fp f=fO f.kind++sD f ((dM f.kind).elim [] (·.key)):=by
 unfold fp;rw[if_pos (z_ h)]
theorem yx{f:bc}(h:fm f=true):1≤f.kind∧f.kind≤11:=by
 obtain⟨s,hs,_⟩:=kQ h
 obtain⟨_,_,_,_,_,_,h1,h2⟩:=mO hs
 exact⟨h1,h2⟩
theorem yy{f h:bc}(hf:fp f≠[])(e:fp f=fp h):f.kind=h.kind:=by
 have hh:fp h≠[]:=fun e2=>hf (e.trans e2)
 have k1:=yx (z_ hf)
 have k2:=yx (z_ hh)
 have h1:=Ai k1
 have h2:=Ai k2
 have a1:(fp f).head? =some (UInt8.ofNat (2*f.kind).toNat):=by
  rw[uF hf,List.head?_append,h1];rfl
 have a2:(fp h).head? =some (UInt8.ofNat (2*h.kind).toNat):=by
  rw[uF hh,List.head?_append,h2];rfl
 rw[e,a2]at a1
 have:=congrArg UInt8.toNat (Option.some.inj a1)
 simp only[UInt8.toNat_ofNat']at this
 omega
theorem y'{day:Int}{l:List bc}: ∀{p},p∈jU day l→p.2∈l:=by
 refine xJ (P:=fun m l=> ∀{p},p∈m→p.2∈l) (fun h=>absurd h List.not_mem_nil) (fun m l f ih p hp=> ?_) l
 rcases AL day m f with e|⟨_,e⟩<;>rw[e]at hp
 ·exact List.mem_append_left _ (ih hp)
 ·rcases xH hp with rfl|hp
  ·exact List.mem_append_right _ (List.mem_singleton_self _)
  ·exact List.mem_append_left _ (ih hp)
theorem AA{a:List UInt8}: ∀{m:KF},(∀p∈m,p.1≠a)→zt a m=none
 |[],_=>rfl
 |(k,v)::r,h=>by
  unfold zt
  rw[if_neg fun e=>h _ (List.mem_cons_self ..) e.symm]
  exact AA fun p hp=>h p (List.mem_cons_of_mem _ hp)
theorem AB{a:List UInt8}{x:bc}: ∀{m:KF},(∀p∈m,p.1≠a)→mE a x m=m++[(a,x)]
 |[],_=>rfl
 |(k,v)::r,h=>by
  unfold mE
  rw[if_neg fun e=>h _ (List.mem_cons_self ..) e.symm,AB fun p hp=>h p (List.mem_cons_of_mem _ hp)]
  rfl
theorem AH{day:Int}{l:List bc}{f:bc}(hk:fp f≠[])(hd:f.day≤day)(h: ∀x∈l,fp x≠fp f):jU day (l++[f])=jU day l++[(fp f,f)]:=by
 have hn: ∀p∈jU day l,p.1≠fp f:=fun p hp=>by
  rw[((AM day l).2 p hp).1];exact h _ (y' hp)
 rw[C_]
 unfold iD
 rw[if_neg fun h=>h.elim hk fun e=>by omega,AA hn,if_pos rfl,AB hn]
theorem AD{a:List UInt8}{x:bc}{i:Nat}(hx:x.kind≠(i:Int)+1): ∀{m:KF},(∀p∈m,p.1=a→p.2.kind=x.kind)→gH (mE a x m) i=gH m i
 |[],_=>by simp[mE,gH,hx]
 |(k,v)::r,h=>by
  unfold mE
  split
  ·rename_i e
   have:=h _ (List.mem_cons_self ..) e.symm
   simp only at this
   simp[gH,hx,this]
  ·have ih:=AD (m:=r) hx fun p hp=>h p (List.mem_cons_of_mem _ hp)
   have e1:=Db [(k,v)] (mE a x r) i
   have e2:=Db [(k,v)] r i
   simp only[List.cons_append,List.nil_append]at e1 e2
   rw[e1,e2,ih]
theorem Ky{day:Int}{l:List bc}{f:bc}{i:Nat}(hi:f.kind≠(i:Int)+1):gH (jU day (l++[f])) i=gH (jU day l) i:=by
 rw[C_]
 rcases AL day (jU day l) f with e|⟨hk,e⟩<;>rw[e]
 refine AD hi fun p hp e2=> ?_
 obtain⟨e3,e4⟩:=(AM day l).2 p hp
 exact yy (by rw[←e3];exact e4) (by rw[←e3];exact e2)
theorem jE{day:Int}{l:List bc}{f:bc}{i:Nat}(hi:f.kind≠(i:Int)+1):(ofM (l++[f]) day).ls i=(ofM l day).ls i:=by
 show dK _ (gH _ i)=dK _ (gH _ i);rw[Ky hi]
theorem AI{day:Int}{l:List bc}{i:Nat}(h: ∀f∈l,f.kind≠(i:Int)+1):gH (jU day l) i=[]:=by
 refine List.eq_nil_iff_forall_not_mem.2 fun f hf=> ?_
 obtain⟨k,hk,e⟩:=sG hf
 exact h f (y' hk) e
theorem UA{day:Int}{l:List bc}{f:bc}{i:Nat}(hk:fp f≠[])(hd:f.day≤day)(h: ∀x∈l,fp x≠fp f)(hi:f.kind=(i:Int)+1)(hg:f.gone=false):gH (jU day (l++[f])) i=gH (jU day l) i++[f]:=by
 rw[AH hk hd h,Db]
 congr 1
 simp[gH,hi,hg]
end Go.Proofs.YtebobfdheanknaaGreatDoor
namespace Go.Proofs.YtebobfdheanknaaGreatDoor
open Go Go.K
set_option maxRecDepth 10000
attribute [local irreducible] W WL cT bu bX bA bB bD cW cG
def RO(f:bV)(waf idn time:Int)(r:List bc):Prop:=∀i (hi:i<r.length),∃c,j3 f (r.take i)≠[]∧r[i]=Em f waf idn time c (r.take i)
theorem RO.snoc{f:bV}{waf idn time c:Int}{r:List bc}(h:RO f waf idn time r)(fu:j3 f r≠[]):RO f waf idn time (r++[Em f waf idn time c r]):=by
 intro i hi
 rw[List.length_append,List.length_singleton]at hi
 by_cases bh:i<r.length
 ·obtain⟨d,h1,h2⟩:=h i bh
  refine⟨d,?_,?_⟩
  ·rw[List.take_append_of_le_length (by omega)];exact h1
  ·rw[List.getElem_append_left bh,List.take_append_of_le_length (by omega)];exact h2
 ·obtain rfl:i=r.length:=by omega
  refine⟨c,?_,?_⟩
  ·rw[List.take_left];exact fu
  ·rw[List.getElem_append_right (Nat.le_refl _),List.take_left];simp
theorem AE(f:bV)(waf idn time:Int): ∀(cs:List Int) (n:Nat) (out:List bc),RO f waf idn time out→RO f waf idn time (uU f waf idn time cs n out)
 |[],_,_,h=>h
 |_::_,0,_,h=>h
 |c::cs,n+1,out,h=>by
  rw[uU]
  split
  ·exact h
  ·rename_i fu
   exact AE f waf idn time cs n _ (h.snoc fu)
theorem RO.at{f:bV}{waf idn time:Int}{r:List bc}(h:RO f waf idn time r){i:Nat}(hi:i<r.length):r[i].kind=1∧r[i].idn=idn+i∧r[i].waf=waf∧r[i].time=time+10*i:=by
 obtain⟨c,_,e⟩:=h i hi
 have hl:(r.take i).length=i:=by rw[List.length_take];omega
 rw[e]
 unfold Em yn
 rw[hl]
 exact⟨rfl,rfl,rfl,rfl⟩
def Uo(x:bc):Prop:=(x.kind=5∧x.prod=1)∨(x.kind=4∧x.prod=1∧1≤x.waf∧x.waf≤3)∨x.kind=6∨(x.kind=1∧500≤x.idn∧x.idn<508)
theorem UT(t:List UInt8): ∀x∈Eo t,Uo x:=by
 intro x hx
 unfold Eo Cb at hx
 rcases List.mem_append.1 hx with hx|hx
 ·rcases List.mem_cons.1 hx with rfl|hx
  ·exact .inl ⟨rfl,rfl⟩
  ·obtain⟨i,hi,rfl⟩:=List.mem_map.1 hx
   have:=List.mem_range.1 hi
   refine .inr (.inl ⟨rfl,rfl,?_,?_⟩)
   ·show(1:Int)≤((i+1:Nat):Int);omega
   ·show((i+1:Nat):Int)≤3;omega
 ·obtain⟨i,_,rfl⟩:=List.mem_map.1 hx
  exact .inr (.inr (.inl rfl))
end Go.Proofs.YtebobfdheanknaaGreatDoor
namespace Go.Proofs.YtebobfdheanknaaGreatDoor
open Go Go.K
set_option maxRecDepth 10000
attribute [local irreducible] W WL cT bu bX bA bB bD cW cG
def fC(idn ver:Int)(gone:Bool)(time til waf tool step rcp:Int):bc:=⟨1,idn,ver,0,gone,time,til,waf,0,0,0,tool,0,step,rcp,1,0,0,[]⟩
theorem FQ{x:jD}{r:List jD}{g:bc}(h: ¬(g.num x.at_<x.lo||x.hi<g.num x.at_)):lV (x::r) g=lV r (g.put x.at_ 0):=by rw[lV];exact if_neg h
theorem k6{idn ver:Int}{gone:Bool}{time til waf tool step rcp:Int}(h1:1≤idn∧idn≤1000000)(h2:1≤ver∧ver≤1000000)(h3:0≤time∧time≤til∧til≤1000000)(h4:1≤waf∧waf≤1000000)(h5:0≤tool∧tool≤59)(h6:0≤step∧step≤39)(h7:1≤rcp∧rcp≤1000000):
  fm (fC idn ver gone time til waf tool step rcp)=true:=by
 have e1:dM (fC idn ver gone time til waf tool step rcp).kind=some (n3 0):=rfl
 unfold fm
 rw[e1]
 have e2:o7 (n3 0).rest (fC idn ver gone time til waf tool step rcp)=true:=decide_eq_true h3.2.1
 have e3:lV (n3 0).fields (fC idn ver gone time til waf tool step rcp)=some (ow (fC idn ver gone time til waf tool step rcp)):=by
  have e:(n3 0).fields=lT++[eD 7]++eU++[⟨13,0,39⟩]++rM++gG++[⟨16,-10000000,10000000⟩]:=rfl
  rw[e]
  simp only[lT,eU,rM,gG,eD,ez,List.cons_append,List.nil_append]
  repeat rw[FQ (by simp[fC,bc.num,bc.put];try omega)]
  rfl
 simp only[e2,e3]
 simp[fC,n3,lU,ow,gF]
 exact⟨decide_eq_false (by omega),decide_eq_false (by omega)⟩
def ct(ver:Int)(gone:Bool)(time:Int):bc:={gF with kind:=3,idn:=800,ver:=ver,gone:=gone,time:=time,waf:=1,oth:=2}
theorem k7{ver:Int}{gone:Bool}{time:Int}(h2:1≤ver∧ver≤1000000)(h3:0≤time∧time≤1000000):fm (ct ver gone time)=true:=by
 have e1:dM (ct ver gone time).kind=some (n3 2):=rfl
 unfold fm
 rw[e1]
 have e2:o7 (n3 2).rest (ct ver gone time)=true:=rfl
 have e3:lV (n3 2).fields (ct ver gone time)=some (ow (ct ver gone time)):=by
  have e:(n3 2).fields=lT++[eD 7,eD 8,ez]:=rfl
  rw[e]
  simp only[lT,eD,ez,List.cons_append,List.nil_append]
  repeat rw[FQ (by simp[ct,bc.num,bc.put,gF];try omega)]
  rfl
 simp only[e2,e3]
 simp[ct,n3,lU,ow,gF]
 exact⟨decide_eq_false (by omega),decide_eq_false (by omega)⟩
theorem AG{f:bc}(h:fm f=true):fp f=fO f.kind++sD f ((dM f.kind).elim [] (·.key)):=by unfold fp;rw[if_pos h]
theorem jz{f:bc}(h:fm f=true):fp f≠[]:=by
 have k:=yx h
 rw[AG h]
 intro e
 have h1:=Ai k
 rw[(List.append_eq_nil_iff.1 e).1]at h1
 cases h1
theorem rN{idn ver:Int}{gone:Bool}{time til waf tool step rcp:Int}(h:fm (fC idn ver gone time til waf tool step rcp)=true):fp (fC idn ver gone time til waf tool step rcp)=2::fO idn:=by
 rw[AG h]
 show fO 1++(fO idn++[])=_
 rw[show fO 1=[2]from by decide+kernel,List.append_nil];rfl
theorem GD{a:List UInt8}{x:bc}: ∀{m:KF},(∀p∈m,p.1≠a)→zt a (m++[(a,x)])=some x
 |[],_=>if_pos rfl
 |(k,v)::r,h=>by
  show(if a=k then some v else zt a (r++[(a,x)]))=_
  rw[if_neg fun e=>h _ (List.mem_cons_self ..) e.symm]
  exact GD fun p hp=>h p (List.mem_cons_of_mem _ hp)
theorem zf{day:Int}{l:List bc}{f h:bc}(hf:fm f=true)(hh:fm h=true)(hk:fp h=fp f)(hv:h.ver<f.ver)(hd:f.day≤day)(hn: ∀x∈l,fp x≠fp f):jU day (l++[f,h])=jU day l++[(fp f,f)]:=by
 have e1:=AH (day:=day) (jz hf) hd hn
 rw[show l++[f,h]=(l++[f])++[h]from by simp,C_,e1]
 unfold iD
 split
 ·rfl
 ·rw[hk,GD fun p hp=>by rw[((AM day l).2 p hp).1];exact hn _ (y' hp)]
  have:oa h f=false:=by
   unfold oa
   have a1:(lh h).2=0:=by unfold lh;rw[if_pos hh]
   have a2:(lh f).2=0:=by unfold lh;rw[if_pos hf]
   rw[if_neg (by rw[a1,a2,hk];simp),if_pos (by omega)]
   exact decide_eq_false (by omega)
  simp[this]
theorem Js{day:Int}{l:List bc}{f h p q:bc}(hf:fm f=true)(hh:fm h=true)(hk:fp h=fp f)(hv:h.ver<f.ver)(hd:f.day≤day)(hn: ∀x∈l,fp x≠fp f)(hg:f.gone=true)
  (hp:fm p=true) (hq:fm q=true) (CX:fp q=fp p) (Sk:q.ver<p.ver) (T7:p.day≤day) (C3: ∀x∈l,fp x≠fp p) (Xf:fp f≠fp p) (Xm:p.gone=true):ofM (l++[f,h,p,q]) day=ofM l day:=by
 have e:jU day (l++[f,h,p,q])=jU day l++[(fp f,f)]++[(fp p,p)]:=by
  rw[show l++[f,h,p,q]=(l++[f,h])++[p,q]from by simp,zf hp hq CX Sk T7 (fun x hx=> ?_),zf hf hh hk hv hd hn]
  rcases List.mem_append.1 hx with hx|hx
  ·exact C3 x hx
  ·simp only[List.mem_cons,List.not_mem_nil,or_false]at hx
   rcases hx with rfl|rfl
   ·exact Xf
   ·rw[hk];exact Xf
 unfold ofM
 congr 1
 funext i
 congr 1
 rw[e,Db,Db]
 simp[gH,hg,Xm]
theorem NO{day:Int}{l:List bc}: ∀(r:List bc),(∀x∈r,fp x≠[]∧x.day≤day)→r.Pairwise (fun x y=>fp x≠fp y)→(∀x∈l,∀y∈r,fp x≠fp y)→jU day (l++r)=jU day l++r.map fun x=>(fp x,x):=by
 intro r
 suffices hh: ∀(n:Nat) (r:List bc),r.length=n→(∀x∈r,fp x≠[]∧x.day≤day)→r.Pairwise (fun x y=>fp x≠fp y)→(∀x∈l,∀y∈r,fp x≠fp y)→jU day (l++r)=jU day l++r.map fun x=>(fp x,x)from hh _ r rfl
 intro n
 induction n with
 |zero=>intro r hr _ _ _;obtain rfl:=List.eq_nil_of_length_eq_zero hr;simp
 |succ n ih=>
  intro r hr h1 h2 h3
  rcases List.eq_nil_or_concat r with rfl|⟨r,x,rfl⟩
  ·cases hr
  rw[List.concat_eq_append]at*
  rw[List.length_append,List.length_singleton]at hr
  rw[List.pairwise_append]at h2
  rw[←List.append_assoc,AH (h1 x (by simp)).1 (h1 x (by simp)).2,ih r (by omega) (fun y hy=>h1 y (List.mem_append_left _ hy)) h2.1 (fun y hy z hz=>h3 y hy z (List.mem_append_left _ hz))]
  ·simp
  ·intro y hy
   rcases List.mem_append.1 hy with hy|hy
   ·exact h3 y hy x (by simp)
   ·exact h2.2.2 y hy x (by simp)
end Go.Proofs.YtebobfdheanknaaGreatDoor
namespace Go.Proofs.YtebobfdheanknaaGreatDoor
open Go Go.K
set_option maxRecDepth 10000
attribute [local irreducible] W WL cT bu bX bA bB bD cW cG
theorem od{lo hi:Int}: ∀{p:Int} {l:List Int},kU lo hi p l=true→ ∀n∈l,lo≤n∧n≤hi
 |_,[],_,n,hn=>absurd hn List.not_mem_nil
 |p,m::r,h,n,hn=>by
  simp only[kU,within,Bool.and_eq_true,decide_eq_true_eq]at h
  rcases List.mem_cons.1 hn with rfl|hn
  ·exact h.1.1
  ·exact od h.2 n hn
theorem KU{lo hi:Int}{l:List Int}(h:ascending l lo hi=true): ∀n∈l,lo≤n∧n≤hi:=by
 cases l with
 |nil=>exact fun n hn=>absurd hn List.not_mem_nil
 |cons m r=>
  simp only[ascending,within,Bool.and_eq_true,decide_eq_true_eq]at h
  intro n hn
  rcases List.mem_cons.1 hn with rfl|hn
  ·exact h.1
  ·exact od h.2 n hn
theorem GI{f:bV}(h:valid f=true){n:Int}{s:Step}(hs:dA f.steps n=some s):0≤n∧n≤39∧(1≤s.dD∧s.dD≤1000000)∧(∀t∈s.dB,0≤t∧t≤59):=by
 obtain⟨h0,_,h2⟩:=qS hs
 have bh:=(List.getElem?_eq_some_iff.1 h2).1
 simp only[valid,within,Bool.and_eq_true,decide_eq_true_eq]at h
 have hr:=List.all_eq_true.1 h.1.2 s (List.mem_of_getElem? h2)
 have P_:=h.1.1.1.2.2
 simp only[cg,within,Bool.and_eq_true,decide_eq_true_eq]at hr
 refine⟨h0,by omega,hr.1.1.1.1.1.2,KU hr.1.1.1.1.2⟩
theorem SJ{f:bV}{waf idn time:Int}{r:List bc}(hf:O0 f)(hv:valid f=true)(hc:RO f waf idn time r){i:Nat}(hi:i<r.length)(ht:0≤time∧time≤1000)(Vb:i≤1000):
  ∃tool step rcp,r[i]=fC (idn+i) 1 false (time+10*i) (time+10*i+5) waf tool step rcp∧(0≤tool∧tool≤59)∧(0≤step∧step≤39)∧(1≤rcp∧rcp≤1000000):=by
 obtain⟨c,fu,e⟩:=hc i hi
 have hl:(r.take i).length=i:=by rw[List.length_take];omega
 obtain⟨s,tool,_,dm,Wt,hp⟩:=Eu hf c _ fu
 obtain⟨h1,h2,h3,h4⟩:=GI hv dm
 refine⟨tool,_,s.dD,?_,h4 _ (List.mem_of_getElem? Wt),⟨h1,h2⟩,h3⟩
 rw[e,hp,hl]
 show(⟨1,_,1,0,false,_,IntKind.i64.wrap _,_,0,0,0,_,0,_,_,1,0,0,[]⟩:bc)=_
 rw[wr (by omega) (by omega)]
 rfl
theorem O1{f:bV}{waf idn time:Int}{r:List bc}(hf:O0 f)(hv:valid f=true)(hc:RO f waf idn time r)(hw:1≤waf∧waf≤1000000)(hn:1≤idn∧idn≤100000)(ht:0≤time∧time≤1000){i:Nat}(hi:i<r.length)(Vb:i≤1000):
  fm r[i]=true∧r[i].kind=1∧r[i].day=0∧r[i].gone=false∧r[i].idn=idn+i∧r[i].waf=waf∧r[i].time=time+10*i∧fp r[i]=2::fO (idn+i):=by
 obtain⟨tool,step,rcp,e,h1,h2,h3⟩:=SJ hf hv hc hi ht Vb
 have RP:fm r[i]=true:=by rw[e];exact k6 (by omega) (by omega) (by omega) hw h1 h2 h3
 refine⟨RP,?_⟩
 rw[e]at RP⊢
 exact⟨rfl,rfl,rfl,rfl,rfl,rfl,rN RP⟩
structure XC(F S:List bc):Prop where
 f: ∀i (hi:i<F.length),i<6∧fm F[i]=true∧F[i].kind=1∧F[i].day=0∧F[i].gone=false∧F[i].idn=500+i∧F[i].waf=1∧F[i].time=10+10*i∧fp F[i]=2::fO (500+i)
 s: ∀i (hi:i<S.length),i<6∧fm S[i]=true∧S[i].kind=1∧S[i].day=0∧S[i].gone=false∧S[i].idn=600+i∧S[i].waf=2∧S[i].time=12+10*i∧fp S[i]=2::fO (600+i)
theorem SX{f:bV}(hf:O0 f)(hv:valid f=true)(cs ds:List Int):XC (uU f 1 500 10 cs 6 []) (uU f 2 600 12 ds 6 []):=by
 have h0: ∀waf idn time,RO f waf idn time []:=fun _ _ _ i hi=>absurd hi (Nat.not_lt_zero _)
 refine⟨fun i hi=> ?_,fun i hi=> ?_⟩
 ·have hl:=yk f 1 500 10 cs 6 []
  simp only[List.length_nil]at hl
  exact⟨by omega,O1 hf hv (AE f 1 500 10 cs 6 [] (h0 _ _ _)) (by omega) (by omega) (by omega) hi (by omega)⟩
 ·have hl:=yk f 2 600 12 ds 6 []
  simp only[List.length_nil]at hl
  exact⟨by omega,O1 hf hv (AE f 2 600 12 ds 6 [] (h0 _ _ _)) (by omega) (by omega) (by omega) hi (by omega)⟩
def Xz(k:Nat):Int:=if k<6 then 500+k else 594+k
theorem SY: ∀i,i<12→ ∀j,j<12→i≠j→fO (Xz i)≠fO (Xz j):=by decide+kernel
theorem Up: ∀i,i<12→fO (Xz i)≠fO 700:=by decide+kernel
theorem XC.key{F S:List bc}(h:XC F S){x:bc}(hx:x∈F++S): ∃k,k<12∧fp x=2::fO (Xz k)∧fm x=true∧x.kind=1∧x.day=0∧x.gone=false∧((x.waf=1∧x.idn<600)∨(x.waf=2∧600≤x.idn))∧0≤x.time∧x.time≤100:=by
 rcases List.mem_append.1 hx with hx|hx
 ·obtain⟨i,hi,rfl⟩:=List.mem_iff_getElem.1 hx
  obtain⟨h1,h2,h3,h4,h5,h6,h7,h8,h9⟩:=h.f i hi
  exact⟨i,by omega,by rw[h9,Xz,if_pos h1],h2,h3,h4,h5,.inl ⟨h7,by omega⟩,by omega,by omega⟩
 ·obtain⟨i,hi,rfl⟩:=List.mem_iff_getElem.1 hx
  obtain⟨h1,h2,h3,h4,h5,h6,h7,h8,h9⟩:=h.s i hi
  refine⟨i+6,by omega,?_,h2,h3,h4,h5,.inr ⟨h7,by omega⟩,by omega,by omega⟩
  rw[h9,Xz,if_neg (by omega)]
  congr 2;omega
theorem XC.pair{F S:List bc}(h:XC F S):(F++S).Pairwise fun x y=>fp x≠fp y:=by
 rw[List.pairwise_iff_getElem]
 have hk: ∀i (hi:i<(F++S).length),∃k,k<12∧fp (F++S)[i]=2::fO (Xz k)∧k=if i<F.length then i else i-F.length+6:=by
  intro i hi
  by_cases bh:i<F.length
  ·obtain⟨h1,_,_,_,_,_,_,_,h9⟩:=h.f i bh
   refine⟨i,by omega,?_,(if_pos bh).symm⟩
   rw[List.getElem_append_left bh,h9,Xz,if_pos h1]
  ·have hj:i-F.length<S.length:=by rw[List.length_append]at hi;omega
   obtain⟨h1,_,_,_,_,_,_,_,h9⟩:=h.s _ hj
   refine⟨i-F.length+6,by omega,?_,(if_neg bh).symm⟩
   rw[List.getElem_append_right (by omega),h9,Xz,if_neg (by omega)]
   congr 2;omega
 intro i j hi hj zK e
 obtain⟨k,rS,e1,CX⟩:=hk i hi
 obtain⟨m,Kr,e2,Ss⟩:=hk j hj
 rw[e1,e2]at e
 have XK:F.length≤6:=by
  rcases Nat.lt_or_ge 6 F.length with h6|h6
  ·have:=(h.f 6 h6).1;omega
  ·exact h6
 refine SY k rS m Kr ?_ (List.cons.inj e).2
 rw[CX,Ss]
 split<;>split<;>omega
theorem tB(t:List UInt8): ∀x∈Eo t,x.kind≠1∧x.kind≠3:=by
 intro x UH
 have:=UT t x UH
 have rS:x.kind≠1:=by
  unfold Eo Cb at UH
  rcases List.mem_append.1 UH with h|h
  ·rcases List.mem_cons.1 h with rfl|h
   ·show(5:Int)≠1;decide
   ·obtain⟨i,_,rfl⟩:=List.mem_map.1 h
    show(4:Int)≠1;decide
  ·obtain⟨i,_,rfl⟩:=List.mem_map.1 h
   show(6:Int)≠1;decide
 refine⟨rS,?_⟩
 rcases this with h|h|h|h<;>omega
theorem O2(t:List UInt8){F S:List bc}(h:XC F S){tm sw waf tool st rcp:Int}(h0:0≤tm∧tm≤1000)(h1:0≤sw∧sw≤1000)(h2:1≤waf∧waf≤1000)(h3:0≤tool∧tool≤59)(h4:0≤st∧st≤39)(h5:1≤rcp∧rcp≤1000000):
  ofM (Eo t++F++S++[fC 700 2 true tm tm waf tool st rcp,fC 700 1 false tm tm waf tool st rcp,ct 2 true sw,ct 1 false sw]) 100000=ofM (Eo t++F++S) 100000:=by
 have v1:fm (fC 700 2 true tm tm waf tool st rcp)=true:=k6 (by omega) (by omega) (by omega) (by omega) h3 h4 h5
 have v2:fm (fC 700 1 false tm tm waf tool st rcp)=true:=k6 (by omega) (by omega) (by omega) (by omega) h3 h4 h5
 have v3:fm (ct 2 true sw)=true:=k7 (by omega) (by omega)
 have v4:fm (ct 1 false sw)=true:=k7 (by omega) (by omega)
 have e3:fp (ct 1 false sw)=fp (ct 2 true sw):=by rw[AG v3,AG v4];rfl
 refine Js v1 v2 (by rw[rN v1,rN v2]) (by show(1:Int)<2;decide) (by show(0:Int)≤_;decide) (fun x hx e=> ?_) rfl v3 v4 e3 (by show(1:Int)<2;decide) (by show(0:Int)≤_;decide) (fun x hx e=> ?_) (fun e=> ?_) rfl
 ·rw[List.append_assoc]at hx
  rcases List.mem_append.1 hx with hx|hx
  ·exact(tB t x hx).1 (yy (by rw[e];exact jz v1) e)
  ·obtain⟨k,hk,e2,_⟩:=h.key hx
   rw[e2,rN v1]at e
   exact Up k hk (List.cons.inj e).2
 ·have Xo:x.kind=3:=yy (by rw[e];exact jz v3) e
  rw[List.append_assoc]at hx
  rcases List.mem_append.1 hx with hx|hx
  ·exact(tB t x hx).2 Xo
  ·obtain⟨_,_,_,_,e2,_⟩:=h.key hx
   omega
 ·have:(1:Int)=3:=yy (jz v1) e
  omega
theorem NI(t:List UInt8){F S:List bc}(h:XC F S){sw:Int}(h0:0≤sw)(h1:sw≤1000):
  (ofM (Eo t++F++S++[ct 1 false sw]) 100000).C7=[ct 1 false sw]∧(ofM (Eo t++F++S++[ct 1 false sw]) 100000).procs.Perm (F++S):=by
 have UD:fm (ct 1 false sw)=true:=k7 (by omega) (by omega)
 have hk:=fun {x} (hx:x∈F++S)=>h.key hx
 have S0:=tB t
 rw[List.append_assoc (Eo t)]
 refine⟨?_,?_⟩
 ·have dy: ∀x∈Eo t++(F++S),x.kind≠((2:Nat):Int)+1:=by
   intro x UH
   rcases List.mem_append.1 UH with h|h
   ·exact(S0 x h).2
   ·obtain⟨_,_,_,_,e,_⟩:=hk h;rw[e];decide
  show dK _ (gH _ 2)=_
  rw[UA (jz UD) (by show(0:Int)≤_;omega) (fun x UH e=>dy x UH (by
   have:=yy (by rw[e];exact jz UD) e
   rw[this];rfl)) rfl rfl,AI dy]
  rfl
 ·have e:(ofM (Eo t++(F++S)++[ct 1 false sw]) 100000).procs=(ofM (Eo t++(F++S)) 100000).procs:=jE (i:=0) (by show(3:Int)≠_;decide)
  rw[e]
  refine(iM _).trans ?_
  rw[NO (F++S) (fun x UH=>by
   obtain⟨_,_,_,hv,_,hd,_⟩:=hk UH
   exact⟨jz hv,by omega⟩) h.pair (fun x UH y hy e=>by
   obtain⟨_,_,_,hv,RC,_⟩:=hk hy
   have:=yy (by rw[e];exact jz hv) e
   exact(S0 x UH).1 (by rw[this,RC])),Db,AI (fun x UH=>by have:=(S0 x UH).1;omega)]
  rw[List.nil_append]
  have:gH ((F++S).map fun x=>(fp x,x)) 0=F++S:=by
   unfold gH
   rw[List.filter_eq_self.2 (fun p hp=>by
    obtain⟨x,UH,rfl⟩:=List.mem_map.1 hp
    obtain⟨_,_,_,_,RC,_,hg,_⟩:=hk UH
    simp[RC,hg]),List.map_map]
   exact List.map_id _
  rw[this]
theorem GJ{c:fX}{sw:Int}(h:c.C7=[ct 1 false sw])(t:Int):zV c 1 t=(if sw≤t then 2 else 1)∧zV c 2 t=if sw≤t then 1 else 2:=by
 have e:c.C7.filter (NB t)=if sw≤t then [ct 1 false sw]else []:=by
  rw[h]
  have e1:NB t (ct 1 false sw)=decide (sw≤t):=rfl
  by_cases hc:sw≤t
  ·rw[if_pos hc,List.filter_cons_of_pos (by rw[e1];exact decide_eq_true hc)];rfl
  ·rw[if_neg hc,List.filter_cons_of_neg (by rw[e1,decide_eq_false hc];simp)];rfl
 unfold zV wM
 rw[e]
 by_cases hc:sw≤t
 ·rw[if_pos hc,if_pos hc,if_pos hc];exact⟨rfl,rfl⟩
 ·rw[if_neg hc,if_neg hc,if_neg hc];exact⟨rfl,rfl⟩
theorem tC{c:fX}{R:List bc}(hp:c.procs.Perm R)(w:Int)(hw:mB w=true)(ht: ∀x∈R,x.time≤1000000):(jb c w 1000000).Perm (R.filter fun x=>zV c x.waf x.time==w):=by
 unfold jb pF
 rw[if_pos hw]
 have h1:(dK wJ (c.procs.filter fun f=>zV c f.waf f.time==w)).Perm (R.filter fun x=>zV c x.waf x.time==w):=(iM _).trans (hp.filter _)
 refine(h1.filter _).trans ?_
 rw[List.filter_eq_self.2 (fun x hx=> ?_)]
 have:=ht x (List.mem_filter.1 hx).1
 simp;omega
theorem Ig(t:List UInt8){F S:List bc}(h:XC F S){sw:Int}(h0:0≤sw)(h1:sw≤1000){c:fX}(hc:c=ofM (Eo t++F++S++[ct 1 false sw]) 100000):
  (((jb c 1 1000000).map (·.idn)).filter fun n=>decide (600≤n)).length=(S.filter fun p=>decide (sw≤p.time)).length∧((jb c 1 1000000).map (·.idn)).length+((jb c 2 1000000).map (·.idn)).length=F.length+S.length:=by
 subst hc
 obtain⟨b1,b2⟩:=NI t h h0 h1
 generalize ofM (Eo t++F++S++[ct 1 false sw]) 100000=c at*
 have ht: ∀x∈F++S,x.time≤1000000:=fun x hx=>by obtain⟨_,_,_,_,_,_,_,_,_,h⟩:=h.key hx;omega
 have p1:=tC b2 1 rfl ht
 have p2:=tC b2 2 rfl ht
 refine⟨?_,?_⟩
 ·rw[List.filter_map,List.length_map,(p1.filter _).length_eq,List.filter_append,List.filter_append,List.length_append]
  have e1:(F.filter fun x=>zV c x.waf x.time==1).filter ((fun n=>decide (600≤n))∘fun x=>x.idn)=[]:=by
   refine List.filter_eq_nil_iff.2 fun x hx=> ?_
   obtain⟨i,hi,rfl⟩:=List.mem_iff_getElem.1 (List.mem_filter.1 hx).1
   obtain⟨h1,_,_,_,_,h6,_⟩:=h.f i hi
   simp[h6];omega
  have e2:(S.filter fun x=>zV c x.waf x.time==1).filter ((fun n=>decide (600≤n))∘fun x=>x.idn)=S.filter fun p=>decide (sw≤p.time):=by
   rw[List.filter_filter]
   refine List.filter_congr fun x hx=> ?_
   obtain⟨i,hi,rfl⟩:=List.mem_iff_getElem.1 hx
   obtain⟨h1,_,_,_,_,h6,h7,_⟩:=h.s i hi
   simp only[Function.comp,h6,h7,(GJ b1 _).2]
   by_cases SG:sw≤S[i].time
   ·simp[SG];omega
   ·simp[SG]
  rw[e1,e2];simp
 ·rw[List.length_map,List.length_map,p1.length_eq,p2.length_eq,show F.length+S.length=(F++S).length from List.length_append.symm]
  have: ∀R:List bc,(∀x∈R,x.waf=1∨x.waf=2)→(R.filter fun x=>zV c x.waf x.time==1).length+(R.filter fun x=>zV c x.waf x.time==2).length=R.length:=by
   intro R
   induction R with
   |nil=>intro _;rfl
   |cons x R ih=>
    intro hR
    have ih:=ih fun y hy=>hR y (List.mem_cons_of_mem _ hy)
    have hw:=GJ b1 x.time
    have hx:(zV c x.waf x.time=1)∨(zV c x.waf x.time=2):=by
     rcases hR x (List.mem_cons_self ..)with e|e<;>rw[e]
     ·rw[hw.1];split<;>simp
     ·rw[hw.2];split<;>simp
    rcases hx with e|e
    ·rw[List.filter_cons_of_pos (by simp[e]),List.filter_cons_of_neg (by simp[e]),List.length_cons,List.length_cons];omega
    ·rw[List.filter_cons_of_neg (by simp[e]),List.filter_cons_of_pos (by simp[e]),List.length_cons,List.length_cons];omega
  exact this _ fun x hx=>by obtain⟨_,_,_,_,_,_,_,hw,_⟩:=h.key hx;rcases hw with h|h<;>simp[h.1]
end Go.Proofs.YtebobfdheanknaaGreatDoor
namespace Go.Proofs.YtebobfdheanknaaGreatDoor
open Go Go.K
set_option maxRecDepth 10000
attribute [local irreducible] W WL cT bu bX bA bB bD cW cG
set_option maxHeartbeats 4000000
abbrev sv(ad:Nat→Option Addr)(cc:Nat→Nat)(b:fX)(i:Nat):Value:=.slice (ad i) (b.ls i).length (cc i)
end Go.Proofs.YtebobfdheanknaaGreatDoor
namespace Go.Proofs.YtebobfdheanknaaGreatDoor
open Go Go.K
set_option maxRecDepth 10000
attribute [local irreducible] W WL cT bu bX bA bB bD cW cG
set_option maxHeartbeats 20000000
def Xe:Fact:=⟨fun v _=> ∃ad,v= .slice ad 0 0,fun _ _ _ _ h=>h⟩
def WE(b:fX):Fact:=⟨fun v g=>iI g v b,fun _ _ _ hf h=>h.mono hf.le⟩
theorem UQ:uK Xe:=fun _ _ _ _ h=>h
theorem UR(b:fX):uK (WE b):=fun _ _ _ h k=>k.mono h
end Go.Proofs.YtebobfdheanknaaGreatDoor
namespace Go.Proofs.YtebobfdheanknaaGreatDoor
open Go Go.K
set_option maxRecDepth 10000
attribute [local irreducible] W WL cT bu bX bA bB bD cW cG
set_option maxHeartbeats 20000000
def NL(g0:G)(l t:List bc)(i j k:Nat)(cells:List Value)(ty:Nat)(ρ:Nat→Option Value)(g:G):Prop:=
 ∃Lo,((ρ k=none∧Lo=[])∨ ∃b,ρ k=some (.pointer (some ⟨b,0,none⟩))∧Lo=[.obj b (.cells cells.toArray ty (0,0))])∧
 match ρ i,ρ j with
 |none,none=>St g0 g Lo
 |some v,none=> ∃a c,v= .slice a l.length c∧St g0 g (rF a c l::Lo)
 |some _,some u=>St g0 g Lo∧Rs g u (l++t)
 |none,some _=>False
theorem GK{g0:G}{l t:List bc}{i j k:Nat}{cells:List Value}{ty:Nat}(ρ:Nat→Option Value)(g g':G)(hf:aZ g g')(h:NL g0 l t i j k cells ty ρ g):NL g0 l t i j k cells ty ρ g':=by
 obtain⟨Lo,h1,h2⟩:=h
 refine⟨Lo,h1,?_⟩
 split at h2
 ·exact h2.call hf
 ·obtain⟨a,c,e,h2⟩:=h2;exact⟨a,c,e,h2.call hf⟩
 ·exact⟨h2.1.call hf,h2.2.mono hf.le⟩
 ·exact h2
theorem kp(ρ:Nat→Option Value)(i:Nat)(v:Value):o5 ρ i v i=some v:=if_pos rfl
theorem k8{ρ:Nat→Option Value}{i n:Nat}{v:Value}(h:n≠i):o5 ρ i v n=ρ n:=if_neg h
theorem GL{F:Fence}{N:Nat}{ds:List Deferred}{env:Env}{Q:Exit→Act→World→Prop}{o:Oper}{g0 gd:G}{l t:List bc}{i j k:Nat}{cells:List Value}{ty:Nat}{ρ:Nat→Option Value}{Xn:Option Addr}{v:Value}{s x:Operand}
  (zK:i≠j) (Dt:i≠k) (ho:o.op= .call {callee:=.builtin .append,args:=#[s,x],argTypes:=#[24,24]}) (hv:ev env s=some (.slice Xn 0 0)) (hx:ev env x=some v) (h3:ρ i=none) (hJ:NL g0 l t i j k cells ty ρ gd) (hr:Rs gd v l) (hl:l.length≤100000):
  cT F Tryz.prog N ds o env gd.w Q fun u w'=> ∃dP,dP.w=w'∧(gd.le dP∧NL g0 l t i j k cells ty (o5 ρ i u) dP)∧Fact.any.p u dP:=by
 obtain⟨Lo,h1,hJ⟩:=hJ
 rw[h3]at hJ
 cases h9:ρ j with
 |some u=>rw[h9]at hJ;exact hJ.elim
 |none=>
  rw[h9]at hJ
  obtain⟨a4,c4,rfl⟩:=hr.isSlice
  obtain⟨_,news,hn,gn⟩:=Src.jq hr
  obtain rfl:=kX hn
  refine b_ T.ok 0 ho (hJ.gI 54 19 Xn) rfl hv hx rfl rfl rfl rfl (by decide) rfl gn (zP gd l) (by show(0+l.length)*160≤_;omega) (by unfold maxLen;omega) fun a' c' g9 FL DV=>⟨g9,rfl,⟨DV,Lo,?_,?_⟩,trivial⟩
  ·rw[k8 (Ne.symm Dt)];exact h1
  ·rw[kp,k8 (Ne.symm zK),h9]
   rw[Nat.zero_add l.length]at FL⊢
   exact⟨a',c',rfl,FL⟩
theorem Jo{F:Fence}{N:Nat}{ds:List Deferred}{env:Env}{Q:Exit→Act→World→Prop}{o:Oper}{g0 gd:G}{l t:List bc}{i j k:Nat}{cells:List Value}{ty:Nat}{ρ:Nat→Option Value}{v u:Value}{s x:Operand}
  (zK:i≠j) (zO:j≠k) (ho:o.op= .call {callee:=.builtin .append,args:=#[s,x],argTypes:=#[24,24]}) (hv:ev env s=some v) (hx:ev env x=some u) (r2:ρ i=some v) (h3:ρ j=none) (hJ:NL g0 l t i j k cells ty ρ gd) (hr:Rs gd u t) (hl:l.length≤100000) (ht:t.length≤100):
  cT F Tryz.prog N ds o env gd.w Q fun z w'=> ∃dP,dP.w=w'∧(gd.le dP∧NL g0 l t i j k cells ty (o5 ρ j z) dP)∧Fact.any.p z dP:=by
 obtain⟨Lo,h1,hJ⟩:=hJ
 rw[r2,h3]at hJ
 obtain⟨a8,c8,rfl,hJ⟩:=hJ
 obtain⟨a5,c5,rfl⟩:=hr.isSlice
 obtain⟨_,news,hn,gn⟩:=Src.jq hr
 obtain rfl:=kX hn
 refine b_ T.ok 0 ho hJ rfl hv hx rfl rfl rfl rfl (by decide) rfl gn (zP gd _) (by show(l.length+t.length)*160≤_;omega) (by unfold maxLen;omega) fun a' c' g9 FL DV=> ?_
 have x_:(l++t).length=l.length+t.length:=List.length_append
 have FL:St g0 g9 (rF a' c' (l++t)::Lo):=by unfold rF;rw[lr,x_];exact FL
 obtain⟨g10,WM,WN,WA,py⟩:=FL.cL (α:=bc) (i:=0) rfl (cO.fl _ _)
 refine⟨g10,WM,⟨DV.trans WA,Lo,?_,?_⟩,trivial⟩
 ·rw[k8 (Ne.symm zO)];exact h1
 ·rw[kp,k8 zK,r2]
  rw[x_]at py
  exact⟨WN,py⟩
theorem zg{F:Fence}{N:Nat}{ds:List Deferred}{env:Env}{Q:Exit→Act→World→Prop}{o:Oper}{g0 gd:G}{l t:List bc}{i j k:Nat}{cells:List Value}{ty:Nat}{ρ:Nat→Option Value}{ti:TI}
  (Dt:i≠k) (zO:j≠k) (ho:o.op= .alloc ty) (hi:tl T ty=some ti) (hz:ti.zero.cells=cells.toArray) (h3:ρ k=none) (hJ:NL g0 l t i j k cells ty ρ gd):
  cT F Tryz.prog N ds o env gd.w Q fun z w'=> ∃dP,dP.w=w'∧(gd.le dP∧NL g0 l t i j k cells ty (o5 ρ k z) dP)∧Fact.any.p z dP:=by
 obtain⟨Lo,h1,hJ⟩:=hJ
 rcases h1 with⟨_,rfl⟩|⟨b,h1,_⟩
 case inr=>rw[h3]at h1;cases h1
 have hn: ∀z:Value,o5 ρ k z i=ρ i∧o5 ρ k z j=ρ j:=fun z=>⟨k8 Dt,k8 zO⟩
 cases ri:ρ i with
 |none=>
  cases rj:ρ j with
  |none=>
   rw[ri,rj]at hJ
   refine aK T.ok ho hJ hi hz fun b g' iS hle=>⟨g',rfl,⟨hle,_,.inr ⟨b,kp ..,rfl⟩,?_⟩,trivial⟩
   rw[(hn _).1,(hn _).2,ri,rj];exact iS
  |some u=>rw[ri,rj]at hJ;exact hJ.elim
 |some v=>
  cases rj:ρ j with
  |none=>
   rw[ri,rj]at hJ
   obtain⟨a,c,rfl,hJ⟩:=hJ
   refine aK T.ok ho hJ hi hz fun b g' iS hle=>⟨g',rfl,⟨hle,_,.inr ⟨b,kp ..,rfl⟩,?_⟩,trivial⟩
   rw[(hn _).1,(hn _).2,ri,rj]
   exact⟨a,c,rfl,iS.re [1,0] (by decide) rfl⟩
  |some u=>
   rw[ri,rj]at hJ
   obtain⟨hJ,hr⟩:=hJ
   refine aK T.ok ho hJ hi hz fun b g' iS hle=>⟨g',rfl,⟨hle,_,.inr ⟨b,kp ..,rfl⟩,?_⟩,trivial⟩
   rw[(hn _).1,(hn _).2,ri,rj]
   exact⟨iS,hr.mono hle⟩
theorem Pw{g0 gd:G}{l t:List bc}{i j k:Nat}{cells:List Value}{ty:Nat}{ρ:Nat→Option Value}{u:Value}(hJ:NL g0 l t i j k cells ty ρ gd)(r:ρ j=some u):Rs gd u (l++t):=by
 obtain⟨Lo,h1,hJ⟩:=hJ
 rw[r]at hJ
 cases h2:ρ i with
 |none=>rw[h2]at hJ;exact hJ.elim
 |some v=>rw[h2]at hJ;exact hJ.2
theorem Jp{g0 gd:G}{l t:List bc}{i j k:Nat}{cells:List Value}{ty:Nat}{ρ:Nat→Option Value}{v:Value}(hJ:NL g0 l t i j k cells ty ρ gd)(hi:ρ i≠none)(hj:ρ j≠none)(r:ρ k=some v): ∃b,St g0 gd [.obj b (.cells cells.toArray ty (0,0))]∧v= .pointer (some ⟨b,0,none⟩):=by
 obtain⟨Lo,h1,hJ⟩:=hJ
 rcases h1 with⟨h1,_⟩|⟨b,h1,rfl⟩
 ·rw[r]at h1;cases h1
 ·rw[r]at h1
  obtain rfl:=Option.some.inj h1
  refine⟨b,?_,rfl⟩
  split at hJ
  ·rename_i e _;exact absurd e hi
  ·rename_i e;exact absurd e hj
  ·exact hJ.1
  ·exact hJ.elim
end Go.Proofs.YtebobfdheanknaaGreatDoor
namespace Go.Proofs.YtebobfdheanknaaGreatDoor
open Go Go.K
set_option maxRecDepth 10000
attribute [local irreducible] W WL cT bu bX bA bB bD cW cG
set_option maxHeartbeats 20000000
theorem He(v0:Value)(x:List Y6)(v1:Value)(cs:List Int)(v2:Value)(ds:List Int)(tm:Int)(z:Y7)(g:G)(bM:iw g)(aH:Rs g v0 x)(hx: ∀y∈x,y.fit)(aT:Rs g v1 cs)(mG: ∀c∈cs,mH c)(bT:Rs g v2 ds)(U': ∀c∈ds,mH c)(Xg:mH tm)(hz:z.fit):
  CallsIn Wd 0 Tryz.prog 8 #[v0,v1,v2,.int .i64 tm,.agg (NJ z).toArray] g.w (cR g fun _ r=>r= .bool true):=by
 have hs:=St.start g
 have aq:=G.le.refl g
 refine enter Tryz.func8 rfl Tryz.ntmps8 rfl ?_
 apply c_
 refine an rfl rfl (aR rfl hs rfl rfl ?_);clear hs;rintro b9 g1 hs ah;obtain⟨aq,aH,aT,bT,bM⟩:=kN ah aq aH aT bT bM
 obtain⟨g2,bR,aU,ah,aL⟩:=hs.a_ (i:=0) rfl;replace hs:=aU;clear aU;rw[←bR];obtain⟨aq,aH,aT,bT,bM⟩:=kN ah aq aH aT bT bM
 have aC:EP g2 b9 0 (NJ z):=aL;clear aL
 refine ba rfl ?_;apply c_
 refine an rfl rfl (ay Ps aI rfl rfl rfl rfl rfl (Jn _ bM) ?_);rintro g1 _ aN rfl;replace hs:=hs.call aN;have ah:=aN.le;obtain⟨aq,aC,aH,aT,bT,bM⟩:=iu ah aq aC aH aT bT bM
 clear aN
 refine ba rfl ?_;refine cP 1 rfl ?_
 refine an rfl rfl (ay Pt aI rfl rfl rfl rfl rfl (NK _ x _ aH hx) ?_)
 rintro g1 _ aN ⟨u1,u2,rfl,⟨cells,hh,eK⟩,dI⟩
 obtain rfl:=kX eK
 replace hs:=hs.gJ aN hh;have ah:=aN.le;obtain⟨aq,aC,aH,aT,bT,bM⟩:=iu ah aq aC aH aT bT bM
 clear hh eK aN
 have WI:=SX (Jm x) (E7 x []) cs ds
 have hv:=E7 x []
 obtain⟨t0,Xh⟩: ∃t,t=Cf (mk x []):=⟨_,rfl⟩
 rw[←Xh]at hs
 clear Xh
 have MR:=En t0
 obtain⟨l1,UP⟩: ∃l,l=Eo t0:=⟨_,rfl⟩
 rw[←UP]at hs MR
 obtain⟨ad,c8,rfl⟩:=(hs.own 0 _ rfl).1.form
 replace hs:St g g1 [rF ad c8 l1]:=hs
 have GC:=Jm x
 generalize mk x []=f at*
 obtain⟨a1,n1,c1,a2,n2,c2,rfl,eg,_⟩:=id dI
 obtain⟨rfl,_,_⟩:=eg.oL
 clear eg
 refine Wp 3 rfl ?_
 refine an rfl rfl (aK T.ok rfl hs rfl rfl ?_);clear hs;rintro FY g1 hs ah;obtain⟨aq,aC,aH,aT,bT,dI⟩:=iu ah aq aC aH aT bT dI;replace bM:=bM.mono ah
 refine Wp 1 rfl ?_
 refine bg rfl (aA T.ok 0 rfl hs rfl rfl rfl rfl rfl rfl rfl rfl rfl ?_);replace hs:=hs;rintro g1 hs ah;obtain⟨aq,aC,aH,aT,bT,dI⟩:=iu ah aq aC aH aT bT dI;replace bM:=bM.mono ah
 obtain⟨g2,bR,aU,ah,aL⟩:=hs.a_ (i:=0) rfl;replace hs:=aU;clear aU;rw[←bR];obtain⟨aq,aC,aH,aT,bT,dI⟩:=iu ah aq aC aH aT bT dI;replace bM:=bM.mono ah
 have aP:EP g2 FY 0 [.int .i64 f.ck,.int .i64 f.cu,.slice a1 f.steps.length c1,.slice a2 n2 c2]:=aL;clear aL
 replace hs:St g g2 [rF ad c8 l1]:=hs
 obtain⟨g8,xD,qO,ah,dj⟩:=hs.cL (α:=bc) (i:=0) rfl (cO.fl _ _)
 rw[←xD];(repeat clear hs);have hs:St g g8 []:=qO;clear qO;obtain⟨aq,aC,aP,aH,aT,bT⟩:=iu ah aq aC aP aH aT bT;obtain⟨dI,bM⟩:=cC ah dI bM;clear xD
 apply cf;refine dx 2 [.z aP] (St.start _) rfl ?_
 refine an rfl rfl (ay Pu aI rfl rfl rfl rfl rfl (Es _ _ f cs 6 1 500 10 _ dI aT GC mG (by omega) ⟨by omega,by omega⟩ ⟨by omega,by omega⟩) ?_);rintro g1 _ aN bN;replace hs:=hs.call aN;have ah:=aN.le;obtain⟨aq,aC,aP,aH,aT,bT⟩:=iu ah aq aC aP aH aT bT;obtain⟨dj,dI,bM⟩:=ef ah dj dI bM
 clear aN
 refine ba rfl ?_;refine dx 2 [.z aP] (St.start _) rfl ?_
 refine an rfl rfl (ay Pu aI rfl rfl rfl rfl rfl (Es _ _ f ds 6 2 600 12 _ dI bT GC U' (by omega) ⟨by omega,by omega⟩ ⟨by omega,by omega⟩) ?_);rintro g1 _ aN dz;replace hs:=hs.call aN;have ah:=aN.le;obtain⟨aq,aC,aP,aH,aT,bT⟩:=iu ah aq aC aP aH aT bT;obtain⟨bN,dj,dI,bM⟩:=dE ah bN dj dI bM
 clear aN
 have sP:=yk f 1 500 10 cs 6 []
 have O5:=yk f 2 600 12 ds 6 []
 generalize uU f 1 500 10 cs 6 []=F1 at*
 generalize uU f 2 600 12 ds 6 []=F2 at*
 have sP:F1.length≤6:=by simpa using sP
 have O5:F2.length≤6:=by simpa using O5
 obtain⟨a3,c3,rfl⟩:=bN.isSlice
 obtain⟨a4,c4,rfl⟩:=dz.isSlice
 clear aH aT bT
 refine ba rfl ?_;apply c_
 refine an rfl rfl (bj T.ok rfl hs (vs:=[]) (cells:=[]) rfl rfl rfl rfl rfl rfl (by decide) (by decide) (by kernel_rfl) rfl ?_);rintro b8 g9 hs ah;obtain⟨aq,aC,aP,bN,dz,dj⟩:=iu ah aq aC aP bN dz dj;obtain⟨dI,bM⟩:=cC ah dI bM
 refine Wp 1 rfl ?_
 obtain⟨_,news,SH,Ie⟩:=Src.jq dj
 obtain rfl:=kX SH
 clear SH
 refine an rfl rfl (b_ T.ok 0 rfl hs rfl rfl rfl rfl rfl rfl rfl (by decide) rfl Ie (zP g9 l1) (by show(0+l1.length)*160≤_;omega) (by unfold maxLen;omega) ?_);rintro a7 c7 g10 hs ah;obtain⟨aq,aC,aP,bN,dz,dj⟩:=iu ah aq aC aP bN dz dj;obtain⟨dI,bM⟩:=cC ah dI bM
 rw[Nat.zero_add l1.length]at hs⊢
 replace hs:St g g10 [rF a7 c7 l1]:=hs
 clear Ie
 refine Wp 1 rfl ?_
 obtain⟨_,news,SH,Ie⟩:=Src.jq bN
 obtain rfl:=kX SH
 clear SH
 refine an rfl rfl (b_ T.ok 0 rfl hs rfl rfl rfl rfl rfl rfl rfl (by decide) rfl Ie (zP g10 F1) (by show(l1.length+F1.length)*160≤_;omega) (by unfold maxLen;omega) ?_);rintro a6 c6 g10 hs ah;obtain⟨aq,aC,aP,dz,dj,dI⟩:=iu ah aq aC aP dz dj dI;replace bM:=bM.mono ah
 clear Ie
 have x_:(l1++F1).length=(l1).length+(F1).length:=List.length_append
 replace hs:St g g10 [rF a6 c6 (l1++F1)]:=by unfold rF;rw[lr,x_];exact hs
 rw[←x_]
 clear x_
 have XD:(l1++F1).length≤130:=by rw[List.length_append];omega
 refine Wp 1 rfl ?_
 obtain⟨_,news,SH,Ie⟩:=Src.jq dz
 obtain rfl:=kX SH
 clear SH
 refine an rfl rfl (b_ T.ok 0 rfl hs rfl rfl rfl rfl rfl rfl rfl (by decide) rfl Ie (zP g10 F2) (by show((l1++F1).length+F2.length)*160≤_;omega) (by unfold maxLen;omega) ?_);rintro a6 c6 g10 hs ah;obtain⟨aq,aC,aP,dz,dj,dI⟩:=iu ah aq aC aP dz dj dI;replace bM:=bM.mono ah
 clear Ie
 have x_:((l1++F1)++F2).length=((l1++F1)).length+(F2).length:=List.length_append
 replace hs:St g g10 [rF a6 c6 ((l1++F1)++F2)]:=by unfold rF;rw[lr,x_];exact hs
 rw[←x_]
 clear x_
 have XE:(l1++F1++F2).length≤140:=by rw[List.length_append];omega
 obtain⟨l,hle⟩: ∃l,l=l1++F1++F2:=⟨_,rfl⟩
 rw[←hle]at hs XE⊢
 clear XD MR dj
 obtain⟨g8,xD,qO,ah,aH⟩:=hs.cL (α:=bc) (i:=0) rfl (cO.fl _ _)
 rw[←xD];(repeat clear hs);have hs:St g g8 []:=qO;clear qO;obtain⟨aq,aC,aP,dz,dI,bM⟩:=iu ah aq aC aP dz dI bM;clear xD
 refine ba rfl ?_;refine dx 1 [.z aC] (St.start _) rfl ?_
 refine an rfl rfl (ay Py aI rfl rfl rfl rfl rfl (NM z _ hz) ?_);rintro g1 _ aN rfl;replace hs:=hs.call aN;have ah:=aN.le;obtain⟨aq,aC,aP,aH,dz,dI⟩:=iu ah aq aC aP aH dz dI;replace bM:=bM.mono ah
 clear aN
 generalize r3 z=A at*
 skip
 refine an rfl rfl (aK T.ok rfl hs rfl rfl ?_);clear hs;rintro Pr g1 hs ah;obtain⟨aq,aC,aP,aH,dz,dI⟩:=iu ah aq aC aP aH dz dI;replace bM:=bM.mono ah
 skip
 refine bg rfl (aA T.ok 0 rfl hs rfl rfl rfl rfl rfl rfl rfl rfl rfl ?_);replace hs:=hs;rintro g1 hs ah;obtain⟨aq,aC,aP,aH,dz,dI⟩:=iu ah aq aC aP aH dz dI;replace bM:=bM.mono ah
 obtain⟨g2,bR,aU,ah,aL⟩:=hs.a_ (i:=0) rfl;replace hs:=aU;clear aU;rw[←bR];obtain⟨aq,aC,aP,aH,dz,dI⟩:=iu ah aq aC aP aH dz dI;replace bM:=bM.mono ah
 have dO:EP g2 Pr 0 (pE A):=aL;clear aL
 replace hs:St g g2 []:=hs
 apply cf;refine cP 1 rfl ?_
 refine an rfl rfl (ay Pv aI rfl rfl rfl rfl rfl (Qs _ l 100000 _ aH (by omega)) ?_);rintro g1 _ aN bI;replace hs:=hs.call aN;have ah:=aN.le;obtain⟨aq,aC,aP,dO,aH,dz⟩:=iu ah aq aC aP dO aH dz;obtain⟨dI,bM⟩:=cC ah dI bM
 clear aN
 have hK:=NH (l:=l) 100000 (by omega)
 obtain⟨b,hb⟩: ∃b,b=ofM l 100000:=⟨_,rfl⟩
 rw[←hb]at bI hK
 obtain⟨sl,rfl,jr⟩:=id bI
 have pK:((List.range 11).map sl).all Value.oneCell'=true:=by
  rw[List.all_eq_true]
  intro u hu
  obtain⟨i,hi,rfl⟩:=List.mem_map.1 hu
  obtain⟨_,_,e⟩:=(jr i (List.mem_range.1 hi)).isSlice
  rw[e];rfl
 clear jr
 skip
 refine an rfl rfl (aK T.ok rfl hs rfl rfl ?_);clear hs;rintro V3 g1 hs ah;obtain⟨aq,aC,aP,dO,aH,dz⟩:=iu ah aq aC aP dO aH dz;obtain⟨dI,bI,bM⟩:=ef ah dI bI bM
 skip
 refine bg rfl (aA T.ok 0 rfl hs rfl rfl rfl rfl rfl rfl pK rfl rfl ?_);replace hs:=hs;rintro g1 hs ah;obtain⟨aq,aC,aP,dO,aH,dz⟩:=iu ah aq aC aP dO aH dz;obtain⟨dI,bI,bM⟩:=ef ah dI bI bM
 obtain⟨g2,bR,aU,ah,aL⟩:=hs.a_ (i:=0) rfl;replace hs:=aU;clear aU;rw[←bR];obtain⟨aq,aC,aP,dO,aH,dz⟩:=iu ah aq aC aP dO aH dz;obtain⟨dI,bI,bM⟩:=ef ah dI bI bM
 have mg:EP g2 V3 0 ((List.range 11).map sl):=aL;clear aL pK
 replace hs:St g g2 []:=hs
 obtain⟨s,Xd,dm,Wt⟩: ∃s tool,dA f.steps (aO z.z1 (f.steps.length:Nat))=some s∧s.dB[0]? =some tool:=by
  have h0:0<f.steps.length:=List.length_pos_iff.2 GC.some_
  obtain⟨h1,h2⟩:=dq (c:=z.z1) (n:=(f.steps.length:Nat)) (by omega)
  have bh:(aO z.z1 (f.steps.length:Nat)).toNat<f.steps.length:=by omega
  have h3:=GC.dB _ (List.getElem_mem bh)
  refine⟨f.steps[(aO z.z1 (f.steps.length:Nat)).toNat],(f.steps[(aO z.z1 (f.steps.length:Nat)).toNat]).dB.headD 0,(if_neg (by omega)).trans (List.getElem?_eq_getElem bh),?_⟩
  generalize f.steps[(aO z.z1 (f.steps.length:Nat)).toNat].dB=tl at h3
  cases tl with
  |nil=>exact absurd rfl h3
  |cons t r=>rfl
 obtain⟨Qk,Sk,XF,WJ⟩:=GI hv dm
 have WJ:=WJ Xd (List.mem_of_getElem? Wt)
 obtain⟨XG,XH,_⟩:=id hz
 have xR:f.steps.length≠0:=by have:=List.length_pos_iff.2 GC.some_;omega
 have Nh:=dq (c:=z.z0) (n:=3) (by decide)
 have XI:=dq (c:=tm) (n:=90) (by decide)
 have oh:=hs
 unfold NJ at aC
 apply cf;apply aB
 apply ed (fj (gE (fe (.e (fv (yn s Xd 700 (IntKind.i64.wrap (1+aO z.z0 3)) (aO z.z1 (f.steps.length:Nat)) (aO tm 90))):: .f (B_ (G.dr _).w.heap.size (bW gF) 54)::[])))) 15 [(13,69),(14,19)] (by kernel_rfl)
 ·refine Dm [[]] [.z aP] hs (by kernel_rfl) rfl ?_
  refine aw (ak (js:=[]) (by kernel_rfl) fun gd hf=>aj (az rfl (df T.ok (q:=0) rfl rfl rfl rfl rfl rfl (by decide) ⟨gd,rfl,aZ.refl _,rfl⟩))) ?_
  refine Dm [[1],[2],[3]] [.e aC 0,.c qx fun g' _=>gT z.z0 3 g' XG (by decide)] hs (by kernel_rfl) rfl ?_
  refine aw (ak (js:=[]) (by kernel_rfl) fun gd hf=>aj (az rfl (df T.ok (q:=1) rfl rfl rfl rfl rfl rfl (by decide) ⟨gd,rfl,aZ.refl _,rfl⟩))) ?_
  refine Dm [[5],[],[7],[8],[6,9],[],[11],[0,4,10,12,12]] [.e aC 1,.z aP,.c qx fun g' _=>gT z.z1 (f.steps.length:Nat) g' XH (by omega),.c qx fun g' _=>gT tm 90 g' Xg (by decide),.c PB fun g' h=>Jq _ f s Xd 700 (IntKind.i64.wrap (1+aO z.z0 3)) (aO z.z1 (f.steps.length:Nat)) (aO tm 90) g' (dI.mono h) dm Wt] hs (by kernel_rfl) rfl ?_
  refine aw (ak (js:=[]) (by kernel_rfl) fun gd hf=>aj (az rfl (aK T.ok rfl (St.start gd) rfl rfl fun b g' iS hle=>⟨g',rfl,iS.mS,b,rfl,Nat.le_trans hf.below.size (iS.own 0 _ rfl).1,(iS.own 0 _ rfl).2⟩))) ?_
  exact fJ
 intro g1 aN;refine ai rfl (aY fun v6 h6=>aj ?_)
 obtain⟨WC,rfl,uS⟩:=h6
 (repeat clear hs)
 have hs:=oh.dr.gJ aN uS;have ah:=(G.bJ _).trans aN.le;obtain⟨aq,aC,aP,dO,mg,aH⟩:=iu ah aq aC aP dO mg aH;obtain⟨dz,bI,bM⟩:=ef ah dz bI bM
 clear oh uS aN aC aP
 have Wz:IntKind.i64.wrap (1+aO z.z0 3)=1+aO z.z0 3:=wr (by omega) (by omega)
 rw[Wz]
 clear Wz
 have Nh:1≤1+aO z.z0 3∧1+aO z.z0 3≤3:=by omega
 generalize 1+aO z.z0 3=wf at*
 generalize aO z.z1 (f.steps.length:Nat)=sp at*
 have XJ:mH (aO tm 90):=⟨by omega,by omega⟩
 skip
 refine bg rfl (aA T.ok 0 rfl hs rfl rfl rfl rfl rfl rfl rfl rfl rfl ?_);replace hs:=hs;rintro g1 hs ah;obtain⟨aq,dO,mg,aH,dz,bI⟩:=iu ah aq dO mg aH dz bI;replace bM:=bM.mono ah
 apply cf;refine dx 3 [.o 0] hs rfl ?_
 refine bg rfl (aA T.ok 0 rfl hs rfl rfl rfl rfl rfl rfl rfl rfl rfl ?_);replace hs:=hs;rintro g1 hs ah;obtain⟨aq,dO,mg,aH,dz,bI⟩:=iu ah aq dO mg aH dz bI;replace bM:=bM.mono ah
 obtain⟨q,hq⟩: ∃q,q=aO tm 90:=⟨_,rfl⟩
 rw[←hq]at XI
 replace hs:St g g1 [.obj WC (.cells (bW (fC 700 1 false q q wf Xd sp s.dD)).toArray 54 (0,0))]:=by rw[hq];exact hs
 apply cf;refine dx 1 [.o 0] hs rfl ?_
 refine an rfl rfl (aK T.ok rfl hs rfl rfl ?_);clear hs;rintro Xj g1 hs ah;obtain⟨aq,dO,mg,aH,dz,bI⟩:=iu ah aq dO mg aH dz bI;replace bM:=bM.mono ah
 skip
 refine bg rfl (aA T.ok 0 rfl hs rfl rfl rfl rfl rfl rfl rfl rfl rfl ?_);replace hs:=hs;rintro g1 hs ah;obtain⟨aq,dO,mg,aH,dz,bI⟩:=iu ah aq dO mg aH dz bI;replace bM:=bM.mono ah
 apply cf;refine cP 1 rfl ?_
 refine bg rfl (aA T.ok 0 rfl hs rfl rfl rfl rfl rfl rfl rfl rfl rfl ?_);replace hs:=hs;rintro g1 hs ah;obtain⟨aq,dO,mg,aH,dz,bI⟩:=iu ah aq dO mg aH dz bI;replace bM:=bM.mono ah
 apply cf;refine cP 1 rfl ?_
 refine bg rfl (aA T.ok 0 rfl hs rfl rfl rfl rfl rfl rfl rfl rfl rfl ?_);replace hs:=hs;rintro g1 hs ah;obtain⟨aq,dO,mg,aH,dz,bI⟩:=iu ah aq dO mg aH dz bI;replace bM:=bM.mono ah
 replace hs:St g g1 [.obj Xj (.cells (bW (fC 700 2 true q q wf Xd sp s.dD)).toArray 54 (0,0)),.obj WC (.cells (bW (fC 700 1 false q q wf Xd sp s.dD)).toArray 54 (0,0))]:=hs
 apply cf;refine cP 1 rfl ?_
 refine an rfl rfl (ay qx aI rfl rfl rfl rfl rfl (gT tm 90 _ Xg (by decide)) ?_);rintro g1 _ aN rfl;replace hs:=hs.call aN;have ah:=aN.le;obtain⟨aq,dO,mg,aH,dz,bI⟩:=iu ah aq dO mg aH dz bI;replace bM:=bM.mono ah
 clear aN
 rw[←hq]
 refine an rfl rfl (aQ T.ok rfl (vs:=[(0,.int .i64 3),(2,.int .i64 1),(1,.int .i64 800),(7,.int .i64 1),(8,.int .i64 2),(5,.int .i64 q)]) (cells:=bW (ct 1 false q)) rfl rfl rfl rfl [(0,1),(1,1),(2,1),(3,1),(4,1),(5,1),(6,1),(7,1),(8,1),(9,1),(10,1),(11,1),(12,1),(13,1),(14,1),(15,1),(16,1),(17,1),(18,1)] rfl (by kernel_rfl) ?_)
 skip
 refine an rfl rfl (aK T.ok rfl hs rfl rfl ?_);clear hs;rintro Wq g1 hs ah;obtain⟨aq,dO,mg,aH,dz,bI⟩:=iu ah aq dO mg aH dz bI;replace bM:=bM.mono ah
 skip
 refine bg rfl (aA T.ok 0 rfl hs rfl rfl rfl rfl rfl rfl rfl rfl rfl ?_);replace hs:=hs;rintro g1 hs ah;obtain⟨aq,dO,mg,aH,dz,bI⟩:=iu ah aq dO mg aH dz bI;replace bM:=bM.mono ah
 apply cf;refine dx 1 [.o 0] hs rfl ?_
 refine an rfl rfl (aK T.ok rfl hs rfl rfl ?_);clear hs;rintro Xi g1 hs ah;obtain⟨aq,dO,mg,aH,dz,bI⟩:=iu ah aq dO mg aH dz bI;replace bM:=bM.mono ah
 skip
 refine bg rfl (aA T.ok 0 rfl hs rfl rfl rfl rfl rfl rfl rfl rfl rfl ?_);replace hs:=hs;rintro g1 hs ah;obtain⟨aq,dO,mg,aH,dz,bI⟩:=iu ah aq dO mg aH dz bI;replace bM:=bM.mono ah
 apply cf;refine cP 1 rfl ?_
 refine bg rfl (aA T.ok 0 rfl hs rfl rfl rfl rfl rfl rfl rfl rfl rfl ?_);replace hs:=hs;rintro g1 hs ah;obtain⟨aq,dO,mg,aH,dz,bI⟩:=iu ah aq dO mg aH dz bI;replace bM:=bM.mono ah
 apply cf;refine cP 1 rfl ?_
 refine bg rfl (aA T.ok 0 rfl hs rfl rfl rfl rfl rfl rfl rfl rfl rfl ?_);replace hs:=hs;rintro g1 hs ah;obtain⟨aq,dO,mg,aH,dz,bI⟩:=iu ah aq dO mg aH dz bI;replace bM:=bM.mono ah
 replace hs:St g g1 [.obj Xi (.cells (bW (ct 2 true q)).toArray 54 (0,0)),.obj Wq (.cells (bW (ct 1 false q)).toArray 54 (0,0)),.obj Xj (.cells (bW (fC 700 2 true q q wf Xd sp s.dD)).toArray 54 (0,0)),.obj WC (.cells (bW (fC 700 1 false q q wf Xd sp s.dD)).toArray 54 (0,0))]:=hs
 obtain⟨g2,bR,aU,ah,aL⟩:=hs.a_ (i:=0) rfl;replace hs:=aU;clear aU;rw[←bR];obtain⟨aq,dO,mg,aH,dz,bI⟩:=iu ah aq dO mg aH dz bI;replace bM:=bM.mono ah
 have aC:EP g2 Xi 0 (bW (ct 2 true q)):=aL;clear aL
 obtain⟨g2,bR,aU,ah,aL⟩:=hs.a_ (i:=0) rfl;replace hs:=aU;clear aU;rw[←bR];obtain⟨aq,aC,dO,mg,aH,dz⟩:=iu ah aq aC dO mg aH dz;obtain⟨bI,bM⟩:=cC ah bI bM
 have aP:EP g2 Wq 0 (bW (ct 1 false q)):=aL;clear aL
 obtain⟨g2,bR,aU,ah,aL⟩:=hs.a_ (i:=0) rfl;replace hs:=aU;clear aU;rw[←bR];obtain⟨aq,aC,aP,dO,mg,aH⟩:=iu ah aq aC aP dO mg aH;obtain⟨dz,bI,bM⟩:=ef ah dz bI bM
 have vy:EP g2 Xj 0 (bW (fC 700 2 true q q wf Xd sp s.dD)):=aL;clear aL
 obtain⟨g2,bR,aU,ah,aL⟩:=hs.a_ (i:=0) rfl;replace hs:=aU;clear aU;rw[←bR];obtain⟨aq,aC,aP,dO,mg,vy⟩:=iu ah aq aC aP dO mg vy;obtain⟨aH,dz,bI,bM⟩:=dE ah aH dz bI bM
 have WK:EP g2 WC 0 (bW (fC 700 1 false q q wf Xd sp s.dD)):=aL;clear aL
 replace hs:St g g2 []:=hs
 have hO:=O2 t0 WI (tm:=q) (sw:=q) (waf:=wf) (tool:=Xd) (st:=sp) (rcp:=s.dD) (by omega) (by omega) (by omega) WJ ⟨Qk,Sk⟩ XF
 rw[←UP,←hle,←hb]at hO
 generalize fC 700 2 true q q wf Xd sp s.dD=e1 at hO vy
 generalize fC 700 1 false q q wf Xd sp s.dD=e2 at hO WK
 generalize ct 2 true q=e3 at hO aC
 apply cf;apply aB
 apply lJ (.f Xe::fe (.f Fact.any::gE (.f (Fact.rs [e1,e2,e3,ct 1 false q]):: .f Fact.any:: .f (WE b):: .f Fact.any::[]))) 11 [(9,91),(10,23)] [2,8,10] [[],[],[]] (NL g l [e1,e2,e3,ct 1 false q] 2 8 10 (List.replicate 11 (.slice none 0 0)) 35) GK ⟨[],.inl ⟨rfl,rfl⟩,hs.dr⟩ (by kernel_rfl) ⟨UQ,cY,cr _,cY,UR _,cY,trivial⟩
 ·refine bC (cH (js:=[]) (by kernel_rfl) rfl fun ρ g8 _ _ hle hJ=>bd (az rfl (bj T.ok rfl (St.start g8) (vs:=[]) (cells:=[]) rfl rfl rfl rfl rfl rfl (by decide) (by decide) (by kernel_rfl) rfl fun b g' iS _=> ?_))) ?_
  ·obtain⟨g2,e1,e2,e3⟩:=kj (α:=bc) (xs:=[]) iS rfl
   exact⟨g2,e1,e2,some ⟨b,0,none⟩,rfl⟩
  refine Um [[]] [] (by kernel_rfl) rfl ?_
  refine bC (il (js:=[(0,82),(1,83)]) (by kernel_rfl) rfl fun ρ g8 _ _ h3 hle hJ=>cJ fun v8 h8=>cI rfl (bd ⟨rfl,?_⟩)) ?_
  ·obtain⟨Xn,rfl⟩:=h8
   exact GL (by decide) (by decide) rfl rfl rfl h3 hJ (aH.mono ((G.bJ _).trans hle)) (by omega)
  refine Um [[],[],[],[]] [.z vy,.z WK,.z aC,.z aP] (by kernel_rfl) rfl ?_
  refine bC (cH (js:=[(3,85),(4,86),(5,87),(6,88)]) (by kernel_rfl) rfl fun ρ g8 _ _ hle hJ=>cI rfl (cI rfl (cI rfl (cI rfl (bd (az rfl (bj T.ok rfl (St.start g8) (vs:=[(0,fv e1),(1,fv e2),(2,fv e3),(3,fv (ct 1 false q))]) (cells:=fl [e1,e2,e3,ct 1 false q]) rfl rfl rfl rfl rfl rfl (by decide) (by decide) (by kernel_rfl) rfl fun b g' iS _=> ?_))))))) ?_
  ·obtain⟨g2,e1,e2,e3⟩:=kj (α:=bc) iS (cO.fl _ _)
   exact⟨g2,e1,e2,e3⟩
  refine bC (il (js:=[(2,84),(7,89),(2,84)]) (by kernel_rfl) rfl fun ρ g8 _ _ h3 hle hJ=>cJ fun _ _=>cJ fun v5 h5=>fH rfl fun v2 _ r2=>bd ⟨rfl,Jo (by decide) (by decide) rfl rfl rfl r2 h3 hJ h5 (by omega) (by show 4≤100;decide)⟩) ?_
  refine bC (cH (js:=[(8,90),(8,90)]) (by kernel_rfl) rfl fun ρ g8 _ _ hle hJ=>cJ fun _ _=>fH rfl fun v5 _ r5=>bd (az rfl (ay Pv aI rfl rfl rfl rfl rfl (Qs v5 (l++[e1,e2,e3,ct 1 false q]) 100000 g8 (Pw hJ r5) (by rw[List.length_append];show l.length+4≤_;omega)) fun g' u hf hv=>⟨g',rfl,hf,by rw[←hO];exact hv⟩))) ?_
  refine bC (il (js:=[]) (by kernel_rfl) rfl fun ρ g8 _ _ h3 hle hJ=>bd ⟨rfl,zg (by decide) (by decide) rfl rfl rfl h3 hJ⟩) vc
 intro ρ g9 hle hJ dh
 refine cJ fun v9 Ce=>fH rfl fun v10 _ WB=>bd ?_
 replace Ce:iI g9 v9 b:=Ce
 obtain⟨b9,hs,rfl⟩:=Jp hJ (dh 2 rfl) (dh 8 rfl) WB
 have ah:=(G.bJ _).trans hle;obtain⟨aq,aC,aP,dO,mg,vy⟩:=iu ah aq aC aP dO mg vy;obtain⟨aH,dz,bI,bM⟩:=dE ah aH dz bI bM
 clear hle hJ dh WB ρ
 obtain⟨sm,rfl,WD⟩:=id Ce
 have Uq:((List.range 11).map sm).all Value.oneCell'=true:=by
  rw[List.all_eq_true]
  intro u hu
  obtain⟨i,hi,rfl⟩:=List.mem_map.1 hu
  obtain⟨_,_,e⟩:=(WD i (List.mem_range.1 hi)).isSlice
  rw[e];rfl
 clear WD
 skip
 refine bg rfl (aA T.ok 0 rfl hs rfl rfl rfl rfl rfl rfl Uq rfl rfl ?_);replace hs:=hs;rintro g1 hs ah;obtain⟨aq,aC,aP,dO,mg,vy⟩:=iu ah aq aC aP dO mg vy;obtain⟨aH,dz,bI,Ce,bM⟩:=kN ah aH dz bI Ce bM
 obtain⟨g2,bR,aU,ah,aL⟩:=hs.a_ (i:=0) rfl;replace hs:=aU;clear aU;rw[←bR];obtain⟨aq,aC,aP,dO,mg,vy⟩:=iu ah aq aC aP dO mg vy;obtain⟨aH,dz,bI,Ce,bM⟩:=kN ah aH dz bI Ce bM
 clear Uq
 have aC:EP g2 b9 0 ((List.range 11).map sm):=aL;clear aL
 replace hs:St g g2 []:=hs
 clear vy WK hO
 apply cf;apply aB;apply aB
 apply bO hs (eJ (fe (eJ (fe (.e (.bool false)::fe (gE (fe (.f (Fact.rs (mz b A.waf A.time))::gE (fe (.f (Fact.rs (mz b A.waf A.time)):: .e (.bool true)::eJ (fe (fe (.f (Fact.rs (zW b))::fe (.f (Fact.rs (zW b)):: .e (.bool true)::fe (.e (.bool false)::[]))))))))))))))) 31 [(30,122)] (by kernel_rfl) rfl
 ·refine Dm [[],[],[0,1],[],[],[3,4]] [.z mg,.z dO,.c wi fun g' h=>D_ _ b A g' (bI.mono h) hK (bM.mono h),.z aC,.z dO,.c wi fun g' h=>D_ _ b A g' (Ce.mono h) hK (bM.mono h)] hs (by kernel_rfl) rfl ?_
  refine aw (ak (js:=[(2,94),(5,97)]) (by kernel_rfl) fun gd hf=>ai rfl (ai rfl (aj (az rfl (aM _ T.ok rfl ⟨gd,rfl,aZ.refl _,congrArg Value.bool (bne_self_eq_false (th b A))⟩))))) ?_
  refine Dm [[6],[7],[7],[9,7],[7],[11,7]] [.z mg,.z dO,.z dO] hs (by kernel_rfl) rfl ?_
  refine aw (ak (js:=[(8,100),(10,102),(12,104),(7,99),(7,99)]) (by kernel_rfl) fun gd hf=>ai rfl (ai rfl (ai rfl (ai rfl (ai rfl (aj (az rfl (ay IN aI rfl rfl rfl rfl rfl (wI _ b A.waf A.time gd (bI.mono ((G.bJ _).trans hf.le)) hK (bM.mono ((G.bJ _).trans hf.le))) fun g' u hf hv=>⟨g',rfl,hf,hv⟩)))))))) ?_
  refine Dm [[7],[7],[15,7],[7],[17,7]] [.z aC,.z dO,.z dO] hs (by kernel_rfl) rfl ?_
  refine aw (ak (js:=[(14,106),(16,108),(18,110),(7,99)]) (by kernel_rfl) fun gd hf=>ai rfl (ai rfl (ai rfl (ai rfl (aj (az rfl (ay IN aI rfl rfl rfl rfl rfl (wI _ b A.waf A.time gd (Ce.mono ((G.bJ _).trans hf.le)) hK (bM.mono ((G.bJ _).trans hf.le))) fun g' u hf hv=>⟨g',rfl,hf,hv⟩))))))) ?_
  refine aw (ak (js:=[(13,105),(19,111),(19,111),(7,99)]) (by kernel_rfl) fun gd hf=>aY fun v1 h1=>aY fun _ _=>aY fun v2 h2=>ai rfl (aj (az rfl (ay Dc aI rfl rfl rfl rfl rfl (pO v1 v2 _ _ gd h1 h2) fun g' u hf hv=>⟨g',rfl,hf,by rw[decide_eq_true rfl]at hv;exact hv⟩)))) ?_
  refine Dm [[20,7],[7,21],[22],[23]] [.z mg] hs (by kernel_rfl) rfl ?_
  refine aw (ak (js:=[(24,116),(23,115),(23,115)]) (by kernel_rfl) fun gd hf=>ai rfl (ai rfl (ai rfl (aj (az rfl (ay Px aI rfl rfl rfl rfl rfl (Gu _ b gd (bI.mono ((G.bJ _).trans hf.le)) hK (bM.mono ((G.bJ _).trans hf.le))) fun g' u hf hv=>⟨g',rfl,hf,hv⟩)))))) ?_
  refine Dm [[23]] [.z aC] hs (by kernel_rfl) rfl ?_
  refine aw (ak (js:=[(26,118),(23,115)]) (by kernel_rfl) fun gd hf=>ai rfl (ai rfl (aj (az rfl (ay Px aI rfl rfl rfl rfl rfl (Gu _ b gd (Ce.mono ((G.bJ _).trans hf.le)) hK (bM.mono ((G.bJ _).trans hf.le))) fun g' u hf hv=>⟨g',rfl,hf,hv⟩))))) ?_
  refine aw (ak (js:=[(25,117),(27,119),(27,119),(23,115)]) (by kernel_rfl) fun gd hf=>aY fun v1 h1=>aY fun _ _=>aY fun v2 h2=>ai rfl (aj (az rfl (ay Dc aI rfl rfl rfl rfl rfl (pO v1 v2 _ _ gd h1 h2) fun g' u hf hv=>⟨g',rfl,hf,by rw[decide_eq_true rfl]at hv;exact hv⟩)))) ?_
  exact Dz [[28,23],[23,29]] [] hs (by kernel_rfl) rfl
 (repeat clear hs);intro g7 hs ah;obtain⟨aq,aC,aP,aH,dz,Ce⟩:=iu ah aq aC aP aH dz Ce
 apply cf
 refine aS rfl rfl ?_
 apply aE;apply au;apply aB
 clear Ce bI aC mg
 obtain⟨cB,WG⟩: ∃c,c=ofM (l++[ct 1 false q]) 100000:=⟨_,rfl⟩
 have WH:=NH (l:=l++[ct 1 false q]) 100000 (by rw[List.length_append,List.length_singleton];omega)
 rw[←WG]at WH
 apply lJ (.f Xe::fe (.f Fact.any::fe (.f (Fact.rs [ct 1 false q]):: .f Fact.any:: .f (WE cB):: .f Fact.any::[]))) 8 [(6,129),(7,24)] [2,5,7] [[],[],[]] (NL g l [ct 1 false q] 2 5 7 (List.replicate 11 (.slice none 0 0)) 35) GK ⟨[],.inl ⟨rfl,rfl⟩,hs.dr⟩ (by kernel_rfl) ⟨UQ,cY,cr _,cY,UR _,cY,trivial⟩
 ·refine bC (cH (js:=[]) (by kernel_rfl) rfl fun ρ g8 _ _ hle hJ=>bd (az rfl (bj T.ok rfl (St.start g8) (vs:=[]) (cells:=[]) rfl rfl rfl rfl rfl rfl (by decide) (by decide) (by kernel_rfl) rfl fun b g' iS _=> ?_))) ?_
  ·obtain⟨g2,e1,e2,e3⟩:=kj (α:=bc) (xs:=[]) iS rfl
   exact⟨g2,e1,e2,some ⟨b,0,none⟩,rfl⟩
  refine Um [[]] [] (by kernel_rfl) rfl ?_
  refine bC (il (js:=[(0,123),(1,124)]) (by kernel_rfl) rfl fun ρ g8 _ _ h3 hle hJ=>cJ fun v8 h8=>cI rfl (bd ⟨rfl,?_⟩)) ?_
  ·obtain⟨Xn,rfl⟩:=h8
   exact GL (by decide) (by decide) rfl rfl rfl h3 hJ (aH.mono ((G.bJ _).trans hle)) (by omega)
  refine Um [[]] [.z aP] (by kernel_rfl) rfl ?_
  refine bC (cH (js:=[(3,126)]) (by kernel_rfl) rfl fun ρ g8 _ _ hle hJ=>cI rfl (bd (az rfl (bj T.ok rfl (St.start g8) (vs:=[(0,fv (ct 1 false q))]) (cells:=fl [ct 1 false q]) rfl rfl rfl rfl rfl rfl (by decide) (by decide) (by kernel_rfl) rfl fun b g' iS _=> ?_)))) ?_
  ·obtain⟨g2,e1,e2,e3⟩:=kj (α:=bc) iS (cO.fl _ _)
   exact⟨g2,e1,e2,e3⟩
  refine bC (il (js:=[(2,125),(4,127),(2,125)]) (by kernel_rfl) rfl fun ρ g8 _ _ h3 hle hJ=>cJ fun _ _=>cJ fun v5 h5=>fH rfl fun v2 _ r2=>bd ⟨rfl,Jo (by decide) (by decide) rfl rfl rfl r2 h3 hJ h5 (by omega) (by show 1≤100;decide)⟩) ?_
  refine bC (cH (js:=[(5,128),(5,128)]) (by kernel_rfl) rfl fun ρ g8 _ _ hle hJ=>cJ fun _ _=>fH rfl fun v5 _ r5=>bd (az rfl (ay Pv aI rfl rfl rfl rfl rfl (Qs v5 (l++[ct 1 false q]) 100000 g8 (Pw hJ r5) (by rw[List.length_append];show l.length+1≤_;omega)) fun g' u hf hv=>⟨g',rfl,hf,by rw[WG];exact hv⟩))) ?_
  refine bC (il (js:=[]) (by kernel_rfl) rfl fun ρ g8 _ _ h3 hle hJ=>bd ⟨rfl,zg (by decide) (by decide) rfl rfl rfl h3 hJ⟩) vc
 intro ρ g9 hle hJ dh
 refine cJ fun v9 Ce=>fH rfl fun v10 _ WB=>bd ?_
 replace Ce:iI g9 v9 cB:=Ce
 obtain⟨b9,hs,rfl⟩:=Jp hJ (dh 2 rfl) (dh 5 rfl) WB
 have ah:=(G.bJ _).trans hle;obtain⟨aq,aP,dz⟩:=ef ah aq aP dz
 clear hle hJ dh WB ρ
 obtain⟨sn,rfl,H5⟩:=id Ce
 have Uz:((List.range 11).map sn).all Value.oneCell'=true:=by
  rw[List.all_eq_true]
  intro u hu
  obtain⟨i,hi,rfl⟩:=List.mem_map.1 hu
  obtain⟨_,_,e⟩:=(H5 i (List.mem_range.1 hi)).isSlice
  rw[e];rfl
 clear H5
 skip
 refine bg rfl (aA T.ok 0 rfl hs rfl rfl rfl rfl rfl rfl Uz rfl rfl ?_);replace hs:=hs;rintro g1 hs ah;obtain⟨aq,aP,dz,Ce⟩:=dE ah aq aP dz Ce
 obtain⟨g2,bR,aU,ah,aL⟩:=hs.a_ (i:=0) rfl;replace hs:=aU;clear aU;rw[←bR];obtain⟨aq,aP,dz,Ce⟩:=dE ah aq aP dz Ce
 clear Uz
 have aC:EP g2 b9 0 ((List.range 11).map sn):=aL;clear aL
 replace hs:St g g2 []:=hs
 apply cf;refine dx 1 [.z aC] (St.start _) rfl ?_
 refine an rfl rfl (ay Pz aI rfl rfl rfl rfl rfl (Jh _ cB 1 1000000 _ Ce WH) ?_);rintro g1 _ aN ⟨v5,v6,rfl,aT,bT⟩;replace hs:=hs.call aN;have ah:=aN.le;obtain⟨aq,aC,aP,dz,Ce⟩:=kN ah aq aC aP dz Ce
 clear aN aT
 refine ba rfl ?_;refine dx 1 [.z aC] (St.start _) rfl ?_
 refine an rfl rfl (ay Pz aI rfl rfl rfl rfl rfl (Jh _ cB 2 1000000 _ Ce WH) ?_);rintro g1 _ aN ⟨v7,v8,rfl,aT,dj⟩;replace hs:=hs.call aN;have ah:=aN.le;obtain⟨aq,aP,bT,dz⟩:=dE ah aq aP bT dz
 clear aN aT
 refine ba rfl ?_;refine aX rfl ?_;apply aB;refine aX rfl ?_;apply aG
 obtain⟨Xk,XL⟩:=Ig t0 WI (sw:=q) (by omega) (by omega) (c:=cB) (by rw[WG,hle,UP])
 clear WG WH Ce aC dO WI
 generalize(jb cB 1 1000000).map (·.idn)=fr at*
 generalize(jb cB 2 1000000).map (·.idn)=US at*
 (repeat clear oh)
 obtain⟨a5,c5,rfl⟩:=bT.isSlice
 obtain⟨a8,c8,rfl⟩:=dj.isSlice
 clear dj aH bN
 have Wo:fr.length≤100:=by omega
 refine bS (fun m a' w=> ∃(i:Nat) (g':G),w=g'.w∧St g g' []∧G.le g g'∧Rs g' (.slice a5 fr.length c5) fr∧Rs g' (.slice a4 F2.length c4) F2∧EP g' Wq 0 (bW (ct 1 false q))∧i≤fr.length∧m=fr.length-i∧
   Fr 188 [] [(11,.bool true),(14,.slice a3 F1.length c3),(15,.slice a4 F2.length c4),(21,.pointer (some ⟨Wq,0,none⟩)),(26,.slice a5 fr.length c5),(28,.slice a8 US.length c8),(29,.int .i64 ((((fr.take i).filter fun n=>decide (600≤n)).length:Nat):Int)),(30,.int .i64 (i:Nat))] a') fr.length
  (fun a' ha=>⟨0,_,rfl,hs,aq,bT,dz,aP,Nat.zero_le _,rfl,ha.keep (by(repeat (first|exact trivial|refine⟨rfl,?_⟩)))⟩) ?_
 (repeat clear hs);(repeat clear aq);(repeat clear bT);(repeat clear dz);(repeat clear aP)
 rintro m a' _ ⟨i,g',rfl,hs,aq,bT,dz,aP,hi,rfl,eI⟩
 revert a'
 apply cQ;apply aB;refine aX rfl ?_
 by_cases bh:i<fr.length
 ·refine aJ (b:=decide ((i:Int)<(fr.length:Int))) (decide_eq_true (by omega)) rfl ?_
  have ic:dA fr (i:Int)=some fr[i]:=cU rfl bh
  have SS:((fr.take (i+1)).filter fun n=>decide (600≤n)).length=((fr.take i).filter fun n=>decide (600≤n)).length+if decide (600≤fr[i])=true then 1 else 0:=by
   rw[List.take_add_one,List.getElem?_eq_getElem bh,List.filter_append,List.length_append]
   congr 1
   show([fr[i]].filter _).length=_
   rw[List.filter_cons]
   split<;>rfl
  have fY:((fr.take i).filter fun n=>decide (600≤n)).length≤100:=Nat.le_trans (List.length_filter_le ..) (by rw[List.length_take];omega)
  generalize((fr.take i).filter fun n=>decide (600≤n)).length=cn at*
  generalize fr[i]=n at*
  apply aE;apply au;apply aB;apply aG;refine cP 2 rfl ?_
  refine an rfl rfl (aW T.ok rfl bT (y:=n) ic rfl rfl rfl rfl rfl rfl ?_)
  rintro b5 q5 ys aL rfl
  refine Wm 1 [.e aL 0] (St.start _) rfl ?_
  clear aL
  refine ba rfl ?_
  cases UU:decide (600≤n)with
  |true=>
   rw[UU,if_pos rfl]at SS
   refine aJ rfl rfl ?_
   apply ar;refine Wp 3 rfl ?_;apply aD;apply bU;apply au;apply ar;refine Wp 3 rfl ?_;apply aD
   refine fun a ha=>⟨fr.length-(i+1),by omega,i+1,_,rfl,hs,aq,bT,dz,aP,by omega,rfl,ha.keep ⟨rfl,rfl,rfl,rfl,rfl,rfl,kI rfl ?_,kI rfl (by rw[wr (by omega) (by omega)];omega),trivial⟩⟩
   rw[SS,wr (by omega) (by omega)];omega
  |false=>
   rw[UU,if_neg (by simp)]at SS
   refine aS rfl rfl ?_
   apply aE;apply bU;apply au;apply ar;refine Wp 3 rfl ?_;apply aD
   refine fun a ha=>⟨fr.length-(i+1),by omega,i+1,_,rfl,hs,aq,bT,dz,aP,by omega,rfl,ha.keep ⟨rfl,rfl,rfl,rfl,rfl,rfl,kI rfl ?_,kI rfl (by rw[wr (by omega) (by omega)];omega),trivial⟩⟩
   rw[SS];omega
 ·refine aS (b:=decide ((i:Int)<(fr.length:Int))) (decide_eq_false (by omega)) rfl ?_
  rw[List.take_of_length_le (by omega),Xk]
  clear Xk
  apply bE;apply bK;apply bK;apply dc;apply au;refine aX rfl ?_;apply aB;refine aX rfl ?_;apply aG
  have XM:F2.length≤6:=O5
  obtain⟨mv,zr⟩: ∃n,n=(F2.filter fun p=>decide (q≤p.time)).length:=⟨_,rfl⟩
  rw[←zr]
  refine bS (fun m a' w=> ∃(i:Nat) (g':G),w=g'.w∧St g g' []∧G.le g g'∧Rs g' (.slice a4 F2.length c4) F2∧EP g' Wq 0 (bW (ct 1 false q))∧i≤F2.length∧m=F2.length-i∧
    Fr 188 [] [(11,.bool true),(14,.slice a3 F1.length c3),(15,.slice a4 F2.length c4),(21,.pointer (some ⟨Wq,0,none⟩)),(26,.slice a5 fr.length c5),(28,.slice a8 US.length c8),(29,.int .i64 (mv:Nat)),(31,.int .i64 ((((F2.take i).filter fun p=>decide (q≤p.time)).length:Nat):Int)),(32,.int .i64 (i:Nat))] a') F2.length
   (fun a' ha=>⟨0,_,rfl,hs,aq,dz,aP,Nat.zero_le _,rfl,ha.keep (by(repeat (first|exact trivial|refine⟨rfl,?_⟩)))⟩) ?_
  (repeat clear hs);(repeat clear aq);(repeat clear bT);(repeat clear dz);(repeat clear aP)
  rintro m a' _ ⟨i,g',rfl,hs,aq,dz,aP,hi,rfl,eI⟩
  revert a'
  apply cQ;apply aB;refine aX rfl ?_
  by_cases bh:i<F2.length
  ·refine aJ (b:=decide ((i:Int)<(F2.length:Int))) (decide_eq_true (by omega)) rfl ?_
   have SS:((F2.take (i+1)).filter fun p=>decide (q≤p.time)).length=((F2.take i).filter fun p=>decide (q≤p.time)).length+if decide (q≤F2[i].time)=true then 1 else 0:=by
    rw[List.take_add_one,List.getElem?_eq_getElem bh,List.filter_append,List.length_append]
    congr 1
    show([F2[i]].filter _).length=_
    rw[List.filter_cons]
    split<;>rfl
   have fY:((F2.take i).filter fun p=>decide (q≤p.time)).length≤100:=Nat.le_trans (List.length_filter_le ..) (by rw[List.length_take];omega)
   generalize((F2.take i).filter fun p=>decide (q≤p.time)).length=cn at*
   obtain⟨b0,p0,ys,rfl,vy,hy⟩:=dz.at (i:=i) (List.getElem?_eq_getElem bh)
   obtain rfl:ys=bW F2[i]:=hy
   generalize F2[i]=y at*
   apply aE;apply au;apply aB;apply aG;apply aB
   apply bO hs (fj []) 8 [(7,166)] (by kernel_rfl) rfl
   ·refine Dm [[],[]] [] hs (by kernel_rfl) rfl ?_
    refine aw (ak (js:=[(0,159),(1,160)]) (by kernel_rfl) fun gd hf=>ai rfl (ai rfl (aj (az rfl (fT T.ok rfl rfl rfl (by omega) (by omega) rfl rfl rfl ⟨gd,rfl,aZ.refl _,rfl⟩))))) ?_
    exact Dz [[2],[3],[],[5],[4,6]] [.e vy 5,.z aP] hs (by kernel_rfl) rfl
   (repeat clear hs);intro g7 hs ah;obtain⟨aq,aP,dz⟩:=ef ah aq aP dz
   apply cf
   cases UU:decide (q≤y.time)with
   |true=>
    rw[UU,if_pos rfl]at SS
    refine aJ UU rfl ?_
    apply ar;refine Wp 3 rfl ?_;apply aD;apply bU;apply au;apply ar;refine Wp 3 rfl ?_;apply aD
    refine fun a ha=>⟨F2.length-(i+1),by omega,i+1,_,rfl,hs,aq,dz,aP,by omega,rfl,ha.keep ⟨rfl,rfl,rfl,rfl,rfl,rfl,rfl,kI rfl ?_,kI rfl (by rw[wr (by omega) (by omega)];omega),trivial⟩⟩
    rw[SS,wr (by omega) (by omega)];omega
   |false=>
    rw[UU,if_neg (by simp)]at SS
    refine aS UU rfl ?_
    apply aE;apply bU;apply au;apply ar;refine Wp 3 rfl ?_;apply aD
    refine fun a ha=>⟨F2.length-(i+1),by omega,i+1,_,rfl,hs,aq,dz,aP,by omega,rfl,ha.keep ⟨rfl,rfl,rfl,rfl,rfl,rfl,rfl,kI rfl ?_,kI rfl (by rw[wr (by omega) (by omega)];omega),trivial⟩⟩
    rw[SS];omega
  ·refine aS (b:=decide ((i:Int)<(F2.length:Int))) (decide_eq_false (by omega)) rfl ?_
   rw[List.take_of_length_le (by omega),←zr]
   apply bE;apply bK;apply bK;apply dc;apply au;refine cP 7 rfl ?_
   refine cM 175 (b':=true) (by simp) rfl ?_
   refine ba rfl ?_
   refine aF (aV rfl rfl (hs.ret (congrArg Value.bool ?_)))
   rw[show(fr.length:Int)+(US.length:Int)=(F1.length:Int)+(F2.length:Int)from by omega]
   simp
end Go.Proofs.YtebobfdheanknaaGreatDoor
namespace Go.K
open Go
theorem CE{P:Program}{f:FuncId}{fn:Func}{s:ChangeSpec}{c:OpenClaim}
  (h1:(c.inPlace==P.inPlace f)=true) (h2:(c.unfollowed==P.unfollowed f)=true) (h3:(c.recurses==P.recurses f)=true) (h4:(c.named==P.varsNamed f)=true)
  (h5:(c.wf (OpenSpec.ofChange s)&&fn.params.all (P.readableRec ·)&&namedTie P c.named s.vars)=true) (a2:laidOutB P=true) (a3:mapsRowed P=true)
  (h6:(P.mayEnter&&(c.lifted==P.liftsFinal)&&(P.make==some c.make))=true)
  (h7:((c.plainKeys==P.plainKeys)&&P.stopsHeard&&(P.stops==[])&&(P.stopKnobs==[]))=true)
  (h8:((c.stops==[])&&(c.knobs==[])&&(c.maps==(fn.params.toList++s.plain.varTypes P).any (P.mapsRec ·))&&(c.ifaces==(fn.params.toList++s.plain.varTypes P).any (P.ifacesRec ·))&&(c.mapsOut==P.mapsAmong fn.resultTypes.toList)&&
   (c.loops==(fn.params.toList++s.plain.varTypes P).any (P.loopsFrom ·))&&(c.wideKeys==(fn.params.toList++s.plain.varTypes P++fn.resultTypes.toList).any (P.wideKeysFrom ·))&&
   s.vars.all (P.varReadable ·)&&fn.resultTypes.all (fun t=>P.readableRec t&&decide (t<P.types.size))&&(c.ifacesOut==fn.resultTypes.toList.any (P.ifacesRec ·))&&(c.loopsOut==fn.resultTypes.toList.any (P.loopsFrom ·))&&c.shortTexts.isNone&&(c.kinds==(if c.domain.isEmpty then []else fn.params.toList.map fun t=>match P.underlying t with|some (.int k)=>some k|_=>none))&&(c.pinned==c.pinnedBy)&&
   (c.veiled==(fn.params.toList++s.plain.varTypes P++fn.resultTypes.toList).any (P.veiledRec ·))&&c.veiledFits P fn.params.toList (fn.params.toList++s.plain.varTypes P++fn.resultTypes.toList))=true):joinedFacts P f fn s c=true:=by
 unfold joinedFacts
 simp only[Bool.and_eq_true]at h5 h6 h7 h8⊢
 obtain⟨⟨a1,a4⟩,a5⟩:=h5
 obtain⟨⟨b1,b2⟩,b3⟩:=h6
 obtain⟨⟨⟨d1,d2⟩,d3⟩,d4⟩:=h7
 obtain⟨⟨⟨⟨⟨⟨⟨⟨⟨⟨⟨⟨⟨⟨⟨e1,e2⟩,e3⟩,e4⟩,e5⟩,e6⟩,e7⟩,e8⟩,e9⟩,Vp⟩,Vq⟩,Vr⟩,Vs⟩,Vt⟩,Vu⟩,Vv⟩:=h8
 exact⟨⟨⟨⟨⟨⟨⟨⟨⟨⟨⟨⟨⟨⟨⟨⟨⟨⟨⟨⟨⟨⟨⟨⟨⟨⟨⟨⟨⟨⟨⟨a1,a2⟩,a3⟩,a4⟩,a5⟩,e1⟩,d3⟩,e2⟩,d4⟩,h1⟩,h2⟩,h3⟩,h4⟩,e3⟩,e4⟩,e5⟩,e6⟩,e7⟩,e8⟩,e9⟩,Vp⟩,Vq⟩,d1⟩,Vr⟩,d2⟩,b1⟩,b2⟩,b3⟩,Vs⟩,Vt⟩,Vu⟩,Vv⟩
end Go.K
