/- Parts of the proof, from: From the given statements to my contracts: integers. -/
import Derived.Test.YtebobfdheanknaaGreatDoorYn
import Derived.JoinedOf
namespace Go.Proofs.YtebobfdheanknaaGreatDoor
open Go Go.K Go.RowKit Go.ChangeShapes Go.WideShapes
set_option maxRecDepth 100000
theorem Cd{H:Type}{enc:TypeId×Value→H}{W:World}{v:Value}{d:DataW H}{p:List MemPlace}(lH:Value.okWide Tryz.prog W .any 0 3 v)(h:DataW.Trod enc Tryz.prog W 0 (fun _=>true) true 3 v d p):
  ∃n:Int,v= .int .i64 n∧mH n:=by
 obtain⟨n,rfl,_,_,hw⟩:=open_int Tryz.underlying3 lH h
 exact⟨n,rfl,wf_i64 hw⟩
end Go.Proofs.YtebobfdheanknaaGreatDoor
namespace Go.Proofs.YtebobfdheanknaaGreatDoor
open Go Go.K
set_option maxRecDepth 10000
attribute [local irreducible] W WL cT bu bX bA bB bD cW cG
theorem Ai{k:Int}(h:1≤k∧k≤11):(fO k).head? =some (UInt8.ofNat (2*k).toNat):=by
 have:k=1∨k=2∨k=3∨k=4∨k=5∨k=6∨k=7∨k=8∨k=9∨k=10∨k=11:=by omega
 rcases this with e|e|e|e|e|e|e|e|e|e|e<;>subst e<;>decide+kernel
theorem uF{f:bc}(h:fp f≠[]):fp f=fO f.kind++sD f ((dM f.kind).elim [] (·.key)):=by
 unfold fp;rw[if_pos (z_ h)]
theorem yx{f:bc}(h:fm f=true):1≤f.kind∧f.kind≤11:=by
 obtain⟨s,hs,_⟩:=kQ h
 obtain⟨_,_,_,_,_,_,h1,h2⟩:=mO hs
 exact⟨h1,h2⟩
theorem yy{f h:bc}(hf:fp f≠[])(e:fp f=fp h):f.kind=h.kind:=by
 have hh:fp h≠[]:=fun e2=>hf (e.trans e2)
 have k1:=yx (z_ hf)
 have k2:=yx (z_ hh)
 have h1:=Ai k1
 have h2:=Ai k2
 have a1:(fp f).head? =some (UInt8.ofNat (2*f.kind).toNat):=by
  rw[uF hf,List.head?_append,h1];rfl
 have a2:(fp h).head? =some (UInt8.ofNat (2*h.kind).toNat):=by
  rw[uF hh,List.head?_append,h2];rfl
 rw[e,a2]at a1
 have:=congrArg UInt8.toNat (Option.some.inj a1)
 simp only[UInt8.toNat_ofNat']at this
 omega
theorem y'{day:Int}{l:List bc}: ∀{p},p∈jU day l→p.2∈l:=by
 refine xJ (P:=fun m l=> ∀{p},p∈m→p.2∈l) (fun h=>absurd h List.not_mem_nil) (fun m l f ih p hp=> ?_) l
 rcases AL day m f with e|⟨_,e⟩<;>rw[e]at hp
 ·exact List.mem_append_left _ (ih hp)
 ·rcases xH hp with rfl|hp
  ·exact List.mem_append_right _ (List.mem_singleton_self _)
  ·exact List.mem_append_left _ (ih hp)
theorem AA{a:List UInt8}: ∀{m:KF},(∀p∈m,p.1≠a)→zt a m=none
 |[],_=>rfl
 |(k,v)::r,h=>by
  unfold zt
  rw[if_neg fun e=>h _ (List.mem_cons_self ..) e.symm]
  exact AA fun p hp=>h p (List.mem_cons_of_mem _ hp)
theorem AB{a:List UInt8}{x:bc}: ∀{m:KF},(∀p∈m,p.1≠a)→mE a x m=m++[(a,x)]
 |[],_=>rfl
 |(k,v)::r,h=>by
  unfold mE
  rw[if_neg fun e=>h _ (List.mem_cons_self ..) e.symm,AB fun p hp=>h p (List.mem_cons_of_mem _ hp)]
  rfl
theorem AH{day:Int}{l:List bc}{f:bc}(hk:fp f≠[])(hd:f.day≤day)(h: ∀x∈l,fp x≠fp f):jU day (l++[f])=jU day l++[(fp f,f)]:=by
 have hn: ∀p∈jU day l,p.1≠fp f:=fun p hp=>by
  rw[((AM day l).2 p hp).1];exact h _ (y' hp)
 rw[C_]
 unfold iD
 rw[if_neg fun h=>h.elim hk fun e=>by omega,AA hn,if_pos rfl,AB hn]
theorem SX{day:Int}{l:List bc}{f:bc}(h:fp f=[]∨day<f.day):jU day (l++[f])=jU day l:=by
 rw[C_];unfold iD;rw[if_pos h]
theorem AD{a:List UInt8}{x:bc}{i:Nat}(hx:x.kind≠(i:Int)+1): ∀{m:KF},(∀p∈m,p.1=a→p.2.kind=x.kind)→gH (mE a x m) i=gH m i
 |[],_=>by simp[mE,gH,hx]
 |(k,v)::r,h=>by
  unfold mE
  split
  ·rename_i e
   have:=h _ (List.mem_cons_self ..) e.symm
   simp only at this
   simp[gH,hx,this]
  ·have ih:=AD (m:=r) hx fun p hp=>h p (List.mem_cons_of_mem _ hp)
   have e1:=Db [(k,v)] (mE a x r) i
   have e2:=Db [(k,v)] r i
   simp only[List.cons_append,List.nil_append]at e1 e2
   rw[e1,e2,ih]
theorem Ky{day:Int}{l:List bc}{f:bc}{i:Nat}(hi:f.kind≠(i:Int)+1):gH (jU day (l++[f])) i=gH (jU day l) i:=by
 rw[C_]
 rcases AL day (jU day l) f with e|⟨hk,e⟩<;>rw[e]
 refine AD hi fun p hp e2=> ?_
 obtain⟨e3,e4⟩:=(AM day l).2 p hp
 exact yy (by rw[←e3];exact e4) (by rw[←e3];exact e2)
theorem jE{day:Int}{l:List bc}{f:bc}{i:Nat}(hi:f.kind≠(i:Int)+1):(ofM (l++[f]) day).ls i=(ofM l day).ls i:=by
 show dK _ (gH _ i)=dK _ (gH _ i);rw[Ky hi]
theorem AI{day:Int}{l:List bc}{i:Nat}(h: ∀f∈l,f.kind≠(i:Int)+1):gH (jU day l) i=[]:=by
 refine List.eq_nil_iff_forall_not_mem.2 fun f hf=> ?_
 obtain⟨k,hk,e⟩:=sG hf
 exact h f (y' hk) e
theorem SY{day:Int}{l:List bc}{i:Nat}(h: ∀f∈l,f.kind≠(i:Int)+1):(ofM l day).ls i=[]:=by
 show dK _ (gH _ i)=[];rw[AI h];rfl
theorem UA{day:Int}{l:List bc}{f:bc}{i:Nat}(hk:fp f≠[])(hd:f.day≤day)(h: ∀x∈l,fp x≠fp f)(hi:f.kind=(i:Int)+1)(hg:f.gone=false):gH (jU day (l++[f])) i=gH (jU day l) i++[f]:=by
 rw[AH hk hd h,Db]
 congr 1
 simp[gH,hi,hg]
theorem Ex{α:Type}{k:α→Int×Int}(p:α→Bool): ∀(l r:List α),zj k l→zj k r→(lE k l r).filter p=lE k (l.filter p) (r.filter p):=by
 intro l
 induction l with
 |nil=>intro r _ _;rfl
 |cons x l ih=>
  intro r hl hr
  induction r with
  |nil=>rw[gC,List.filter_nil,gC]
  |cons y r Xk=>
   have CV:=List.pairwise_cons.1 hl
   have HA:=List.pairwise_cons.1 hr
   rw[dQ]
   by_cases hc:kl k y x=true
   ·rw[if_pos hc]
    have e:=Xk HA.2
    cases hy:p y with
    |true=>
     rw[List.filter_cons_of_pos hy,List.filter_cons_of_pos (l:=r) hy,e]
     cases hx:p x with
     |true=>rw[List.filter_cons_of_pos hx,dQ,if_pos hc]
     |false=>
      rw[List.filter_cons_of_neg (by simp[hx])]
      cases hf:l.filter p with
      |nil=>rfl
      |cons z t=>
       have hz:z∈l:=(List.mem_filter.1 (hf▸List.mem_cons_self .. :z∈l.filter p)).1
       have h1:=CV.1 z hz
       rw[dQ,if_pos]
       rw[qt]at hc⊢
       rw[iC]at h1
       omega
    |false=>rw[List.filter_cons_of_neg (by simp[hy]),List.filter_cons_of_neg (l:=r) (by simp[hy]),e]
   ·rw[if_neg hc]
    have e:=ih (y::r) CV.2 hr
    cases hx:p x with
    |true=>
     rw[List.filter_cons_of_pos hx,List.filter_cons_of_pos (l:=l) hx,e]
     cases hf:(y::r).filter p with
     |nil=>rw[gC,gC]
     |cons z t=>
      have hz:z∈y::r:=(List.mem_filter.1 (hf▸List.mem_cons_self .. :z∈(y::r).filter p)).1
      rw[dQ,if_neg]
      rcases List.mem_cons.1 hz with rfl|hz
      ·exact hc
      ·have h1:=HA.1 z hz
       intro HX
       apply hc
       rw[qt]at HX⊢
       rw[iC]at h1
       omega
    |false=>rw[List.filter_cons_of_neg (by simp[hx]),List.filter_cons_of_neg (l:=l) (by simp[hx]),e]
theorem k8{α:Type}{k:α→Int×Int}(p:α→Bool): ∀l:List α,(dK k l).filter p=dK k (l.filter p)
 |[]=>rfl
 |x::l=>by
  have e:dK k (x::l)=lE k [x] (dK k l):=rfl
  rw[e,Ex p _ _ (by simp[zj]) (jG l),k8 p l]
  cases hx:p x with
  |true=>rw[List.filter_cons_of_pos hx];simp only[List.filter_nil];rw[List.filter_cons_of_pos hx];rfl
  |false=>rw[List.filter_cons_of_neg (by simp[hx]),List.filter_cons_of_neg (by simp[hx])];rfl
theorem ze{day:Int}{l:List bc}{f:bc}{i:Nat}(p:bc→Bool)(hp:p f=false)(h: ∀x∈l,fp f≠[]→fp x≠fp f):((ofM (l++[f]) day).ls i).filter p=((ofM l day).ls i).filter p:=by
 by_cases hi:f.kind=(i:Int)+1
 ·show(dK _ (gH _ i)).filter p=(dK _ (gH _ i)).filter p
  rw[k8,k8]
  congr 1
  by_cases hk:fp f=[]∨day<f.day
  ·rw[SX hk]
  ·rw[AH (fun e=>hk (.inl e)) (by omega) (fun x hx=>h x hx fun e=>hk (.inl e)),Db,List.filter_append]
   have:(gH [(fp f,f)] i).filter p=[]:=by
    refine List.filter_eq_nil_iff.2 fun x hx=> ?_
    unfold gH at hx
    obtain⟨q,hq,rfl⟩:=List.mem_map.1 hx
    obtain rfl:=List.mem_singleton.1 (List.mem_filter.1 hq).1
    simp[hp]
   rw[this,List.append_nil]
 ·rw[jE hi]
theorem KU{b c:fX}(h:b.C7=c.C7)(m t:Int):zV b m t=zV c m t:=by
 unfold zV wM;rw[h]
theorem n9{b c:fX}{w:Int}(h:b.C7=c.C7)(hp:(b.procs.filter fun f=>zV b f.waf f.time==w)=c.procs.filter fun f=>zV b f.waf f.time==w):pF b w=pF c w:=by
 unfold pF
 split
 ·rw[hp]
  congr 2
  funext f
  rw[KU h]
 ·rfl
theorem od(w t:Int): ∀(l:List bc) (o:Option bc),l.foldl (n5 w t) o=(l.filter fun f=>f.waf==w).foldl (n5 w t) o
 |[],_=>rfl
 |f::l,o=>by
  rw[List.foldl_cons,od w t l]
  cases hw:f.waf==w with
  |true=>rw[List.filter_cons_of_pos (p:=fun f:bc=>f.waf==w) hw,List.foldl_cons]
  |false=>
   rw[List.filter_cons_of_neg (p:=fun f:bc=>f.waf==w) (by simp[hw])]
   have:n5 w t o f=o:=by unfold n5 zY;simp[hw]
   rw[this]
theorem uG{b c:fX}{w:Int}(t:Int)(h:(b.jw.filter fun f=>f.waf==w)=c.jw.filter fun f=>f.waf==w):pG b w t=pG c w t:=by
 unfold pG;rw[od,od (l:=c.jw),h]
theorem ym{α:Type}(p:α→Bool)(l:List α):l.find? p=(l.filter p).head?:=by
 exact(List.head?_filter ..).symm
theorem rN{b c:fX}{w t:Int}(hl:pG b w t=pG c w t)(hf:((pG c w t).getD gF).prod≠0→(b.oc.find? fun f=>f.prod==((pG c w t).getD gF).prod)=c.oc.find? fun f=>f.prod==((pG c w t).getD gF).prod):fB b w t=fB c w t:=by
 unfold fB
 rw[hl]
 split
 ·rfl
 ·rename_i h;rw[hf h]
theorem Cc{b c:fX}{w:Int}(t:Int)(h:pF b w=pF c w):jb b w t=jb c w t:=by unfold jb;rw[h]
theorem k9{b c:fX}{a:fD}(hf:fB b a.waf a.time=fB c a.waf a.time)(hh:pF b a.waf=pF c a.waf):oj b a=oj c a:=by
 unfold oj mz;rw[hf,Cc _ hh]
end Go.Proofs.YtebobfdheanknaaGreatDoor
namespace Go.Proofs.YtebobfdheanknaaGreatDoor
open Go Go.K
set_option maxRecDepth 10000
attribute [local irreducible] W WL cT bu bX bA bB bD cW cG
def RO(f:bV)(waf idn time:Int)(r:List bc):Prop:=∀i (hi:i<r.length),∃c,j3 f (r.take i)≠[]∧r[i]=Em f waf idn time c (r.take i)
theorem RO.snoc{f:bV}{waf idn time c:Int}{r:List bc}(h:RO f waf idn time r)(fu:j3 f r≠[]):RO f waf idn time (r++[Em f waf idn time c r]):=by
 intro i hi
 rw[List.length_append,List.length_singleton]at hi
 by_cases bh:i<r.length
 ·obtain⟨d,h1,h2⟩:=h i bh
  refine⟨d,?_,?_⟩
  ·rw[List.take_append_of_le_length (by omega)];exact h1
  ·rw[List.getElem_append_left bh,List.take_append_of_le_length (by omega)];exact h2
 ·obtain rfl:i=r.length:=by omega
  refine⟨c,?_,?_⟩
  ·rw[List.take_left];exact fu
  ·rw[List.getElem_append_right (Nat.le_refl _),List.take_left];simp
theorem AE(f:bV)(waf idn time:Int): ∀(cs:List Int) (n:Nat) (out:List bc),RO f waf idn time out→RO f waf idn time (uU f waf idn time cs n out)
 |[],_,_,h=>h
 |_::_,0,_,h=>h
 |c::cs,n+1,out,h=>by
  rw[uU]
  split
  ·exact h
  ·rename_i fu
   exact AE f waf idn time cs n _ (h.snoc fu)
theorem RO.at{f:bV}{waf idn time:Int}{r:List bc}(h:RO f waf idn time r){i:Nat}(hi:i<r.length):r[i].kind=1∧r[i].idn=idn+i∧r[i].waf=waf∧r[i].time=time+10*i:=by
 obtain⟨c,_,e⟩:=h i hi
 have hl:(r.take i).length=i:=by rw[List.length_take];omega
 rw[e]
 unfold Em yn
 rw[hl]
 exact⟨rfl,rfl,rfl,rfl⟩
def Uo(x:bc):Prop:=(x.kind=5∧x.prod=1)∨(x.kind=4∧x.prod=1∧1≤x.waf∧x.waf≤3)∨x.kind=6∨(x.kind=1∧500≤x.idn∧x.idn<508)
theorem UT(t:List UInt8): ∀x∈Eo t,Uo x:=by
 intro x hx
 unfold Eo Cb at hx
 rcases List.mem_append.1 hx with hx|hx
 ·rcases List.mem_cons.1 hx with rfl|hx
  ·exact .inl ⟨rfl,rfl⟩
  ·obtain⟨i,hi,rfl⟩:=List.mem_map.1 hx
   have:=List.mem_range.1 hi
   refine .inr (.inl ⟨rfl,rfl,?_,?_⟩)
   ·show(1:Int)≤((i+1:Nat):Int);omega
   ·show((i+1:Nat):Int)≤3;omega
 ·obtain⟨i,_,rfl⟩:=List.mem_map.1 hx
  exact .inr (.inr (.inl rfl))
theorem UU(t:List UInt8)(f:bV)(cs:List Int): ∀x∈Eo t++uU f 1 500 10 cs 8 [],Uo x:=by
 intro x hx
 rcases List.mem_append.1 hx with hx|hx
 ·exact UT t x hx
 ·obtain⟨i,hi,rfl⟩:=List.mem_iff_getElem.1 hx
  obtain⟨h1,h2,_⟩:=(AE f 1 500 10 cs 8 [] (fun i hi=>absurd hi (Nat.not_lt_zero _))).at hi
  have:=yk f 1 500 10 cs 8 []
  simp only[List.length_nil]at this
  exact .inr (.inr (.inr ⟨h1,by omega,by omega⟩))
def ct(a b:Int):bc:={gF with kind:=7,idn:=5,ver:=1,time:=a,til:=b,par:=3}
theorem NL{a b:Int}(h0:0≤a)(h1:a≤b)(h2:b≤1000000):fm (ct a b)=true:=by
 have e1:dM (ct a b).kind=some (n3 6):=rfl
 unfold fm
 rw[e1]
 have e2:o7 (n3 6).rest (ct a b)=true:=decide_eq_true h1
 have e3:lV (n3 6).fields (ct a b)=some (ow (ct a b)):=by
  have hc: ∀(x:jD) (r:List jD) (g:bc),¬(g.num x.at_<x.lo||x.hi<g.num x.at_)→lV (x::r) g=lV r (g.put x.at_ 0):=fun x r g h=>by rw[lV];exact if_neg h
  have e:(n3 6).fields=lT++mL++gG++[qq]:=rfl
  rw[e]
  simp only[lT,mL,gG,qq,eD,ez,List.cons_append,List.nil_append]
  repeat rw[hc _ _ _ (by simp[ct,bc.num,bc.put,gF];try omega)]
  rfl
 simp only[e2,e3]
 simp[ct,gF,n3,lU,ow]
theorem AG{l:List bc}{day:Int}(hl: ∀x∈l,Uo x)(i:Nat)(hi:i=2∨i=6∨i=7):(ofM l day).ls i=[]:=by
 refine SY fun x hx=> ?_
 rcases hl x hx with h|h|h|h<;>omega
theorem k6{b:fX}(a:fD)(h:b.holds=[]):oI b a=[]:=by
 have e:H8 b a=[]:=by unfold H8 s9;rw[h];rfl
 unfold oI;rw[e];simp[jJ]
theorem NO{b:fX}{a:fD}{x y:Int}(h:b.holds=[ct x y])(hr:b.jS=[]):decide ((0:Int)<((oI b a).length:Nat))=(decide (x≤a.time)&&decide (a.time≤y)):=by
 have hn:s8 b (ct x y) a=(decide (x≤a.time)&&decide (a.time≤y)):=by
  show((wN (ct x y) a.time&&(zZ b (ct x y) a.waf a.time).all rZ)&&(wP (ct x y) a).all rZ)=_
  have e1:(zZ b (ct x y) a.waf a.time).all rZ=true:=rfl
  have e2:(wP (ct x y) a).all rZ=true:=rfl
  rw[e1,e2,Bool.and_true,Bool.and_true]
  rfl
 have ho:A6 b (ct x y) a.time=false:=by
  unfold A6 tv;rw[hr]
  show(bB .i64 3 0==0)=false
  decide+kernel
 have e:H8 b a=if(decide (x≤a.time)&&decide (a.time≤y))=true then [5]else []:=by
  unfold H8 s9
  rw[h]
  show mX b a [] (ct x y)=_
  unfold mX
  rw[hn,ho,Bool.not_false,Bool.and_true]
  rfl
 unfold oI
 rw[vu,e]
 cases(decide (x≤a.time)&&decide (a.time≤y))<;>rfl
theorem O1{l:List bc}(hl: ∀x∈l,Uo x)(A:fD){x y:Int}(h0:0≤x)(h1:x≤y)(h2:y≤1000000):
  th (ofM (l++[ct x y]) 100000) A=th (ofM l 100000) A+bn (decide (x≤A.time)&&decide (A.time≤y)) 32:=by
 have hv:=NL h0 h1 h2
 have hk:fp (ct x y)≠[]:=by
  have e:fp (ct x y)=fO 7++sD (ct x y) ((dM 7).elim [] (·.key)):=by unfold fp;rw[if_pos hv];rfl
  rw[e,show fO 7=[14]from by decide+kernel];simp
 have fu: ∀z∈l,fp z≠fp (ct x y):=fun z hz e=>by
  have:=yy (by rw[e];exact hk) e
  have h7:(ct x y).kind=7:=rfl
  rcases hl z hz with h|h|h|h<;>omega
 have O2: ∀i,i≠6→(ofM (l++[ct x y]) 100000).ls i=(ofM l 100000).ls i:=fun i hi=>jE (by show(7:Int)≠_;omega)
 have hh:(ofM (l++[ct x y]) 100000).holds=[ct x y]:=by
  show dK _ (gH _ 6)=_
  rw[UA hk (by show(0:Int)≤_;omega) fu rfl rfl,AI (fun z hz=>by rcases hl z hz with h|h|h|h<;>omega)]
  rfl
 have hr:(ofM (l++[ct x y]) 100000).jS=[]:=(O2 7 (by omega)).trans (AG hl 7 (by omega))
 have hs:(ofM (l++[ct x y]) 100000).C7=(ofM l 100000).C7:=O2 2 (by omega)
 have hp:(ofM (l++[ct x y]) 100000).procs=(ofM l 100000).procs:=O2 0 (by omega)
 have bh: ∀t,pG (ofM (l++[ct x y]) 100000) A.waf t=pG (ofM l 100000) A.waf t:=fun t=>uG t (by rw[show(ofM (l++[ct x y]) 100000).jw=(ofM l 100000).jw from O2 3 (by omega)])
 have hw:oj (ofM (l++[ct x y]) 100000) A=oj (ofM l 100000) A:=
  k9 (rN (bh _) fun _=>by rw[show(ofM (l++[ct x y]) 100000).oc=(ofM l 100000).oc from O2 4 (by omega)])
   (n9 hs (by rw[hp]))
 rw[Er,Er,hw,NO hh hr,k6 _ (AG hl 6 (by omega)),show(ofM (l++[ct x y]) 100000).sE=(ofM l 100000).sE from O2 5 (by omega)]
 simp[bn]
def zf(b:fX):fX:=⟨fun i=>if i=5 then []else b.ls i⟩
theorem Pw(b:fX)(A:fD)(h:b.holds=[]):th (zf b) A=oj b A+16∧th b A=oj b A+bn (!b.sE.any (pD A.tool A.cham A.rcp A.rvn A.time)) 16:=by
 have hw:oj (zf b) A=oj b A:=k9 (rN (uG _ rfl) fun _=>rfl) (n9 rfl rfl)
 refine⟨?_,?_⟩
 ·rw[Er,hw,k6 A (b:=zf b) h,show(zf b).sE=[]from rfl]
  simp[bn]
 ·rw[Er,k6 A h]
  simp[bn]
def fC:bc:={gF with kind:=5,ver:=1,prod:=9,text:=[120]}
def k7:bc:={gF with kind:=4,ver:=1,waf:=8,lot:=1,prod:=9}
def tC:bc:={gF with kind:=10,ver:=1,rcp:=2,val:=4}
theorem Ig(w t:Int): ∀(l:List bc) (o:Option bc) (x:bc),l.foldl (n5 w t) o=some x→o=some x∨x∈l
 |[],_,_,h=> .inl h
 |f::l,o,x,h=>by
  rcases Ig w t l _ x h with h|h
  ·have e:n5 w t o f=some f∨n5 w t o f=o:=by
    unfold n5
    generalize(zY w t f&&_)=c
    cases c
    ·exact .inr rfl
    ·exact .inl rfl
   rcases e with e|e<;>rw[e]at h
   ·exact .inr (by rw[Option.some.inj h];exact List.mem_cons_self ..)
   ·exact .inl h
  ·exact .inr (List.mem_cons_of_mem _ h)
theorem Ey{l:List bc}(hl: ∀x∈l,Uo x)(A:fD)(hA:1≤A.waf∧A.waf≤4)(s:Step)(tool:Int):
  th (ofM (l++[fC,k7,yn s tool 990 8 0 3,tC]) 100000) A=th (ofM l 100000) A:=by
 have e0:l++[fC,k7,yn s tool 990 8 0 3,tC]=(((l++[fC])++[k7])++[yn s tool 990 8 0 3])++[tC]:=by simp
 rw[e0]
 have kp:(yn s tool 990 8 0 3).kind=1:=rfl
 generalize Vg:yn s tool 990 8 0 3=e3 at*
 have sq:e3.waf=8∧e3.idn=990:=by rw[←Vg];exact⟨rfl,rfl⟩
 have h1: ∀i,i≠4→(ofM (l++[fC]) 100000).ls i=(ofM l 100000).ls i:=fun i hi=>jE (by show(5:Int)≠_;omega)
 have h2: ∀i,i≠3→(ofM ((l++[fC])++[k7]) 100000).ls i=(ofM (l++[fC]) 100000).ls i:=fun i hi=>jE (by show(4:Int)≠_;omega)
 have h3: ∀i,i≠0→(ofM (((l++[fC])++[k7])++[e3]) 100000).ls i=(ofM ((l++[fC])++[k7]) 100000).ls i:=fun i hi=>jE (by rw[kp];omega)
 have h4: ∀i,i≠9→(ofM ((((l++[fC])++[k7])++[e3])++[tC]) 100000).ls i=(ofM (((l++[fC])++[k7])++[e3]) 100000).ls i:=fun i hi=>jE (by show(10:Int)≠_;omega)
 generalize hB:ofM ((((l++[fC])++[k7])++[e3])++[tC]) 100000=B at*
 have hS:B.C7=(ofM l 100000).C7:=(h4 2 (by omega)).trans ((h3 2 (by omega)).trans ((h2 2 (by omega)).trans (h1 2 (by omega))))
 have hH:B.holds=(ofM l 100000).holds:=(h4 6 (by omega)).trans ((h3 6 (by omega)).trans ((h2 6 (by omega)).trans (h1 6 (by omega))))
 have hQ:B.sE=(ofM l 100000).sE:=(h4 5 (by omega)).trans ((h3 5 (by omega)).trans ((h2 5 (by omega)).trans (h1 5 (by omega))))
 have dy:=AG (day:=100000) hl
 have kd: ∀{x e:bc},fp e≠[]→fp x=fp e→x.kind=e.kind:=fun h e=>yy (by rw[e];exact h) e
 have kv: ∀{x e:bc},fp e≠[]→fp x=fp e→sD x ((dM e.kind).elim [] (·.key))=sD e ((dM e.kind).elim [] (·.key)):=fun {x e} h hk=>by
  have hx:fp x≠[]:=by rw[hk];exact h
  have WU:=kd h hk
  rw[uF hx,uF h,WU]at hk
  exact List.append_cancel_left hk
 have hP: ∀w,1≤w∧w≤4→(B.procs.filter fun f=>zV B f.waf f.time==w)=(ofM l 100000).procs.filter fun f=>zV B f.waf f.time==w:=by
  intro w hw
  have e1:B.procs=(ofM (((l++[fC])++[k7])++[e3]) 100000).ls 0:=h4 0 (by omega)
  have e2:(ofM l 100000).procs=(ofM ((l++[fC])++[k7]) 100000).ls 0:=((h2 0 (by omega)).trans (h1 0 (by omega))).symm
  rw[e1,e2]
  refine ze _ ?_ fun x hx hk e=> ?_
  ·rw[sq.1]
   have:zV B 8 e3.time=8:=by
    unfold zV wM
    rw[hS,show(ofM l 100000).C7=[]from dy 2 (by omega)]
    rfl
   rw[this]
   simp;omega
  ·have WU:=kd hk e
   have hv:=kv hk e
   rw[kp]at WU hv
   have Ve:500≤x.idn∧x.idn<508:=by
    rcases List.mem_append.1 hx with hx|hx
    ·rcases List.mem_append.1 hx with hx|hx
     ·rcases hl x hx with h|h|h|h<;>omega
     ·obtain rfl:=List.mem_singleton.1 hx
      exact absurd WU (by decide)
    ·obtain rfl:=List.mem_singleton.1 hx
     exact absurd WU (by decide)
   have h5:fO x.idn++[]=fO e3.idn++[]:=hv
   rw[List.append_nil,List.append_nil,sq.2]at h5
   obtain⟨k,WB,WJ⟩: ∃k:Nat,k<8∧x.idn=500+(k:Int):=⟨(x.idn-500).toNat,by omega,by omega⟩
   rw[WJ]at h5
   revert h5
   revert k
   have: ∀k:Nat,k<8→fO (500+(k:Int))≠fO 990:=by decide+kernel
   exact fun k WB _ h5=>this k WB h5
 have hL: ∀t,pG B A.waf t=pG (ofM l 100000) A.waf t:=by
  intro t
  refine uG t ?_
  have e1:B.jw=(ofM ((l++[fC])++[k7]) 100000).ls 3:=(h4 3 (by omega)).trans (h3 3 (by omega))
  have e2:(ofM l 100000).jw=(ofM (l++[fC]) 100000).ls 3:=(h1 3 (by omega)).symm
  rw[e1,e2]
  refine ze _ ?_ fun x hx hk e=> ?_
  ·show((8:Int)==A.waf)=false
   simp;omega
  ·have WU:=kd hk e
   have hv:=kv hk e
   have WK:k7.kind=4:=rfl
   rw[WK]at WU hv
   have Ve:1≤x.waf∧x.waf≤3:=by
    rcases List.mem_append.1 hx with hx|hx
    ·rcases hl x hx with h|h|h|h<;>omega
    ·obtain rfl:=List.mem_singleton.1 hx
     exact absurd WU (by decide)
   have h5:fO x.waf++(fO x.time++[])=[16,0]:=hv.trans (by decide+kernel)
   obtain⟨k,WB,e7⟩: ∃k:Nat,k<3∧x.waf=1+(k:Int):=⟨(x.waf-1).toNat,by omega,by omega⟩
   rw[e7]at h5
   have h6:=congrArg List.head? h5
   have: ∀k:Nat,k<3→ ∃c,fO (1+(k:Int))=[c]∧c≠16:=by
    intro k hk
    match k,hk with
    |0,_=>exact⟨2,by decide+kernel,by decide⟩
    |1,_=>exact⟨4,by decide+kernel,by decide⟩
    |2,_=>exact⟨6,by decide+kernel,by decide⟩
   obtain⟨c,hc,HX⟩:=this k WB
   rw[hc]at h6
   exact HX (Option.some.inj h6)
 have hF:fB B A.waf A.time=fB (ofM l 100000) A.waf A.time:=by
  refine rN (hL _) fun fu=> ?_
  have Gs:((pG (ofM l 100000) A.waf A.time).getD gF).prod=1:=by
   cases uI:pG (ofM l 100000) A.waf A.time with
   |none=>rw[uI]at fu;exact absurd rfl fu
   |some x=>
    unfold pG at uI
    rcases Ig _ _ _ _ _ uI with h|h
    ·cases h
    ·have h1:x∈gH (jU 100000 l) 3:=(iM _).mem_iff.1 h
     obtain⟨k,hk,RC⟩:=sG h1
     show x.prod=1
     rcases hl x (y' hk)with h|h|h|h<;>omega
  rw[Gs,ym,ym]
  congr 1
  have e1:B.oc=(ofM (l++[fC]) 100000).ls 4:=(h4 4 (by omega)).trans ((h3 4 (by omega)).trans (h2 4 (by omega)))
  rw[e1]
  refine ze (fun f=>f.prod==1) rfl fun x hx hk e=> ?_
  have WU:=kd hk e
  have hv:=kv hk e
  have WK:fC.kind=5:=rfl
  rw[WK]at WU hv
  have Ve:x.prod=1:=by rcases hl x hx with h|h|h|h<;>omega
  have h5:fO x.prod++[]=fO 9++[]:=hv
  rw[Ve]at h5
  exact absurd h5 (by decide+kernel)
 rw[Er,Er,k9 hF (n9 hS (hP _ hA)),hQ,k6 A (hH.trans (dy 6 (by omega))),k6 A (dy 6 (by omega))]
end Go.Proofs.YtebobfdheanknaaGreatDoor
namespace Go.Proofs.YtebobfdheanknaaGreatDoor
open Go Go.K
set_option maxRecDepth 10000
attribute [local irreducible] W WL cT bu bX bA bB bD cW cG
set_option maxHeartbeats 4000000
theorem UP(v u:Value)(l r:List bc)(g:G)(aH:Rs g v l)(aT:Rs g u r):CallsIn Wd 0 Tryz.prog 78 #[v,u] g.w (cR g fun _ x=>x= .bool (decide (l=r))):=by
 obtain⟨a,c,rfl⟩:=aH.isSlice
 obtain⟨a2,c2,rfl⟩:=aT.isSlice
 have hlen:=aH.dU
 unfold maxLen at hlen
 have hs:=St.start g
 have aq:=G.le.refl g
 refine enter Tryz.func78 rfl Tryz.ntmps78 rfl ?_
 refine aX rfl ?_;apply aB;refine aX rfl ?_
 by_cases x_:l.length=r.length
 ·refine aS (b:=(l.length:Int) !=(r.length:Int)) (by simp;omega) rfl ?_
  apply aE;apply au;apply aB;refine aX rfl ?_;apply aG
  refine bS (fun m a' w=> ∃(k:Nat) (g2:G),w=g2.w∧St g g2 []∧G.le g g2∧Rs g2 (.slice a l.length c) l∧Rs g2 (.slice a2 r.length c2) r∧k≤l.length∧m=l.length-k∧l.take k=r.take k∧
    Fr 26 [] [(0,.slice a l.length c),(1,.slice a2 r.length c2),(5,.int .i64 k)] a') l.length
   (fun a' ha=>⟨0,g,rfl,hs,aq,aH,aT,Nat.zero_le _,rfl,by simp,ha.keep (by(repeat (first|exact trivial|refine⟨rfl,?_⟩)))⟩) ?_
  (repeat clear hs);(repeat clear aq);(repeat clear aH);(repeat clear aT)
  rintro m a' _ ⟨k,g2,rfl,hs,aq,aH,aT,hk,rfl,dy,eI⟩
  revert a'
  apply cQ;apply aB;refine aX rfl ?_
  by_cases bh:k<l.length
  ·refine aJ (b:=decide ((k:Int)<(l.length:Int))) (by simp;omega) rfl ?_
   have Ta:k<r.length:=by omega
   obtain⟨b0,p0,ys,rfl,mg,hx⟩:=aH.at (i:=k) (List.getElem?_eq_getElem bh)
   obtain⟨b1,p1,zs,rfl,vy,hy⟩:=aT.at (i:=k) (List.getElem?_eq_getElem Ta)
   obtain rfl:ys=bW l[k]:=hx
   obtain rfl:zs=bW r[k]:=hy
   obtain⟨x,Wv⟩: ∃x,x=l[k]:=⟨_,rfl⟩
   obtain⟨y,WC⟩: ∃y,y=r[k]:=⟨_,rfl⟩
   rw[←Wv]at mg;rw[←WC]at vy
   apply aE;apply au;apply aB;apply aG;apply aB
   apply bO hs (fj []) 8 [(3,20),(7,24)] (by kernel_rfl) rfl
   ·refine Dm [[],[]] [] hs (by kernel_rfl) rfl ?_
    refine aw (ak (js:=[(0,17),(1,18)]) (by kernel_rfl) fun gd hf=>ai rfl (ai rfl (aj (az rfl (fT T.ok rfl rfl rfl (by omega) (by omega) rfl rfl rfl ⟨gd,rfl,aZ.refl _,rfl⟩))))) ?_
    refine Dm [[2],[],[]] [.e mg 0] hs (by kernel_rfl) rfl ?_
    refine aw (ak (js:=[(4,21),(5,22)]) (by kernel_rfl) fun gd hf=>ai rfl (ai rfl (aj (az rfl (fT T.ok rfl rfl rfl (by omega) (by omega) rfl rfl rfl ⟨gd,rfl,aZ.refl _,rfl⟩))))) ?_
    exact Dz [[6]] [.e vy 0] hs (by kernel_rfl) rfl
   (repeat clear hs);intro g7 hs ah;obtain⟨aq,aH,aT⟩:=ef ah aq aH aT
   refine an rfl rfl (qs (neg:=true) rfl rfl rfl (by kernel_rfl) (Sc x y _) ?_)
   apply cf
   cases he:decide (x=y)with
   |true=>
    have Je:x=y:=of_decide_eq_true he
    refine aS rfl rfl ?_
    apply aE;apply bU;apply au;apply ar;refine Wp 3 rfl ?_;apply aD
    refine fun a ha=>⟨l.length-(k+1),by omega,k+1,_,rfl,hs,aq,aH,aT,by omega,rfl,?_,ha.keep ⟨rfl,rfl,kI rfl (by rw[wr (by omega) (by omega)];omega),trivial⟩⟩
    rw[List.take_succ_eq_append_getElem bh,List.take_succ_eq_append_getElem Ta,dy,←Wv,←WC,Je]
   |false=>
    refine aJ rfl rfl ?_
    refine aX rfl ?_
    refine aF (aV rfl rfl (hs.ret ?_))
    rw[decide_eq_false (fun e=>by subst e;rw[←Wv]at WC;rw[WC]at he;simp at he)]
  ·refine aS (b:=decide ((k:Int)<(l.length:Int))) (by simp;omega) rfl ?_
   rw[List.take_of_length_le (by omega),List.take_of_length_le (by omega)]at dy
   apply bE;apply bK;apply bK;apply dc;apply au;refine aX rfl ?_
   refine aF (aV rfl rfl (hs.ret ?_))
   rw[decide_eq_true dy]
 ·refine aJ (b:=(l.length:Int) !=(r.length:Int)) (by simp;omega) rfl ?_
  refine aX rfl ?_
  refine aF (aV rfl rfl (hs.ret ?_))
  rw[decide_eq_false (fun e=>x_ (by rw[e]))]
def Up(b:fX):List (List bc):=[b.ls 0,b.ls 1,b.ls 2,b.ls 3,b.ls 4,b.ls 5,b.ls 6,b.ls 7,b.ls 8,b.ls 9,b.ls 10]
theorem Uq{g:G}{v:Value}{b:fX}(h:iI g v b): ∃(ad:Nat→Option Addr) (cc:Nat→Nat),v= .agg ((List.range 11).map fun i=>Value.slice (ad i) (b.ls i).length (cc i)).toArray∧ ∀i,i<11→Rs g (.slice (ad i) (b.ls i).length (cc i)) (b.ls i):=by
 obtain⟨sl,rfl,jr⟩:=h
 have hx: ∀i:Nat,∃q:Option Addr×Nat,i<11→sl i= .slice q.1 (b.ls i).length q.2:=fun i=>by
  by_cases hi:i<11
  ·obtain⟨a,c,e⟩:=(jr i hi).isSlice
   exact⟨(a,c),fun _=>e⟩
  ·exact⟨(none,0),fun h=>absurd h hi⟩
 refine⟨fun i=>(Classical.choose (hx i)).1,fun i=>(Classical.choose (hx i)).2,?_,fun i hi=> ?_⟩
 ·congr 2
  exact List.map_congr_left fun i hi=>Classical.choose_spec (hx i) (List.mem_range.1 hi)
 ·rw[←Classical.choose_spec (hx i) hi];exact jr i hi
abbrev sv(ad:Nat→Option Addr)(cc:Nat→Nat)(b:fX)(i:Nat):Value:=.slice (ad i) (b.ls i).length (cc i)
theorem Jo(v:Value)(b:fX)(g:G)(bI:iI g v b):CallsIn Wd 0 Tryz.prog 77 #[v] g.w (cR g fun g' r=>Rs g' r (Up b)):=by
 obtain⟨ad,cc,rfl,jr⟩:=Uq bI
 have hs:=St.start g
 have aq:=G.le.refl g
 have eK: ∀{g':G},g.le g'→cO g' [sv ad cc b 0,sv ad cc b 1,sv ad cc b 2,sv ad cc b 3,sv ad cc b 4,sv ad cc b 5,sv ad cc b 6,sv ad cc b 7,sv ad cc b 8,sv ad cc b 9,sv ad cc b 10] (Up b):=fun {g'} h=>
  have e: ∀i,i<11→El.rc g' [sv ad cc b i] (b.ls i):=fun i hi=>⟨_,rfl,(jr i hi).mono h⟩
  ⟨[sv ad cc b 0],_,rfl,e 0 (by omega),[sv ad cc b 1],_,rfl,e 1 (by omega),[sv ad cc b 2],_,rfl,e 2 (by omega),[sv ad cc b 3],_,rfl,e 3 (by omega),[sv ad cc b 4],_,rfl,e 4 (by omega),[sv ad cc b 5],_,rfl,e 5 (by omega),[sv ad cc b 6],_,rfl,e 6 (by omega),[sv ad cc b 7],_,rfl,e 7 (by omega),[sv ad cc b 8],_,rfl,e 8 (by omega),[sv ad cc b 9],_,rfl,e 9 (by omega),[sv ad cc b 10],_,rfl,e 10 (by omega),rfl⟩
 refine enter Tryz.func77 rfl Tryz.ntmps77 rfl ?_
 apply c_
 refine an rfl rfl (aR rfl hs rfl rfl ?_);clear hs;rintro b1 g1 hs ah;replace aq:=G.le.trans aq ah
 obtain⟨g2,bR,aU,ah,aL⟩:=hs.a_ (i:=0) rfl;replace hs:=aU;clear aU;rw[←bR];replace aq:=G.le.trans aq ah
 have aC:EP g2 b1 0 ((List.range 11).map fun i=>Value.slice (ad i) (b.ls i).length (cc i)):=aL;clear aL
 refine ba rfl ?_;refine dx 22 [.z aC,.z aC,.z aC,.z aC,.z aC,.z aC,.z aC,.z aC,.z aC,.z aC,.z aC] (St.start _) rfl ?_
 refine an rfl rfl (bj T.ok rfl hs (vs:=[(0,sv ad cc b 0),(1,sv ad cc b 1),(2,sv ad cc b 2),(3,sv ad cc b 3),(4,sv ad cc b 4),(5,sv ad cc b 5),(6,sv ad cc b 6),(7,sv ad cc b 7),(8,sv ad cc b 8),(9,sv ad cc b 9),(10,sv ad cc b 10)]) (cells:=[sv ad cc b 0,sv ad cc b 1,sv ad cc b 2,sv ad cc b 3,sv ad cc b 4,sv ad cc b 5,sv ad cc b 6,sv ad cc b 7,sv ad cc b 8,sv ad cc b 9,sv ad cc b 10]) rfl rfl rfl rfl rfl rfl (by decide) (by decide) (by kernel_rfl) rfl ?_);rintro bP gl hs ah;replace aq:=G.le.trans aq ah
 obtain⟨gz,ik,cS,iT,aH⟩:=hs.cL (α:=List bc) (xs:=Up b) (i:=0) rfl (eK aq);clear ah;have ah:=iT;rw[←ik];(repeat clear hs);have hs:St g gz []:=cS;clear cS
 refine ba rfl ?_
 exact aF (aV rfl rfl (hs.ret aH))
end Go.Proofs.YtebobfdheanknaaGreatDoor
namespace Go.Proofs.YtebobfdheanknaaGreatDoor
open Go Go.K
set_option maxRecDepth 10000
attribute [local irreducible] W WL cT bu bX bA bB bD cW cG
set_option maxHeartbeats 20000000
theorem Wq(v u:Value)(b:fX)(g:G)(bI:iI g v b)(Ce:iI g u b):CallsIn Wd 0 Tryz.prog 35 #[v,u] g.w (cR g fun _ r=>r= .bool true):=by
 obtain⟨sl,rfl,jr⟩:=bI
 have bI:iI g (.agg ((List.range 11).map sl).toArray) b:=⟨sl,rfl,jr⟩
 obtain⟨sm,rfl,WD⟩:=Ce
 have Ce:iI g (.agg ((List.range 11).map sm).toArray) b:=⟨sm,rfl,WD⟩
 have hs:=St.start g
 have aq:=G.le.refl g
 refine enter Tryz.func35 rfl Tryz.ntmps35 rfl ?_
 apply c_
 refine an rfl rfl (aR rfl hs rfl rfl ?_);clear hs;rintro b2 g1 hs ah;obtain⟨aq,bI,Ce⟩:=ef ah aq bI Ce
 obtain⟨g2,bR,aU,ah,aL⟩:=hs.a_ (i:=0) rfl;replace hs:=aU;clear aU;rw[←bR];obtain⟨aq,bI,Ce⟩:=ef ah aq bI Ce
 have aC:EP g2 b2 0 ((List.range 11).map sl):=aL;clear aL
 skip
 refine an rfl rfl (aR rfl hs rfl rfl ?_);clear hs;rintro b3 g1 hs ah;obtain⟨aq,aC,bI,Ce⟩:=dE ah aq aC bI Ce
 obtain⟨g2,bR,aU,ah,aL⟩:=hs.a_ (i:=0) rfl;replace hs:=aU;clear aU;rw[←bR];obtain⟨aq,aC,bI,Ce⟩:=dE ah aq aC bI Ce
 have aP:EP g2 b3 0 ((List.range 11).map sm):=aL;clear aL
 refine ba rfl ?_;refine dx 1 [.z aC] (St.start _) rfl ?_
 refine an rfl rfl (ay Wz aI rfl rfl rfl rfl rfl (Jo _ b _ bI) ?_);rintro g1 _ aN aH;replace hs:=hs.call aN;have ah:=aN.le;obtain⟨aq,aP,Ce⟩:=ef ah aq aP Ce
 clear aN
 refine ba rfl ?_;refine dx 1 [.z aP] (St.start _) rfl ?_
 refine an rfl rfl (ay Wz aI rfl rfl rfl rfl rfl (Jo _ b _ Ce) ?_);rintro g1 _ aN aT;replace hs:=hs.call aN;have ah:=aN.le;obtain⟨aq,aH⟩:=cC ah aq aH
 clear aN
 refine ba rfl ?_;apply aB;refine aX rfl ?_;apply aG
 clear bI Ce aC aP jr WD
 have x_:(Up b).length=11:=rfl
 generalize Up b=l at*
 obtain⟨a,c,rfl⟩:=aH.isSlice
 obtain⟨a2,c2,rfl⟩:=aT.isSlice
 refine bS (fun m a' w=> ∃(k:Nat) (g2:G),w=g2.w∧St g g2 []∧G.le g g2∧Rs g2 (.slice a l.length c) l∧Rs g2 (.slice a2 l.length c2) l∧k≤l.length∧m=l.length-k∧
   Fr 28 [] [(5,.slice a l.length c),(6,.slice a2 l.length c2),(7,.int .i64 k)] a') l.length
  (fun a' ha=>⟨0,_,rfl,hs,aq,aH,aT,Nat.zero_le _,rfl,ha.keep (by(repeat (first|exact trivial|refine⟨rfl,?_⟩)))⟩) ?_
 (repeat clear hs);(repeat clear aq);(repeat clear aH);(repeat clear aT)
 rintro m a' _ ⟨k,g2,rfl,hs,aq,aH,aT,hk,rfl,eI⟩
 revert a'
 apply cQ;apply aB;refine aX rfl ?_
 by_cases bh:k<l.length
 ·refine aJ (b:=decide ((k:Int)<(l.length:Int))) (by simp;omega) rfl ?_
  obtain⟨b0,p0,ys,rfl,mg,v1,rfl,dz⟩:=aH.at (i:=k) (List.getElem?_eq_getElem bh)
  obtain⟨b1,p1,zs,rfl,vy,v2,rfl,dj⟩:=aT.at (i:=k) (List.getElem?_eq_getElem bh)
  obtain⟨x,Wv⟩: ∃x,x=l[k]:=⟨_,rfl⟩
  rw[←Wv]at dz dj;clear Wv
  obtain⟨a7,c7,rfl⟩:=dz.isSlice
  obtain⟨a8,c8,rfl⟩:=dj.isSlice
  apply aE;apply au;apply aB;apply aG;apply aB
  apply bO hs (fj (fe (.e (.bool false)::[]))) 10 [(9,27)] (by kernel_rfl) rfl
  ·refine Dm [[],[]] [] hs (by kernel_rfl) rfl ?_
   refine aw (ak (js:=[(0,18),(1,19)]) (by kernel_rfl) fun gd hf=>ai rfl (ai rfl (aj (az rfl (fT T.ok rfl rfl rfl (by omega) (by omega) rfl rfl rfl ⟨gd,rfl,aZ.refl _,rfl⟩))))) ?_
   refine Dm [[2],[],[]] [.e mg 0] hs (by kernel_rfl) rfl ?_
   refine aw (ak (js:=[(4,22),(5,23)]) (by kernel_rfl) fun gd hf=>ai rfl (ai rfl (aj (az rfl (fT T.ok rfl rfl rfl (by omega) (by omega) rfl rfl rfl ⟨gd,rfl,aZ.refl _,rfl⟩))))) ?_
   refine Dm [[6]] [.e vy 0] hs (by kernel_rfl) rfl ?_
   exact Dz [[3,7],[8]] [.c WI fun g' h=>by have:=UP _ _ x x g' (dz.mono h) (dj.mono h);rw[decide_eq_true rfl]at this;exact this] hs (by kernel_rfl) rfl
  (repeat clear hs);intro g7 hs ah;obtain⟨aq,aH,aT⟩:=ef ah aq aH aT
  apply cf
  refine aS rfl rfl ?_
  apply aE;apply bU;apply au;apply ar;refine Wp 3 rfl ?_;apply aD
  exact fun a ha=>⟨l.length-(k+1),by omega,k+1,_,rfl,hs,aq,aH,aT,by omega,rfl,ha.keep ⟨rfl,rfl,kI rfl (by rw[wr (by omega) (by omega)];omega),trivial⟩⟩
 ·refine aS (b:=decide ((k:Int)<(l.length:Int))) (by simp;omega) rfl ?_
  apply bE;apply bK;apply bK;apply dc;apply au;refine aX rfl ?_
  exact aF (aV rfl rfl (hs.ret rfl))
end Go.Proofs.YtebobfdheanknaaGreatDoor
namespace Go.K
open Go
variable {F:Fence} {P:Program} {N:Nat} {ds:List Deferred} {l:Env} {w:World} {Q:Exit→Act→World→Prop} {ops:Array Oper} {os:List Oper}
theorem US{J':Act→World→Prop}(J:Act→World→Prop)(h:WL F P N ds ops (Exit.then J Q) os l w)(h2: ∀a w,J a w→J' a w):WL F P N ds ops (Exit.then J' Q) os l w:=by
 refine fun a ha=>u6 (fun x a w hq=> ?_) os a w (h a ha)
 cases x<;>first|exact h2 _ _ hq|exact hq
end Go.K
namespace Go.Proofs.YtebobfdheanknaaGreatDoor
open Go Go.K
set_option maxRecDepth 10000
attribute [local irreducible] W WL cT bu bX bA bB bD cW cG
set_option maxHeartbeats 20000000
def PA(g0:G)(l:List bc)(h:bc)(ρ:Nat→Option Value)(g:G):Prop:=
 match ρ 2,ρ 5 with
 |none,none=>St g0 g []
 |some v,none=> ∃a c,v= .slice a l.length c∧St g0 g [rF a c l]
 |some _,some u=>St g0 g []∧Rs g u (l++[h])
 |none,some _=>False
theorem Uz{g0:G}{l:List bc}{h:bc}(ρ:Nat→Option Value)(g g':G)(hf:aZ g g')(k:PA g0 l h ρ g):PA g0 l h ρ g':=by
 unfold PA at k⊢
 split at k
 ·exact k.call hf
 ·obtain⟨a,c,e,k⟩:=k;exact⟨a,c,e,k.call hf⟩
 ·exact⟨k.1.call hf,k.2.mono hf.le⟩
 ·exact k
def Xe:Fact:=⟨fun v _=> ∃ad,v= .slice ad 0 0,fun _ _ _ _ h=>h⟩
def WE(b:fX):Fact:=⟨fun v g=>iI g v b,fun _ _ _ hf h=>h.mono hf.le⟩
theorem UQ:uK Xe:=fun _ _ _ _ h=>h
theorem UR(b:fX):uK (WE b):=fun _ _ _ h k=>k.mono h
theorem Js{F:Fence}{P:Program}{N:Nat}{ds:List Deferred}{l:Env}{w:World}{Q:Exit→Act→World→Prop}{o:Oper}{K:Value→World→Prop}{t t':TypeId}{x y:Operand}{a b:Bool}(ho:o.op= .binOp .neq t x y t')(hx:ev l x=some (.bool a))(hy:ev l y=some (.bool b))
  (hu:P.underlying t=some .bool) (k:K (.bool (a !=b)) w):cT F P N ds o l w Q K:=by
 refine bG (fun c=>⟨by rw[ho];simp,by rw[ho];simp⟩) (fun ac ha=> ?_) k
 have he:(Op.equal t (.bool a) (.bool b)).run P w= .ok (a==b) w:=run_equalIn_bool' w 9999 t a b hu
 have hq:(eqGuard .neq t x y (.bool a) (.bool b)).run P w= .ok () w:=by simp[eqGuard]
 simp[execOp,ho,ha.ev hx,ha.ev hy,hq,binOp,he]
 cases a<;>cases b<;>rfl
theorem SI(b:fX)(a:fD):0≤th b a∧th b a≤62:=by
 rw[Er]
 have h1:=yl b a
 have h2:=tB (!b.sE.any (pD a.tool a.cham a.rcp a.rvn a.time)) (k:=16) (by decide)
 have h3:=tB (decide ((0:Int)<((oI b a).length:Nat))) (k:=32) (by decide)
 omega
theorem Xf{m:Int}(h0:0≤m)(h1:m≤14):((IntKind.i64.wrap ((m+16).tdiv (Int.ofNat (15+1)))).tmod (Int.ofNat (1+1)) !=1)=false:=by
 have e:(m+16).tdiv 16=1:=by rw[Int.tdiv_eq_ediv_of_nonneg (by omega)];omega
 show((IntKind.i64.wrap ((m+16).tdiv 16)).tmod 2 !=1)=false
 rw[e];decide+kernel
theorem SJ(v0:Value)(x:List Y6)(v1:Value)(cs:List Int)(z:Y7)(fr ln:Int)(g:G)(bM:iw g)(aH:Rs g v0 x)(hx: ∀y∈x,y.fit)(aT:Rs g v1 cs)(mG: ∀c∈cs,mH c)(hz:z.fit)(Cv:mH fr)(Xm:mH ln):
  CallsIn Wd 0 Tryz.prog 9 #[v0,v1,.agg (NJ z).toArray,.int .i64 fr,.int .i64 ln] g.w (cR g fun _ r=>r= .bool true):=by
 have hs:=St.start g
 have aq:=G.le.refl g
 refine enter Tryz.func9 rfl Tryz.ntmps9 rfl ?_
 apply c_
 refine an rfl rfl (aR rfl hs rfl rfl ?_);clear hs;rintro b7 g1 hs ah;obtain⟨aH,aT,bM⟩:=ef ah aH aT bM
 obtain⟨g2,bR,aU,ah,aL⟩:=hs.a_ (i:=0) rfl;replace hs:=aU;clear aU;rw[←bR];obtain⟨aH,aT,bM⟩:=ef ah aH aT bM
 have aC:EP g2 b7 0 (NJ z):=aL;clear aL
 refine ba rfl ?_;apply c_
 refine an rfl rfl (ay Ps aI rfl rfl rfl rfl rfl (Jn _ bM) ?_);rintro g1 _ aN rfl;replace hs:=hs.call aN;have ah:=aN.le;obtain⟨aC,aH,aT,bM⟩:=dE ah aC aH aT bM
 clear aN
 refine ba rfl ?_;refine cP 1 rfl ?_
 refine an rfl rfl (ay Pt aI rfl rfl rfl rfl rfl (NK _ x _ aH hx) ?_)
 rintro g1 _ aN ⟨u1,u2,rfl,⟨cells,hh,eK⟩,dI⟩
 obtain rfl:=kX eK
 replace hs:=hs.gJ aN hh;have ah:=aN.le;obtain⟨aC,aH,aT,bM⟩:=dE ah aC aH aT bM
 clear hh eK aN
 have hX:=UU (Cf (mk x [])) (mk x []) cs
 have MR:=En (Cf (mk x []))
 generalize Eo (Cf (mk x []))=l1 at*
 obtain⟨ad,c8,rfl⟩:=(hs.own 0 _ rfl).1.form
 replace hs:St g g1 [rF ad c8 l1]:=hs
 have GC:=Jm x
 generalize mk x []=f at*
 obtain⟨a1,n1,c1,a2,n2,c2,rfl,eg,_⟩:=id dI
 obtain⟨rfl,_,_⟩:=eg.oL
 clear eg
 refine Wp 3 rfl ?_
 refine an rfl rfl (aK T.ok rfl hs rfl rfl ?_);clear hs;rintro FY g1 hs ah;obtain⟨aC,aH,aT,dI,bM⟩:=kN ah aC aH aT dI bM
 refine Wp 1 rfl ?_
 refine bg rfl (aA T.ok 0 rfl hs rfl rfl rfl rfl rfl rfl rfl rfl rfl ?_);replace hs:=hs;rintro g1 hs ah;obtain⟨aC,aH,aT,dI,bM⟩:=kN ah aC aH aT dI bM
 obtain⟨g2,bR,aU,ah,aL⟩:=hs.a_ (i:=0) rfl;replace hs:=aU;clear aU;rw[←bR];obtain⟨aC,aH,aT,dI,bM⟩:=kN ah aC aH aT dI bM
 have aP:EP g2 FY 0 [.int .i64 f.ck,.int .i64 f.cu,.slice a1 f.steps.length c1,.slice a2 n2 c2]:=aL;clear aL
 replace hs:St g g2 [rF ad c8 l1]:=hs
 apply cf;refine dx 3 [.z aP] (St.start _) rfl ?_
 refine an rfl rfl (ay Pu aI rfl rfl rfl rfl rfl (Es _ _ f cs 8 1 500 10 _ dI aT GC mG (by omega) ⟨by omega,by omega⟩ ⟨by omega,by omega⟩) ?_);rintro g1 _ aN dz;replace hs:=hs.call aN;have ah:=aN.le;obtain⟨aC,aP,aH,dI,bM⟩:=kN ah aC aP aH dI bM
 clear aN
 have sP:=yk f 1 500 10 cs 8 []
 generalize uU f 1 500 10 cs 8 []=l2 at*
 obtain⟨a4,c4,rfl⟩:=dz.isSlice
 obtain⟨_,news,SH,Ie⟩:=Src.jq dz
 obtain rfl:=kX SH
 have sP:l2.length≤8:=by simpa using sP
 skip
 refine an rfl rfl (b_ T.ok 0 rfl hs rfl rfl rfl rfl rfl rfl rfl (by decide) rfl Ie (zP g1 l2) (by show(l1.length+l2.length)*160≤_;omega) (by unfold maxLen;omega) ?_);rintro a6 c6 g10 hs ah;obtain⟨aC,aP,aH,dz,dI,bM⟩:=iu ah aC aP aH dz dI bM
 have x_:(l1++l2).length=l1.length+l2.length:=List.length_append
 replace hs:St g g10 [rF a6 c6 (l1++l2)]:=by unfold rF;rw[lr,x_];exact hs
 rw[←x_]
 have O5:(l1++l2).length≤1000:=by omega
 generalize l1++l2=l at*
 clear dz SH Ie aH aT MR sP x_
 obtain⟨g8,xD,qO,ah,aH⟩:=hs.cL (α:=bc) (i:=0) rfl (cO.fl _ _)
 rw[←xD];(repeat clear hs);have hs:St g g8 []:=qO;clear qO;obtain⟨aC,aP,dI,bM⟩:=dE ah aC aP dI bM;clear xD
 refine ba rfl ?_;refine cP 1 rfl ?_
 refine an rfl rfl (ay Pv aI rfl rfl rfl rfl rfl (Qs _ l 100000 _ aH (by omega)) ?_);rintro g1 _ aN bI;replace hs:=hs.call aN;have ah:=aN.le;obtain⟨aC,aP,aH,dI,bM⟩:=kN ah aC aP aH dI bM
 clear aN
 have hK:=NH (l:=l) 100000 (by omega)
 obtain⟨b,hb⟩: ∃b,b=ofM l 100000:=⟨_,rfl⟩
 rw[←hb]at bI hK
 obtain⟨sl,rfl,jr⟩:=id bI
 have pK:((List.range 11).map sl).all Value.oneCell'=true:=by
  rw[List.all_eq_true]
  intro u hu
  obtain⟨i,hi,rfl⟩:=List.mem_map.1 hu
  obtain⟨_,_,e⟩:=(jr i (List.mem_range.1 hi)).isSlice
  rw[e];rfl
 clear jr
 skip
 refine an rfl rfl (aK T.ok rfl hs rfl rfl ?_);clear hs;rintro Pq g1 hs ah;obtain⟨aC,aP,aH,dI,bI,bM⟩:=iu ah aC aP aH dI bI bM
 skip
 refine bg rfl (aA T.ok 0 rfl hs rfl rfl rfl rfl rfl rfl pK rfl rfl ?_);replace hs:=hs;rintro g1 hs ah;obtain⟨aC,aP,aH,dI,bI,bM⟩:=iu ah aC aP aH dI bI bM
 obtain⟨g2,bR,aU,ah,aL⟩:=hs.a_ (i:=0) rfl;replace hs:=aU;clear aU;rw[←bR];obtain⟨aC,aP,aH,dI,bI,bM⟩:=iu ah aC aP aH dI bI bM
 have dO:EP g2 Pq 0 ((List.range 11).map sl):=aL;clear aL
 replace hs:St g g2 []:=hs
 apply cf;refine dx 1 [.z aC] (St.start _) rfl ?_
 refine an rfl rfl (ay Py aI rfl rfl rfl rfl rfl (NM z _ hz) ?_);rintro g1 _ aN rfl;replace hs:=hs.call aN;have ah:=aN.le;obtain⟨aC,aP,dO,aH,dI,bI⟩:=iu ah aC aP dO aH dI bI;replace bM:=bM.mono ah
 clear aN aC
 have hA:1≤(r3 z).waf∧(r3 z).waf≤4:=by
  have:=dq (c:=z.z0) (n:=4) (by decide)
  show 1≤IntKind.i64.wrap _∧IntKind.i64.wrap _≤4
  rw[wr (by omega) (by omega)];omega
 generalize r3 z=A at*
 skip
 refine an rfl rfl (aK T.ok rfl hs rfl rfl ?_);clear hs;rintro V2 g1 hs ah;obtain⟨aP,dO,aH,dI,bI,bM⟩:=iu ah aP dO aH dI bI bM
 skip
 refine bg rfl (aA T.ok 0 rfl hs rfl rfl rfl rfl rfl rfl rfl rfl rfl ?_);replace hs:=hs;rintro g1 hs ah;obtain⟨aP,dO,aH,dI,bI,bM⟩:=iu ah aP dO aH dI bI bM
 obtain⟨g2,bR,aU,ah,aL⟩:=hs.a_ (i:=0) rfl;replace hs:=aU;clear aU;rw[←bR];obtain⟨aP,dO,aH,dI,bI,bM⟩:=iu ah aP dO aH dI bI bM
 have aC:EP g2 V2 0 (pE A):=aL;clear aL
 replace hs:St g g2 []:=hs
 apply cf;refine dx 2 [.z dO,.z aC] (St.start _) rfl ?_
 refine an rfl rfl (ay wi aI rfl rfl rfl rfl rfl (D_ _ b A _ bI hK bM) ?_);rintro g1 _ aN rfl;replace hs:=hs.call aN;have ah:=aN.le;obtain⟨aC,aP,dO,aH,dI,bI⟩:=iu ah aC aP dO aH dI bI;replace bM:=bM.mono ah
 clear aN
 have hm:=SI b A
 obtain⟨m,DH⟩: ∃m,m=th b A:=⟨_,rfl⟩
 rw[←DH]at hm⊢
 refine ba rfl ?_;refine cP 1 rfl ?_
 refine an rfl rfl (ay qx aI rfl rfl rfl rfl rfl (gT fr 120 _ Cv (by decide)) ?_);rintro g1 _ aN rfl;replace hs:=hs.call aN;have ah:=aN.le;obtain⟨aC,aP,dO,aH,dI,bI⟩:=iu ah aC aP dO aH dI bI;replace bM:=bM.mono ah
 clear aN
 have hp:=dq (c:=fr) (n:=120) (by decide)
 generalize aO fr 120=p at*
 refine an rfl rfl (aQ T.ok rfl (vs:=[(0,.int .i64 7),(2,.int .i64 1),(1,.int .i64 5),(5,.int .i64 p),(17,.int .i64 3)]) (cells:=bW (ct p 0)) rfl rfl rfl rfl [(0,1),(1,1),(2,1),(3,1),(4,1),(5,1),(6,1),(7,1),(8,1),(9,1),(10,1),(11,1),(12,1),(13,1),(14,1),(15,1),(16,1),(17,1),(18,1)] rfl (by kernel_rfl) ?_)
 skip
 refine an rfl rfl (aK T.ok rfl hs rfl rfl ?_);clear hs;rintro Pr g1 hs ah;obtain⟨aC,aP,dO,aH,dI,bI⟩:=iu ah aC aP dO aH dI bI;replace bM:=bM.mono ah
 skip
 refine bg rfl (aA T.ok 0 rfl hs rfl rfl rfl rfl rfl rfl rfl rfl rfl ?_);replace hs:=hs;rintro g1 hs ah;obtain⟨aC,aP,dO,aH,dI,bI⟩:=iu ah aC aP dO aH dI bI;replace bM:=bM.mono ah
 replace hs:St g g1 [.obj Pr (.cells (bW (ct p 0)).toArray 54 (0,0))]:=hs
 apply cf;apply aB
 have hq:=dq (c:=ln) (n:=60) (by decide)
 apply bO hs (gE (fe [])) 5 [(4,48)] (by kernel_rfl) rfl
 ·exact Dz [[],[0],[],[2],[1,3]] [.o 0,.c qx fun g' _=>gT ln 60 g' Xm (by decide)] hs (by kernel_rfl) rfl
 (repeat clear hs);intro g7 hs ah;obtain⟨aC,aP,dO,aH,dI,bI⟩:=iu ah aC aP dO aH dI bI;replace bM:=bM.mono ah
 generalize aO ln 60=q at*
 refine Wp 1 rfl ?_
 refine bg rfl (aA T.ok 0 rfl hs rfl rfl rfl rfl rfl rfl rfl rfl rfl ?_);replace hs:=hs;rintro g1 hs ah;obtain⟨aC,aP,dO,aH,dI,bI⟩:=iu ah aC aP dO aH dI bI;replace bM:=bM.mono ah
 have ew:IntKind.i64.wrap (p+q)=p+q:=wr (by omega) (by omega)
 replace hs:St g g1 [.obj Pr (.cells (bW (ct p (IntKind.i64.wrap (p+q)))).toArray 54 (0,0))]:=hs
 rw[ew]at hs
 clear ew
 obtain⟨g2,bR,aU,ah,aL⟩:=hs.a_ (i:=0) rfl;replace hs:=aU;clear aU;rw[←bR];obtain⟨aC,aP,dO,aH,dI,bI⟩:=iu ah aC aP dO aH dI bI;replace bM:=bM.mono ah
 have mg:EP g2 Pr 0 (bW (ct p (p+q))):=aL;clear aL
 replace hs:St g g2 []:=hs
 have VI:p≤p+q∧p+q≤1000000:=by omega
 clear hq
 generalize p+q=q at*
 apply cf;apply aB
 have hH:=O1 hX A hp.1 VI.1 VI.2
 have Xg:=NH (l:=l++[ct p q]) 100000 (by rw[List.length_append,List.length_singleton];omega)
 rw[←hb,←DH]at hH
 generalize WV:ofM (l++[ct p q]) 100000=b1 at*
 apply lJ (.f Xe::fe (.f Fact.any::fe (.f (Fact.rs [ct p q]):: .f Fact.any:: .f (WE b1)::fe (.e (.int .i64 (th b1 A))::[])))) 9 [(8,58)] [2,5] [[],[]] (PA g l (ct p q)) Uz (by unfold PA;exact hs.dr) (by kernel_rfl) ⟨UQ,cY,cr _,cY,UR _,trivial⟩
 ·refine bC (cH (js:=[]) (by kernel_rfl) rfl fun ρ g8 _ _ hle hJ=>bd (az rfl (bj T.ok rfl (St.start g8) (vs:=[]) (cells:=[]) rfl rfl rfl rfl rfl rfl (by decide) (by decide) (by kernel_rfl) rfl fun b g' iS _=> ?_))) ?_
  ·obtain⟨g2,e1,e2,e3⟩:=kj (α:=bc) (xs:=[]) iS rfl
   exact⟨g2,e1,e2,some ⟨b,0,none⟩,rfl⟩
  refine Um [[]] [] (by kernel_rfl) rfl ?_
  refine bC (il (js:=[(0,50),(1,51)]) (by kernel_rfl) rfl fun ρ g8 _ _ h3 hle hJ=>cJ fun v8 h8=>cI rfl (bd ⟨rfl,?_⟩)) ?_
  ·unfold PA at hJ;rw[h3]at hJ
   cases h9:ρ 5 with
   |some u=>rw[h9]at hJ;exact hJ.elim
   |none=>
    rw[h9]at hJ
    obtain⟨Xn,rfl⟩:=h8
    obtain⟨_,news,hn,gn⟩:=Src.jq (aH.mono ((G.bJ _).trans hle))
    obtain rfl:=kX hn
    refine b_ T.ok 0 rfl (hJ.gI 54 19 Xn) rfl rfl rfl rfl rfl rfl rfl (by decide) rfl gn (zP g8 l) (by show(0+l.length)*160≤_;omega) (by unfold maxLen;omega) fun a' c' g9 FL DV=>⟨g9,rfl,⟨DV,?_⟩,trivial⟩
    rw[Nat.zero_add l.length]at FL⊢
    have e2:o5 ρ 2 (.slice a' l.length c') 2=some (.slice a' l.length c'):=if_pos rfl
    have e5:o5 ρ 2 (.slice a' l.length c') 5=none:=(if_neg (by decide)).trans h9
    show PA g l _ (o5 ρ 2 (.slice a' l.length c')) g9
    unfold PA
    rw[e2,e5]
    exact⟨a',c',rfl,FL⟩
  refine Um [[]] [.z mg] (by kernel_rfl) rfl ?_
  refine bC (cH (js:=[(3,53)]) (by kernel_rfl) rfl fun ρ g8 _ _ hle hJ=>cI rfl (bd (az rfl (bj T.ok rfl (St.start g8) (vs:=[(0,fv (ct p q))]) (cells:=bW (ct p q)) rfl rfl rfl rfl rfl rfl (by decide) (by decide) (by kernel_rfl) rfl fun b g' iS _=> ?_)))) ?_
  ·obtain⟨g2,e1,e2,e3⟩:=kj (α:=bc) iS (xs:=[ct p q]) (cO.fl _ [ct p q])
   exact⟨g2,e1,e2,e3⟩
  refine bC (il (js:=[(2,52),(4,54),(2,52)]) (by kernel_rfl) rfl fun ρ g8 _ _ h3 hle hJ=>cJ fun _ _=>cJ fun v5 h5=>fH rfl fun v2 _ r2=>bd ⟨rfl,?_⟩) ?_
  ·unfold PA at hJ;rw[r2,h3]at hJ
   obtain⟨a8,c8,rfl,hJ⟩:=hJ
   replace h5:Rs g8 v5 [ct p q]:=h5
   obtain⟨a5,c5,rfl⟩:=h5.isSlice
   obtain⟨_,news,hn,gn⟩:=Src.jq h5
   obtain rfl:=kX hn
   refine b_ T.ok 0 rfl hJ rfl rfl rfl rfl rfl rfl rfl (by decide) rfl gn (zP g8 _) (by show(l.length+1)*160≤_;omega) (by show l.length+1≤_;unfold maxLen;omega) fun a' c' g9 FL DV=> ?_
   have x_:(l++[ct p q]).length=l.length+1:=List.length_append
   have FL:St g g9 [rF a' c' (l++[ct p q])]:=by unfold rF;rw[lr,x_];exact FL
   obtain⟨g10,WM,WN,WA,py⟩:=FL.cL (α:=bc) (i:=0) rfl (cO.fl _ _)
   refine⟨g10,WM,⟨DV.trans WA,?_⟩,trivial⟩
   have e2:o5 ρ 5 (.slice a' (l.length+1) c') 2=some (.slice a8 l.length c8):=(if_neg (by decide)).trans r2
   have e5:o5 ρ 5 (.slice a' (l.length+1) c') 5=some (.slice a' (l.length+1) c'):=if_pos rfl
   show PA g l _ (o5 ρ 5 (.slice a' (l.length+1) c')) g10
   unfold PA
   rw[e2,e5]
   rw[x_]at py
   exact⟨WN,py⟩
  refine bC (cH (js:=[(5,55),(5,55)]) (by kernel_rfl) rfl fun ρ g8 _ _ hle hJ=>cJ fun _ _=>fH rfl fun v5 _ r5=>bd (az rfl (ay Pv aI rfl rfl rfl rfl rfl (Qs v5 (l++[ct p q]) 100000 g8 (by
   unfold PA at hJ
   rw[r5]at hJ
   cases h2:ρ 2 with
   |none=>rw[h2]at hJ;exact hJ.elim
   |some u=>rw[h2]at hJ;exact hJ.2) (by rw[List.length_append,List.length_singleton];omega)) fun g' u hf hv=>⟨g',rfl,hf,by rw[←WV];exact hv⟩))) ?_
  refine Um [[]] [.z aC] (by kernel_rfl) rfl ?_
  refine bC (cH (js:=[(6,56),(7,57),(6,56)]) (by kernel_rfl) rfl fun ρ g8 _ _ hle hJ=>cJ fun _ _=>cI rfl (cJ fun v6 h6=>bd (az rfl (ay wi aI rfl rfl rfl rfl rfl (D_ v6 b1 A g8 h6 Xg (bM.mono ((G.bJ _).trans hle))) fun g' u hf hv=>⟨g',rfl,hf,hv⟩)))) vc
 intro ρ g9 hle hJ dh
 refine cI rfl (bd ?_)
 have h2:=dh 2 rfl
 have h5:=dh 5 rfl
 unfold PA at hJ
 replace hs:St g g9 []:=by
  split at hJ
  ·rename_i e _;exact absurd e h2
  ·rename_i e;exact absurd e h5
  ·exact hJ.1
  ·exact hJ.elim
 have ah:=(G.bJ _).trans hle;obtain⟨aC,aP,dO,mg,aH,dI⟩:=iu ah aC aP dO mg aH dI;obtain⟨bI,bM⟩:=cC ah bI bM
 clear hle hJ dh h2 h5 ρ
 rw[hH]
 refine ba rfl ?_;refine dx 3 [.z aC] (St.start _) rfl ?_
 refine Wm 1 [.z mg] (St.start _) rfl ?_
 refine Wp 2 rfl ?_
 obtain⟨w,hw⟩: ∃w,w=(decide (p≤A.time)&&decide (A.time≤q)):=⟨_,rfl⟩
 rw[←hw]
 refine US (fun a' w'=>w'=g9.w∧Fr 132 [] [(11,.bool true),(12,.slice a6 l.length c6),(13,.pointer (some ⟨FY,0,none⟩)),(14,.pointer (some ⟨Pq,0,none⟩)),(15,.pointer (some ⟨V2,0,none⟩)),(16,.int .i64 m),(18,.int .i64 (m+bn w 32)),(19,.bool w)] a') ?_ ?_
 ·cases hc:decide (p≤A.time)with
  |true=>
   refine cM 64 (b':=true) hc rfl ?_
   refine Wm 3 [.z aC] (St.start _) rfl ?_
   refine Wm 1 [.z mg] (St.start _) rfl ?_
   refine Wp 3 rfl ?_;apply aD
   exact fun a ha=>⟨rfl,ha.keep ⟨rfl,rfl,rfl,rfl,rfl,rfl,rfl,kB rfl (by rw[hw,hc];rfl),trivial⟩⟩
  |false=>
   refine cM 64 (b':=false) hc rfl ?_
   refine Wp 7 rfl ?_;apply aD
   exact fun a ha=>⟨rfl,ha.keep ⟨rfl,rfl,rfl,rfl,rfl,rfl,rfl,kB rfl (by rw[hw,hc];rfl),trivial⟩⟩
 rintro a' _ ⟨rfl,eI⟩
 revert a'
 apply cQ;apply aB;refine cP 5 rfl ?_
 refine Jp (fun a' w'=>w'=g9.w∧Fr 132 [] [(11,.bool true),(12,.slice a6 l.length c6),(13,.pointer (some ⟨FY,0,none⟩)),(14,.pointer (some ⟨Pq,0,none⟩)),(15,.pointer (some ⟨V2,0,none⟩)),(16,.int .i64 m)] a') ?_ ?_
 ·cases w with
  |true=>
   refine an rfl rfl (Js rfl rfl rfl (by kernel_rfl) ?_)
   refine Wp 1 rfl ?_
   refine cM 77 (b':=false) ?_ rfl ?_
   ·rw[wr (by omega) (by omega)];simp[bn]
   refine ba rfl ?_
   refine aS rfl rfl ?_
   apply aE
   exact fun a ha=>⟨rfl,ha.keep ⟨rfl,rfl,rfl,rfl,rfl,rfl,trivial⟩⟩
  |false=>
   refine an rfl rfl (Js rfl rfl rfl (by kernel_rfl) ?_)
   refine Wp 1 rfl ?_
   refine cM 77 (b':=false) ?_ rfl ?_
   ·rw[wr (by omega) (by omega)];simp[bn];omega
   refine ba rfl ?_
   refine aS (b:=m+bn false 32 !=m) (by simp[bn]) rfl ?_
   apply aE
   exact fun a ha=>⟨rfl,ha.keep ⟨rfl,rfl,rfl,rfl,rfl,rfl,trivial⟩⟩
 rintro a' _ ⟨rfl,eI⟩
 revert a'
 clear hH Xg WV mg hw hm hp VI
 have dy:=AG (day:=100000) hX
 rw[←hb]at dy
 obtain⟨Xh,WG⟩:=Pw b A (dy 6 (by omega))
 rw[←DH]at WG
 have GF:=yl b A
 have XD: ∀i,((zf b).ls i).length≤1000000:=fun i=>by
  show(if i=5 then []else b.ls i).length≤_
  split
  ·exact Nat.zero_le _
  ·exact hK.size i
 have Xi:FO (zf b):=⟨XD,fun t ht=>hK.text t ht⟩
 apply cQ;refine dx 1 [.z dO] (St.start _) rfl ?_
 refine an rfl rfl (aK T.ok rfl hs rfl rfl ?_);clear hs;rintro Xj g1 hs ah;obtain⟨aC,aP,dO,aH,dI,bI⟩:=iu ah aC aP dO aH dI bI;replace bM:=bM.mono ah
 skip
 refine bg rfl (aA T.ok 0 rfl hs rfl rfl rfl rfl rfl rfl pK rfl rfl ?_);replace hs:=hs;rintro g1 hs ah;obtain⟨aC,aP,dO,aH,dI,bI⟩:=iu ah aC aP dO aH dI bI;replace bM:=bM.mono ah
 apply cf;refine cP 1 rfl ?_
 refine bg rfl (aA T.ok 0 rfl hs rfl rfl rfl rfl rfl rfl rfl rfl rfl ?_);replace hs:=hs;rintro g1 hs ah;obtain⟨aC,aP,dO,aH,dI,bI⟩:=iu ah aC aP dO aH dI bI;replace bM:=bM.mono ah
 replace hs:St g g1 [.obj Xj (.cells ((List.range 11).map fun i=>if i=5 then .slice none 0 0 else sl i).toArray 35 (0,0))]:=hs
 obtain⟨g2,bR,aU,ah,aL⟩:=hs.a_ (i:=0) rfl;replace hs:=aU;clear aU;rw[←bR];obtain⟨aC,aP,dO,aH,dI,bI⟩:=iu ah aC aP dO aH dI bI;replace bM:=bM.mono ah
 have mg:EP g2 Xj 0 ((List.range 11).map fun i=>if i=5 then .slice none 0 0 else sl i):=aL;clear aL
 replace hs:St g g2 []:=hs
 have Ce:iI g2 (.agg ((List.range 11).map fun i=>if i=5 then .slice none 0 0 else sl i).toArray) (zf b):=by
  obtain⟨sm,e,WD⟩:=bI
  refine⟨_,rfl,fun i hi=> ?_⟩
  have e2: ∀i,i<11→sl i=sm i:=fun i hi=>by
   have h1:=congrArg (fun v=>match v with|Value.agg a=>a.toList[i]? |_=>none) e
   simpa [hi]using h1
  show Rs g2 (if i=5 then .slice none 0 0 else sl i) (if i=5 then []else b.ls i)
  split
  ·exact Rs.nil _
  ·rw[e2 i hi];exact WD i hi
 apply cf;apply c_
 refine Wm 1 [.z mg] (St.start _) rfl ?_
 refine Wm 1 [.z aC] (St.start _) rfl ?_
 refine an rfl rfl (ay wi aI rfl rfl rfl rfl rfl (D_ _ (zf b) A _ Ce Xi bM) ?_);rintro g1 _ aN rfl;replace hs:=hs.call aN;have ah:=aN.le;obtain⟨aC,aP,dO,aH,dI,bI⟩:=iu ah aC aP dO aH dI bI;replace bM:=bM.mono ah
 clear aN Ce mg Xi
 rw[Xh]
 clear Xh
 refine ba rfl ?_;apply aB;refine cP 4 rfl ?_
 generalize oj b A=w1 at*
 generalize b.sE.any (pD A.tool A.cham A.rcp A.rvn A.time)=cq at*
 refine Jp (fun a' w'=>w'=g1.w∧Fr 132 [] [(11,.bool true),(12,.slice a6 l.length c6),(13,.pointer (some ⟨FY,0,none⟩)),(14,.pointer (some ⟨Pq,0,none⟩)),(15,.pointer (some ⟨V2,0,none⟩)),(16,.int .i64 m)] a') ?_ ?_
 ·cases cq with
  |true=>
   obtain rfl:m=w1:=by rw[WG];simp[bn]
   refine cM 94 (b':=true) ?_ rfl ?_
   ·simp;omega
   refine Wp 6 rfl ?_
   refine cM 100 (b':=false) ?_ rfl ?_
   ·rw[wr (by omega) (by omega)];simp
   refine ba rfl ?_
   refine aS ?_ rfl ?_
   ·exact Xf GF.1 GF.2
   apply aE
   exact fun a ha=>⟨rfl,ha.keep ⟨rfl,rfl,rfl,rfl,rfl,rfl,trivial⟩⟩
  |false=>
   obtain rfl:m=w1+16:=by rw[WG];simp[bn]
   refine cM 94 (b':=false) ?_ rfl ?_
   ·simp
   refine ba rfl ?_
   refine aS ?_ rfl ?_
   ·exact Xf GF.1 GF.2
   apply aE
   exact fun a ha=>⟨rfl,ha.keep ⟨rfl,rfl,rfl,rfl,rfl,rfl,trivial⟩⟩
 rintro a' _ ⟨rfl,eI⟩
 revert a'
 clear WG GF
 apply cQ;apply c_
 refine an rfl rfl (bj T.ok rfl hs (vs:=[]) (cells:=[]) rfl rfl rfl rfl rfl rfl (by decide) (by decide) (by kernel_rfl) rfl ?_);rintro b8 g9 hs ah;obtain⟨aC,aP,dO,aH,dI,bI⟩:=iu ah aC aP dO aH dI bI;replace bM:=bM.mono ah
 refine Wp 1 rfl ?_
 obtain⟨_,news,SH,Ie⟩:=Src.jq aH
 obtain rfl:=kX SH
 refine an rfl rfl (b_ T.ok 0 rfl hs rfl rfl rfl rfl rfl rfl rfl (by decide) rfl Ie (zP g9 l) (by show(0+l.length)*160≤_;omega) (by unfold maxLen;omega) ?_);rintro a7 c7 g10 hs ah;obtain⟨aC,aP,dO,aH,dI,bI⟩:=iu ah aC aP dO aH dI bI;replace bM:=bM.mono ah
 rw[Nat.zero_add l.length]at hs⊢
 replace hs:St g g10 [rF a7 c7 l]:=hs
 clear SH Ie
 refine ba rfl ?_;refine cP 1 rfl ?_
 refine an rfl rfl (aQ T.ok rfl (vs:=[(0,.int .i64 5),(2,.int .i64 1),(10,.int .i64 9),(18,.string (bs [120]))]) (cells:=bW fC) rfl rfl rfl rfl [(0,1),(1,1),(2,1),(3,1),(4,1),(5,1),(6,1),(7,1),(8,1),(9,1),(10,1),(11,1),(12,1),(13,1),(14,1),(15,1),(16,1),(17,1),(18,1)] rfl (by kernel_rfl) ?_)
 refine an rfl rfl (aQ T.ok rfl (vs:=[(0,.int .i64 4),(2,.int .i64 1),(7,.int .i64 8),(9,.int .i64 1),(10,.int .i64 9)]) (cells:=bW k7) rfl rfl rfl rfl [(0,1),(1,1),(2,1),(3,1),(4,1),(5,1),(6,1),(7,1),(8,1),(9,1),(10,1),(11,1),(12,1),(13,1),(14,1),(15,1),(16,1),(17,1),(18,1)] rfl (by kernel_rfl) ?_)
 refine Wm 1 [.z aP] (St.start _) rfl ?_
 obtain⟨s,Xd,dm,Wt⟩: ∃s tool,dA f.steps 0=some s∧s.dB[0]? =some tool:=by
  have h0:=GC.some_
  cases Ke:f.steps with
  |nil=>exact absurd Ke h0
  |cons s r=>
   have h1:=GC.dB s (by rw[Ke];exact List.mem_cons_self ..)
   cases Rm:s.dB with
   |nil=>exact absurd Rm h1
   |cons t r=>exact⟨s,t,rfl,by rw[Rm];rfl⟩
 refine an rfl rfl (ay PB aI rfl rfl rfl rfl rfl (Jq _ f s Xd 990 8 0 3 _ dI dm Wt) ?_);rintro g1 _ aN rfl;replace hs:=hs.call aN;have ah:=aN.le;obtain⟨aC,dO,aH,bI,bM⟩:=kN ah aC dO aH bI bM
 clear aN
 have hO:=Ey hX A hA s Xd
 generalize yn s Xd 990 8 0 3=e3 at*
 refine an rfl rfl (aQ T.ok rfl (vs:=[(0,.int .i64 10),(2,.int .i64 1),(14,.int .i64 2),(16,.int .i64 4)]) (cells:=bW tC) rfl rfl rfl rfl [(0,1),(1,1),(2,1),(3,1),(4,1),(5,1),(6,1),(7,1),(8,1),(9,1),(10,1),(11,1),(12,1),(13,1),(14,1),(15,1),(16,1),(17,1),(18,1)] rfl (by kernel_rfl) ?_)
 refine an rfl rfl (bj T.ok rfl hs (vs:=[(0,fv fC),(1,fv k7),(2,fv e3),(3,fv tC)]) (cells:=fl [fC,k7,e3,tC]) rfl rfl rfl rfl rfl rfl (by decide) (by decide) (by kernel_rfl) rfl ?_);rintro b9 gl hs ah;obtain⟨aC,dO,aH,bI,bM⟩:=kN ah aC dO aH bI bM
 obtain⟨gz,ik,cS,iT,dz⟩:=hs.cL (α:=bc) (xs:=[fC,k7,e3,tC]) (i:=0) rfl (cO.fl _ _);clear ah;have ah:=iT;rw[←ik];(repeat clear hs);have hs:St g gz [rF a7 c7 l]:=cS;clear cS;obtain⟨aC,dO,aH,bI,bM⟩:=kN ah aC dO aH bI bM
 obtain⟨_,news,SH,Ie⟩:=Src.jq dz
 obtain rfl:=kX SH
 refine an rfl rfl (b_ T.ok 0 rfl hs rfl rfl rfl rfl rfl rfl rfl (by decide) rfl Ie (zP gz _) (by show(l.length+4)*160≤_;omega) (by show l.length+4≤_;unfold maxLen;omega) ?_);rintro a9 c9 g10 hs ah;obtain⟨aC,dO,aH,bI,bM⟩:=kN ah aC dO aH bI bM
 have x_:(l++[fC,k7,e3,tC]).length=l.length+4:=List.length_append
 replace hs:St g g10 [rF a9 c9 (l++[fC,k7,e3,tC])]:=by unfold rF;rw[lr,x_];exact hs
 obtain⟨g8,xD,qO,ah,dj⟩:=hs.cL (α:=bc) (i:=0) rfl (cO.fl _ _)
 rw[←xD];(repeat clear hs);have hs:St g g8 []:=qO;clear qO;obtain⟨aC,dO,aH,bI,bM⟩:=kN ah aC dO aH bI bM;clear xD
 rw[x_]at dj
 clear dz SH Ie
 have Xo:=NH (l:=l++[fC,k7,e3,tC]) 100000 (by rw[x_];omega)
 rw[←hb,←DH]at hO
 refine ba rfl ?_;apply aB
 apply bO hs (eJ (fe (.f (WE (ofM (l++[fC,k7,e3,tC]) 100000))::fe (.e (.int .i64 m)::fe (.e (.bool true)::gE (.f (WE b):: .e (.bool true):: .e (.bool true)::[])))))) 15 [(14,131)] (by kernel_rfl) rfl
 ·refine Dm [[],[0],[1]] [] hs (by kernel_rfl) rfl ?_
  refine aw (ak (js:=[(2,119),(1,118),(1,118)]) (by kernel_rfl) fun gd hf=>ai rfl (ai rfl (ai rfl (aj (az rfl (ay Pv aI rfl rfl rfl rfl rfl (Qs _ (l++[fC,k7,e3,tC]) 100000 gd (dj.mono ((G.bJ _).trans hf.le)) (by rw[x_];omega)) fun g' u hf hv=>⟨g',rfl,hf,hv⟩)))))) ?_
  refine Dm [[1]] [.z aC] hs (by kernel_rfl) rfl ?_
  refine aw (ak (js:=[(3,120),(4,121),(3,120),(1,118)]) (by kernel_rfl) fun gd hf=>aY fun _ _=>ai rfl (aY fun v6 h6=>ai rfl (aj (az rfl (ay wi aI rfl rfl rfl rfl rfl (D_ v6 (ofM (l++[fC,k7,e3,tC]) 100000) A gd h6 Xo (bM.mono ((G.bJ _).trans hf.le))) fun g' u hf hv=>⟨g',rfl,hf,by rw[hO]at hv;exact hv⟩))))) ?_
  refine Dm [[1]] [] hs (by kernel_rfl) rfl ?_
  refine aw (ak (js:=[(5,122),(6,123),(1,118)]) (by kernel_rfl) fun gd hf=>ai rfl (ai rfl (ai rfl (aj (az rfl (aM _ T.ok rfl ⟨gd,rfl,aZ.refl _,congrArg Value.bool (beq_self_eq_true m)⟩)))))) ?_
  refine Dm [[1,7],[8],[9],[9]] [.z dO] hs (by kernel_rfl) rfl ?_
  refine aw (ak (js:=[(11,128),(9,126),(9,126)]) (by kernel_rfl) fun gd hf=>ai rfl (ai rfl (ai rfl (aj (az rfl (ay Pv aI rfl rfl rfl rfl rfl (Qs _ l 100000 gd (aH.mono ((G.bJ _).trans hf.le)) (by omega)) fun g' u hf hv=>⟨g',rfl,hf,by rw[hb];exact hv⟩)))))) ?_
  refine aw (ak (js:=[(10,127),(12,129),(12,129),(9,126)]) (by kernel_rfl) fun gd hf=>ai rfl (aY fun _ _=>aY fun v6 h6=>ai rfl (aj (az rfl (ay WH aI rfl rfl rfl rfl rfl (Wq _ v6 b gd (bI.mono ((G.bJ _).trans hf.le)) h6) fun g' u hf hv=>⟨g',rfl,hf,hv⟩))))) ?_
  exact Dz [[9,13]] [] hs (by kernel_rfl) rfl
 (repeat clear hs);intro g7 hs ah
 refine ba rfl ?_
 exact aF (aV rfl rfl (hs.ret rfl))
end Go.Proofs.YtebobfdheanknaaGreatDoor
namespace Go.K
open Go
theorem CE{P:Program}{f:FuncId}{fn:Func}{s:ChangeSpec}{c:OpenClaim}
  (h1:(c.inPlace==P.inPlace f)=true) (h2:(c.unfollowed==P.unfollowed f)=true) (h3:(c.recurses==P.recurses f)=true) (h4:(c.named==P.varsNamed f)=true)
  (h5:(c.wf (OpenSpec.ofChange s)&&fn.params.all (P.readableRec ·)&&namedTie P c.named s.vars)=true) (a2:laidOutB P=true) (a3:mapsRowed P=true)
  (h6:(P.mayEnter&&(c.lifted==P.liftsFinal)&&(P.make==some c.make))=true)
  (h7:((c.plainKeys==P.plainKeys)&&P.stopsHeard&&(P.stops==[])&&(P.stopKnobs==[]))=true)
  (h8:((c.stops==[])&&(c.knobs==[])&&(c.maps==(fn.params.toList++s.plain.varTypes P).any (P.mapsRec ·))&&(c.ifaces==(fn.params.toList++s.plain.varTypes P).any (P.ifacesRec ·))&&(c.mapsOut==P.mapsAmong fn.resultTypes.toList)&&
   (c.loops==(fn.params.toList++s.plain.varTypes P).any (P.loopsFrom ·))&&(c.wideKeys==(fn.params.toList++s.plain.varTypes P++fn.resultTypes.toList).any (P.wideKeysFrom ·))&&
   s.vars.all (P.varReadable ·)&&fn.resultTypes.all (fun t=>P.readableRec t&&decide (t<P.types.size))&&(c.ifacesOut==fn.resultTypes.toList.any (P.ifacesRec ·))&&(c.loopsOut==fn.resultTypes.toList.any (P.loopsFrom ·))&&c.shortTexts.isNone&&(c.kinds==(if c.domain.isEmpty then []else fn.params.toList.map fun t=>match P.underlying t with|some (.int k)=>some k|_=>none))&&(c.pinned==c.pinnedBy)&&
   (c.veiled==(fn.params.toList++s.plain.varTypes P++fn.resultTypes.toList).any (P.veiledRec ·))&&c.veiledFits P fn.params.toList (fn.params.toList++s.plain.varTypes P++fn.resultTypes.toList))=true):joinedFacts P f fn s c=true:=by
 unfold joinedFacts
 simp only[Bool.and_eq_true]at h5 h6 h7 h8⊢
 obtain⟨⟨a1,a4⟩,a5⟩:=h5
 obtain⟨⟨b1,b2⟩,b3⟩:=h6
 obtain⟨⟨⟨d1,d2⟩,d3⟩,d4⟩:=h7
 obtain⟨⟨⟨⟨⟨⟨⟨⟨⟨⟨⟨⟨⟨⟨⟨e1,e2⟩,e3⟩,e4⟩,e5⟩,e6⟩,e7⟩,e8⟩,e9⟩,Vp⟩,Vq⟩,Vr⟩,Vs⟩,Vt⟩,Vu⟩,Vv⟩:=h8
 exact⟨⟨⟨⟨⟨⟨⟨⟨⟨⟨⟨⟨⟨⟨⟨⟨⟨⟨⟨⟨⟨⟨⟨⟨⟨⟨⟨⟨⟨⟨⟨a1,a2⟩,a3⟩,a4⟩,a5⟩,e1⟩,d3⟩,e2⟩,d4⟩,h1⟩,h2⟩,h3⟩,h4⟩,e3⟩,e4⟩,e5⟩,e6⟩,e7⟩,e8⟩,e9⟩,Vp⟩,Vq⟩,d1⟩,Vr⟩,d2⟩,b1⟩,b2⟩,b3⟩,Vs⟩,Vt⟩,Vu⟩,Vv⟩
end Go.K
