/- Parts of the proof, from: What Parse accepts: the lines of a valid flow, and ignored ones. -/
import Derived.Test.YtebobfdheanknaaGreatDoorYg
import Derived.Test.YtebobfdheanknaaGreatDoorYl
import Derived.Test.YtebobfdheanknaaGreatDoorYn
import Derived.Test.YtebobfdheanknaaGreatDoorYb
import Derived.JoinedOf
namespace Go.Proofs.YtebobfdheanknaaGreatDoor
open Go Go.K
def ln:Nat→List Step→List (List UInt8)
 |_,[]=>[]
 |k,s::r=>jh k s::ln (k+1) r
def gT(f:bV):List (List UInt8):=kH f.ck f.cu::(ln 0 f.steps++f.windows.map gi)
def r3(ls:List (List UInt8)):List UInt8:=(ls.map fun l=>l++[10]).flatten
theorem sn(l:List UInt8)(ls:List (List UInt8)):r3 (l::ls)=l++10::r3 ls:=by simp[r3]
theorem Xn(ls ms:List (List UInt8)):r3 (ls++ms)=r3 ls++r3 ms:=by simp[r3]
theorem Cm: ∀(l:List Step) (k:Nat),r3 (ln k l)=gj k l
 |[],_=>rfl
 |s::l,k=>by rw[ln,sn,Cm l (k+1)];rfl
theorem GJ: ∀l:List cj,r3 (l.map gi)=jY l
 |[]=>rfl
 |w::l=>by rw[List.map_cons,sn,GJ l];rfl
theorem UA(f:bV):tD f=r3 (gT f):=by
 unfold tD gT
 rw[sn,Xn,Cm,GJ]
theorem Jo: ∀ls:List (List UInt8),(∀l∈ls,(10:UInt8)∉l)→cz 10 (r3 ls)=ls++[[]]
 |[],_=>rfl
 |l::ls,h=>by
  rw[sn,Ek 10 l _ (h l (List.mem_cons_self ..)),Jo ls fun x hx=>h x (List.mem_cons_of_mem _ hx)]
  rfl
def acc(first:Bool)(f:bV):List (List UInt8)→Option bV
 |[]=>some f
 |l::r=>(uz first f l).bind fun f'=>acc false f' r
theorem go_acc: ∀(ls:List (List UInt8)) (first:Bool) (f:bV) (i:Nat),
  (∃f',gm first f i ls= .inl f'∧acc first f (ls.filter fun l=> !BL l)=some f')∨
  (∃j,gm first f i ls= .inr j∧acc first f (ls.filter fun l=> !BL l)=none)
 |[],first,f,i=> .inl ⟨f,rfl,rfl⟩
 |l::r,first,f,i=>by
  rw[gm]
  by_cases hs:BL l=true
  ·rw[if_pos hs,List.filter_cons_of_neg (by simp[hs])]
   exact go_acc r first f (i+1)
  ·rw[if_neg hs,List.filter_cons_of_pos (by simp[hs]),acc]
   cases uz first f l with
   |none=>exact .inr ⟨_,rfl,rfl⟩
   |some f'=>exact go_acc r false f' (i+1)
theorem XD(p r:List UInt8):p.isPrefixOf (p++r)=true:=by
 rw[List.isPrefixOf_iff_prefix];exact List.prefix_append p r
theorem XW(i:Nat)(s:Step):nB.isPrefixOf (jh i s)=true:=by
 rw[zg,List.append_assoc];exact XD _ _
theorem Xo(w:cj):nB.isPrefixOf (gi w)=false:=by
 rw[ov];rfl
theorem Py: ∀(r:List (List UInt8)) (f f':bV),acc false f r=some f'→
  ∃ss ws,f'=⟨f.ck,f.cu,f.steps++ss,f.windows++ws⟩∧r=ln f.steps.length ss++ws.map gi∧(ss≠[]→f.windows=[])
 |[],f,f',h=>by
  obtain rfl:=Option.some.inj h
  exact⟨[],[],by simp,rfl,fun h=>absurd rfl h⟩
 |l::r,f,f',h=>by
  rw[acc]at h
  obtain⟨f1,h1,h2⟩:=Option.bind_eq_some_iff.1 h
  obtain⟨ss,ws,rfl,rfl,hw⟩:=Py r f1 f' h2
  have h1:nI f l=some f1:=h1
  unfold nI at h1
  split at h1
  ·obtain⟨s,hs,rfl⟩:=Option.map_eq_some_iff.1 h1
   unfold rJ at hs
   obtain⟨s',mK,aU⟩:=Option.bind_eq_some_iff.1 hs
   split at aU
   ·rename_i hc
    obtain rfl:=Option.some.inj aU
    have hl:=(O2.1 mK).1
    simp only[Bool.and_eq_true,decide_eq_true_eq]at hc
    have YO:f.windows=[]:=List.eq_nil_of_length_eq_zero (by omega)
    refine⟨s'::ss,ws,by simp,?_,fun _=>YO⟩
    rw[hl,ln,List.length_append,List.length_singleton];rfl
   ·cases aU
  ·obtain⟨w,hs,rfl⟩:=Option.map_eq_some_iff.1 h1
   unfold jk at hs
   obtain⟨w',mK,aU⟩:=Option.bind_eq_some_iff.1 hs
   split at aU
   ·obtain rfl:=Option.some.inj aU
    have hl:=(GD.1 mK).1
    have YP:ss=[]:=by
     cases ss with
     |nil=>rfl
     |cons a b=>exact absurd (hw (by simp)) (by simp)
    subst YP
    refine⟨[],w'::ws,by simp,?_,fun h=>absurd rfl h⟩
    rw[hl];rfl
   ·cases aU
theorem Xd(f:bV)(l:List UInt8):uz false f l=nI f l:=rfl
theorem Jp{lo hi hi':Int}(h:hi≤hi'): ∀{l:List Int} {p:Int},kU lo hi p l=true→kU lo hi' p l=true
 |[],_,_=>rfl
 |n::r,p,h1=>by
  simp only[kU,within,Bool.and_eq_true,decide_eq_true_eq]at h1⊢
  exact⟨⟨⟨h1.1.1.1,by omega⟩,h1.1.2⟩,Jp h h1.2⟩
theorem Js{s:Step}{n m:Int}(h:n≤m)(h1:cg s n=true):cg s m=true:=by
 unfold cg at h1⊢
 simp only[Bool.and_eq_true,Bool.or_eq_true,decide_eq_true_eq,within,beq_iff_eq]at h1⊢
 obtain⟨⟨⟨⟨⟨⟨⟨a,b⟩,c⟩,d⟩,e⟩,f⟩,g⟩,k⟩:=h1
 refine⟨⟨⟨⟨⟨⟨⟨?_,b⟩,c⟩,d⟩,?_⟩,f⟩,g⟩,k⟩
 ·rcases a with a|a
  ·exact .inl a
  ·exact .inr (by omega)
 ·cases hn:s.next with
  |nil=>rfl
  |cons x r=>
   rw[hn]at e
   simp only[ascending,within,Bool.and_eq_true,decide_eq_true_eq]at e⊢
   exact⟨by omega,Jp (by omega) e.2⟩
theorem Ey{w:cj}{n m:Int}(h:n≤m)(h1:dS w n=true):dS w m=true:=by
 unfold dS at h1⊢
 simp only[Bool.and_eq_true,within,decide_eq_true_eq]at h1⊢
 obtain⟨⟨⟨a,b⟩,c⟩,d⟩:=h1
 exact⟨⟨⟨by omega,by omega⟩,c⟩,d⟩
theorem GK{n m:Int}(h:n≤m): ∀{l pre:List cj},ek n pre l=true→ek m pre l=true
 |[],_,_=>rfl
 |w::r,pre,h1=>by
  simp only[ek,Bool.and_eq_true]at h1⊢
  exact⟨⟨Ey h h1.1.1,h1.1.2⟩,GK h h1.2⟩
theorem SH(r:List (List UInt8)): ∀(ss:List Step) (f:bV),f.windows=[]→(∀s∈ss,cg s 40=true)→f.steps.length+ss.length≤40→
  acc false f (ln f.steps.length ss++r)=acc false ⟨f.ck,f.cu,f.steps++ss,[]⟩ r
 |[],f,hw,_,_=>by
  rw[ln,List.nil_append,List.append_nil,←hw]
 |s::ss,f,hw,hs,hl=>by
  have oh:=hs s (List.mem_cons_self ..)
  have hN:=(yV (n:=40) (by decide) oh).n
  rw[List.length_cons]at hl
  have e:uz false f (jh f.steps.length s)=some ⟨f.ck,f.cu,f.steps++[s],[]⟩:=by
   rw[Xd]
   unfold nI
   rw[if_pos (XW _ _)]
   unfold rJ
   rw[O2.2 ⟨rfl,hN⟩]
   show Option.map _ (if _ then _ else _)=_
   rw[if_pos (by rw[oh,hw];simp;omega),Option.map_some,hw]
  have:=SH r ss ⟨f.ck,f.cu,f.steps++[s],[]⟩ rfl (fun x hx=>hs x (List.mem_cons_of_mem _ hx)) (by simp;omega)
  rw[ln,List.cons_append,acc,e]
  show acc false _ _=_
  rw[List.length_append,List.length_singleton]at this
  rw[this,List.append_assoc];rfl
theorem Xe: ∀(ws:List cj) (f:bV),ek 40 f.windows ws=true→f.windows.length+ws.length≤20→f.steps≠[]→
  acc false f (ws.map gi)=some ⟨f.ck,f.cu,f.steps,f.windows++ws⟩
 |[],f,_,_,_=>by rw[List.append_nil];rfl
 |w::ws,f,hw,hl,hs=>by
  rw[ek,Bool.and_eq_true,Bool.and_eq_true]at hw
  rw[List.length_cons]at hl
  have hlen:0<f.steps.length:=List.length_pos_iff.2 hs
  have hN:=u7 (n:=40) (by decide) hw.1.1
  have e:uz false f (gi w)=some ⟨f.ck,f.cu,f.steps,f.windows++[w]⟩:=by
   rw[Xd]
   unfold nI
   rw[if_neg (by rw[Xo];decide)]
   unfold jk
   rw[GD.2 ⟨rfl,hN⟩]
   show Option.map _ (if _ then _ else _)=_
   rw[if_pos (by rw[hw.1.1,hw.1.2];simp;omega)];rfl
  rw[List.map_cons,acc,e]
  show acc false _ _=_
  rw[Xe ws ⟨f.ck,f.cu,f.steps,f.windows++[w]⟩ hw.2 (by simp;omega) hs,List.append_assoc];rfl
structure RN(f:bV):Prop where
 S_:eh f=true
 one:1≤f.steps.length
 steps:f.steps.length≤40
 J9:f.windows.length≤20
 all: ∀s∈f.steps,cg s f.steps.length=true
 ok:ek f.steps.length [] f.windows=true
theorem Yg{f:bV}:valid f=true↔RN f:=by
 unfold valid
 simp only[Bool.and_eq_true,within,decide_eq_true_eq,List.all_eq_true]
 constructor
 ·rintro⟨⟨⟨⟨a,b,c⟩,d⟩,e⟩,f⟩
  exact⟨a,by omega,by omega,by omega,e,f⟩
 ·rintro⟨a,b,c,d,e,f⟩
  exact⟨⟨⟨⟨a,by omega,by omega⟩,by omega⟩,e⟩,f⟩
theorem Xp{f:bV}(h:eh f=true):qm (kH f.ck f.cu)=some (f.ck,f.cu):=by
 unfold qm
 rw[Pw.2 ⟨rfl,qi h⟩]
 show(if _ then _ else _)=_
 exact if_pos h
theorem XX{f:bV}(hm:eh f=true)(hs: ∀s∈f.steps,cg s 40=true)(hl:f.steps.length≤40)(fu:f.steps≠[])(hw:ek 40 [] f.windows=true)(RW:f.windows.length≤20):acc true rL (gT f)=some f:=by
 unfold gT
 rw[acc]
 show((qm _).map _).bind _=_
 rw[Xp hm]
 show acc false ⟨f.ck,f.cu,[],[]⟩ _=_
 rw[show ln 0 f.steps=ln (⟨f.ck,f.cu,[],[]⟩:bV).steps.length f.steps from rfl]
 rw[SH _ f.steps ⟨f.ck,f.cu,[],[]⟩ rfl hs (by simpa using hl)]
 show acc false ⟨f.ck,f.cu,f.steps,[]⟩ _=_
 rw[Xe f.windows ⟨f.ck,f.cu,f.steps,[]⟩ hw (by simpa using RW) fu]
 rfl
theorem uG{f:bV}(h:valid f=true):acc true rL (gT f)=some f:=by
 have hB:=Yg.1 h
 have:=hB.steps
 exact XX hB.S_ (fun s hs=>Js (by omega) (hB.all s hs)) hB.steps (fun e=>by have:=hB.one;rw[e]at this;simp at this) (GK (by omega) hB.ok) hB.J9
theorem XE{f:bV}{ls:List (List UInt8)}(h:acc true rL ls=some f)(hv:valid f=true):ls=gT f:=by
 cases ls with
 |nil=>
  obtain rfl:=Option.some.inj h
  cases hv
 |cons l r=>
  rw[acc]at h
  obtain⟨f1,h1,h2⟩:=Option.bind_eq_some_iff.1 h
  have h1:(qm l).map (fun p=>(⟨p.1,p.2,[],[]⟩:bV))=some f1:=h1
  obtain⟨⟨m,n⟩,hm,rfl⟩:=Option.map_eq_some_iff.1 h1
  unfold qm at hm
  obtain⟨⟨m',n'⟩,Kr,Ss⟩:=Option.bind_eq_some_iff.1 hm
  split at Ss
  ·obtain⟨rfl,rfl⟩:=Prod.mk.inj (Option.some.inj Ss)
   obtain⟨ss,ws,rfl,rfl,_⟩:=Py r _ f h2
   rw[(Pw.1 Kr).1];rfl
  ·cases Ss
theorem AI{x:List UInt8}: ∀{ss:List Step} {k:Nat},x∈ln k ss→ ∃i s,x=jh i s
 |s::ss,k,h=>by
  rcases List.mem_cons.1 h with rfl|h
  ·exact⟨_,_,rfl⟩
  ·exact AI h
theorem Xq{f:bV}: ∀l∈gT f,(10:UInt8)∉l:=by
 intro l hl
 unfold gT at hl
 rcases List.mem_cons.1 hl with rfl|hl
 ·rw[rC]
  intro h
  rcases List.mem_append.1 h with h|h
  ·revert h;decide
  ·exact Ex (by decide) (by decide) _ _ h
 ·rcases List.mem_append.1 hl with hl|hl
  ·obtain⟨i,s,rfl⟩:=AI hl
   exact Uz (by decide) (WK (by decide) (by decide) (by decide) (by decide) (by decide) i s)
  ·obtain⟨w,_,rfl⟩:=List.mem_map.1 hl
   rw[ov]
   intro h
   simp only[List.mem_append]at h
   rcases h with((((h|h)|h)|h)|h)|h
   ·revert h;decide
   ·exact kB (by decide) _ h
   ·revert h;decide
   ·exact kB (by decide) _ h
   ·revert h;decide
   ·exact kB (by decide) _ h
theorem UP{f:bV}: ∀l∈gT f,BL l=false:=by
 intro l hl
 unfold gT at hl
 rcases List.mem_cons.1 hl with rfl|hl
 ·rw[rC];rfl
 ·rcases List.mem_append.1 hl with hl|hl
  ·obtain⟨i,s,rfl⟩:=AI hl
   rw[zg];rfl
  ·obtain⟨w,_,rfl⟩:=List.mem_map.1 hl
   rw[ov];rfl
theorem UQ(f:bV):(gT f++[[]]).filter (fun l=> !BL l)=gT f:=by
 rw[List.filter_append,List.filter_eq_self.2 fun l hl=>by rw[UP l hl];rfl]
 show _++[]=_
 rw[List.append_nil]
theorem XF{s:List UInt8}{f:bV}:lx s= .inl f↔valid f=true∧(cz 10 s).filter (fun l=> !BL l)=gT f:=by
 unfold lx
 rcases go_acc (cz 10 s) true rL 0 with⟨f',h1,h2⟩|⟨j,h1,h2⟩
 ·rw[h1]
  show(if valid f'=true then Sum.inl f' else Sum.inr (cz 10 s).length)=_↔_
  by_cases hv:valid f'=true
  ·rw[if_pos hv]
   constructor
   ·intro e;obtain rfl:=Sum.inl.inj e
    exact⟨hv,XE h2 hv⟩
   ·rintro⟨a,b⟩
    rw[b,uG a]at h2
    rw[Option.some.inj h2]
  ·rw[if_neg hv]
   refine⟨fun e=>(by cases e),?_⟩
   rintro⟨a,b⟩
   rw[b,uG a]at h2
   exact absurd (Option.some.inj h2▸a) hv
 ·rw[h1]
  refine⟨fun e=>(by cases e),?_⟩
  rintro⟨a,b⟩
  rw[b,uG a]at h2
  cases h2
theorem Wq{f:bV}(h:valid f=true):lx (tD f)= .inl f:=by
 refine XF.2 ⟨h,?_⟩
 rw[UA,Jo _ Xq,UQ]
set_option maxRecDepth 100000
theorem Ac{t:List UInt8}(h:t.length≤8192):fm (pM t)=true:=by
 unfold fm
 rw[show dM (pM t).kind=some (ea 4)from rfl]
 have e3:lV (ea 4).fields (pM t)=some {pM t with prod:=0}:=by
  rw[show(ea 4).fields=[eD 10]from rfl,FQ (by simp[pM,bc.num,eD])]
  rfl
 simp only[e3]
 simp[pM,gF,ea,lU,ow,o7]
 exact decide_eq_false (by omega)
theorem JG: ∀i:Nat,i<3→fm (uV i)=true∧fp (uV i)=8::UInt8.ofNat (2*(i+1))::[0]:=by decide+kernel
theorem AD: ∀n:Nat,n<120→fm (vz n)=true∧fp (vz n)=12::fO ((n:Int)+1):=by decide+kernel
theorem XL: ∀i:Nat,i<120→ ∀j:Nat,j<120→fO ((i:Int)+1)=fO ((j:Int)+1)→i=j:=by decide+kernel
theorem Xt{t:List UInt8}(h:t.length≤8192): ∀x∈Eo t,fm x=true∧x.day=0∧x.gone=false:=by
 intro x hx
 unfold Eo Cb at hx
 rcases List.mem_append.1 hx with hx|hx
 ·rcases List.mem_cons.1 hx with rfl|hx
  ·exact⟨Ac h,rfl,rfl⟩
  ·obtain⟨i,hi,rfl⟩:=List.mem_map.1 hx
   exact⟨(JG i (List.mem_range.1 hi)).1,rfl,rfl⟩
 ·obtain⟨i,hi,rfl⟩:=List.mem_map.1 hx
  exact⟨(AD i (List.mem_range.1 hi)).1,rfl,rfl⟩
theorem XM{t:List UInt8}(h:t.length≤8192):(Eo t).Pairwise fun x y=>fp x≠fp y:=by
 have hk: ∀{x y:bc},fm x=true→x.kind≠y.kind→fp x≠fp y:=fun hv fu e=>fu (yy (jz hv) e)
 unfold Eo Cb
 rw[List.pairwise_append]
 refine⟨?_,?_,?_⟩
 ·rw[List.pairwise_cons]
  refine⟨fun y hy=>?_,?_⟩
  ·obtain⟨i,hi,rfl⟩:=List.mem_map.1 hy
   exact hk (Ac h) (by show(5:Int)≠4;decide)
  ·have: ∀i:Nat,i<3→ ∀j:Nat,j<3→i<j→fp (uV i)≠fp (uV j):=by decide+kernel
   rw[List.pairwise_map]
   exact List.pairwise_lt_range.imp_of_mem fun {a b} ha hb Vm=>this a (List.mem_range.1 ha) b (List.mem_range.1 hb) Vm
 ·rw[List.pairwise_map]
  refine List.pairwise_lt_range.imp_of_mem fun {a b} ha hb Vm e=>?_
  rw[(AD a (List.mem_range.1 ha)).2,(AD b (List.mem_range.1 hb)).2]at e
  have:=XL a (List.mem_range.1 ha) b (List.mem_range.1 hb) (List.cons.inj e).2
  omega
 ·intro x hx y hy
  obtain⟨j,hj,rfl⟩:=List.mem_map.1 hy
  rcases List.mem_cons.1 hx with rfl|hx
  ·exact hk (Ac h) (by show(5:Int)≠6;decide)
  ·obtain⟨i,hi,rfl⟩:=List.mem_map.1 hx
   exact hk (JG i (List.mem_range.1 hi)).1 (by show(4:Int)≠6;decide)
structure Yr(R:List bc):Prop where
 ok: ∀x∈R,fm x=true∧x.kind=1∧x.day=0∧x.gone=false∧x.waf=1∧0≤x.time∧x.time≤1000000
 key:R.Pairwise fun x y=>fp x≠fp y
 time:R.Pairwise fun x y=>x.time<y.time
 idn:R.Pairwise fun x y=>x.idn≠y.idn
theorem X8{t:List UInt8}(h:t.length≤8192){R:List bc}(hR:Yr R)(i:Nat):(ofM (Eo t++R) 100000).ls i=dK (lj i) ((Eo t++R).filter fun x=>decide (x.kind=(i:Int)+1)):=by
 have dh: ∀x∈Eo t++R,fm x=true∧x.day=0∧x.gone=false:=fun x hx=>by
  rcases List.mem_append.1 hx with hx|hx
  ·exact Xt h x hx
  ·obtain⟨a,_,b,c,_⟩:=hR.ok x hx;exact⟨a,b,c⟩
 have hp:(Eo t++R).Pairwise fun x y=>fp x≠fp y:=by
  rw[List.pairwise_append]
  refine⟨XM h,hR.key,fun x hx y hy e=>?_⟩
  obtain⟨a,b,_⟩:=hR.ok y hy
  exact(tB t x hx).1 ((yy (by rw[e];exact jz a) e).trans b)
 have hb:=NO (day:=100000) (l:=[]) (Eo t++R) (fun x hx=>⟨jz (dh x hx).1,by have:=(dh x hx).2.1;omega⟩) hp (fun x hx=>absurd hx List.not_mem_nil)
 rw[List.nil_append]at hb
 show dK _ (gH (jU 100000 (Eo t++R)) i)=_
 rw[hb]
 congr 1
 show gH ([]++_) i=_
 rw[List.nil_append]
 unfold gH
 rw[List.filter_map,List.map_map]
 have:((fun p:List UInt8×bc=>p.2)∘fun x=>(fp x,x))=id:=rfl
 rw[this,List.map_id]
 refine List.filter_congr fun x hx=>?_
 simp[(dh x hx).2.2]
theorem Xg(t:List UInt8)(R:List bc)(k:Int):(Eo t++R).filter (fun x=>decide (x.kind=k))=([pM t].filter fun x=>decide (x.kind=k))++((List.range 3).map uV).filter (fun x=>decide (x.kind=k))++((List.range 120).map vz).filter (fun x=>decide (x.kind=k))++R.filter fun x=>decide (x.kind=k):=by
 unfold Eo Cb
 rw[List.filter_append,List.filter_append,←List.singleton_append,List.filter_append]
theorem SX{α:Type}{p:α→Bool}{l:List α}(h: ∀x∈l,p x=true):l.filter p=l:=List.filter_eq_self.2 h
theorem Yl{α:Type}{p:α→Bool}{l:List α}(h: ∀x∈l,p x=false):l.filter p=[]:=List.filter_eq_nil_iff.2 fun x hx=>by rw[h x hx];simp
theorem X9{t:List UInt8}(h:t.length≤8192){R:List bc}(hR:Yr R){b:fX}(hb:b=ofM (Eo t++R) 100000):
  b.procs.Perm R∧b.C7=[]∧b.jw=(List.range 3).map uV∧b.oc=[pM t]∧b.sE.Perm ((List.range 120).map vz)∧b.holds=[]∧b.jS=[]:=by
 subst hb
 have kl: ∀x∈(List.range 3).map uV,x.kind=4:=fun x hx=>by obtain⟨i,_,rfl⟩:=List.mem_map.1 hx;rfl
 have kq: ∀x∈(List.range 120).map vz,x.kind=6:=fun x hx=>by obtain⟨i,_,rfl⟩:=List.mem_map.1 hx;rfl
 have kr: ∀x∈R,x.kind=1:=fun x hx=>(hR.ok x hx).2.1
 have e: ∀(i:Nat),(ofM (Eo t++R) 100000).ls i=dK (lj i) (([pM t].filter fun x=>decide (x.kind=(i:Int)+1))++((List.range 3).map uV).filter (fun x=>decide (x.kind=(i:Int)+1))++((List.range 120).map vz).filter (fun x=>decide (x.kind=(i:Int)+1))++R.filter fun x=>decide (x.kind=(i:Int)+1)):=fun i=>by
  rw[X8 h hR,Xg]
 have no: ∀{i:Nat} {l:List bc} {k:Int},(∀x∈l,x.kind=k)→k≠(i:Int)+1→(l.filter fun x=>decide (x.kind=(i:Int)+1))=[]:=fun h fu=>Yl fun x hx=>decide_eq_false (by rw[h x hx];exact fu)
 have ya: ∀{i:Nat} {l:List bc},(∀x∈l,x.kind=(i:Int)+1)→(l.filter fun x=>decide (x.kind=(i:Int)+1))=l:=fun h=>SX fun x hx=>decide_eq_true (h x hx)
 have kf: ∀x∈[pM t],x.kind=5:=fun x hx=>by rw[List.mem_singleton.1 hx];rfl
 refine⟨?_,?_,?_,?_,?_,?_,?_⟩
 ·show((ofM (Eo t++R) 100000).ls 0).Perm R
  rw[e,no kf (by decide),no kl (by decide),no kq (by decide),ya kr]
  exact iM _
 ·show(ofM (Eo t++R) 100000).ls 2=[]
  rw[e,no kf (by decide),no kl (by decide),no kq (by decide),no kr (by decide)];rfl
 ·show(ofM (Eo t++R) 100000).ls 3=_
  rw[e,no kf (by decide),ya kl,no kq (by decide),no kr (by decide)]
  decide+kernel
 ·show(ofM (Eo t++R) 100000).ls 4=_
  rw[e,ya kf,no kl (by decide),no kq (by decide),no kr (by decide)];rfl
 ·show((ofM (Eo t++R) 100000).ls 5).Perm _
  rw[e,no kf (by decide),no kl (by decide),ya kq,no kr (by decide),List.append_nil]
  exact iM _
 ·show(ofM (Eo t++R) 100000).ls 6=[]
  rw[e,no kf (by decide),no kl (by decide),no kq (by decide),no kr (by decide)];rfl
 ·show(ofM (Eo t++R) 100000).ls 7=[]
  rw[e,no kf (by decide),no kl (by decide),no kq (by decide),no kr (by decide)];rfl
end Go.Proofs.YtebobfdheanknaaGreatDoor
namespace Go.Proofs.YtebobfdheanknaaGreatDoor
open Go Go.K
set_option maxRecDepth 100000
structure GL(b:fX)(f:bV)(R:List bc):Prop where
 procs:b.procs.Perm R
 C7:b.C7=[]
 jw:b.jw=(List.range 3).map uV
 oc:b.oc=[pM (tD f)]
 sE:b.sE.Perm ((List.range 120).map vz)
 holds:b.holds=[]
 val:valid f=true
 ok:Yr R
theorem Xr{f:bV}(hv:valid f=true){R:List bc}(hR:Yr R):GL (ofM (Eo (Cf f)++R) 100000) f R:=by
 have e:Cf f=tD f:=if_pos hv
 obtain⟨h1,h2,h3,h4,h5,h6,_⟩:=X9 (t:=Cf f) (by rw[e];exact Xi (Hi hv)) hR rfl
 exact⟨h1,h2,h3,by rw[h4,e],h5,h6,hv,hR⟩
variable {b:fX} {f:bV} {R:List bc}
theorem GL.Yz(h:GL b f R){m:Int}(hm:mB m=true)(t:Int):zV b m t=m:=by
 unfold zV wM
 rw[h.C7,if_pos hm];rfl
theorem GL.lot(h:GL b f R){t:Int}(ht:0≤t):pG b 1 t=some (uV 0):=by
 unfold pG
 rw[h.jw]
 have e:(List.range 3).map uV=[uV 0,uV 1,uV 2]:=rfl
 have h1:zY 1 t (uV 0)=true:=by
  show((mB 1&&(1:Int)==1)&&decide ((0:Int)≤t))=true
  rw[decide_eq_true ht];rfl
 have h2:zY 1 t (uV 1)=false:=rfl
 have h3:zY 1 t (uV 2)=false:=rfl
 rw[e]
 simp[n5,h1,h2,h3]
theorem GL.Nu(h:GL b f R){t:Int}(ht:0≤t):fB b 1 t=if(check f).1=0 then some f else none:=by
 unfold fB
 rw[h.lot ht,h.oc]
 have e:((some (uV 0)).getD gF).prod=1:=rfl
 rw[e,if_neg (by decide)]
 have e2:([pM (tD f)].find? fun x=>x.prod==1)=some (pM (tD f)):=rfl
 rw[e2]
 have e3:(pM (tD f)).text=tD f:=rfl
 simp only[e3,Wq h.val]
theorem GL.Ys(h:GL b f R):pF b 1=R:=by
 unfold pF
 rw[if_pos (show mB 1=true from rfl)]
 have h1: ∀x∈b.procs,(zV b x.waf x.time==1)=true:=fun x hx=>by
  have e:=(h.ok.ok x (h.procs.mem_iff.1 hx)).2.2.2.2.1
  rw[e,h.Yz rfl];rfl
 rw[SX h1]
 refine ox ((iM _).trans h.procs) (jG _) (h.ok.time.imp fun {x y} Kl=>?_) fun x hx y hy e=>?_
 ·rw[iC];show ¬(y.time<x.time∨(y.time=x.time∧y.idn<x.idn));omega
 ·have UH:=h.procs.mem_iff.1 ((iM _).mem_iff.1 hx)
  have YD:=h.procs.mem_iff.1 ((iM _).mem_iff.1 hy)
  obtain⟨i,hi,rfl⟩:=List.mem_iff_getElem.1 UH
  obtain⟨j,hj,rfl⟩:=List.mem_iff_getElem.1 YD
  have hp:=List.pairwise_iff_getElem.1 h.ok.time
  have et:R[i].time=R[j].time:=congrArg Prod.fst e
  rcases Nat.lt_trichotomy i j with zK|zK|zK
  ·have:=hp i j hi hj zK;omega
  ·subst zK;rfl
  ·have:=hp j i hj hi zK;omega
theorem GL.Yw(h:GL b f R){tool rcp time:Int}(h1:0≤tool∧tool≤11)(h2:1≤rcp∧rcp≤5)(h3:0≤time∧time≤1000000):b.sE.any (pD tool 0 rcp 1 time)=true:=by
 rw[List.any_eq_true]
 refine⟨vz (10*tool.toNat+(rcp.toNat-1)),h.sE.mem_iff.2 (List.mem_map_of_mem (List.mem_range.2 (by omega))),?_⟩
 have e:vz (10*tool.toNat+(rcp.toNat-1))=om tool.toNat 0 (rcp.toNat-1):=by
  unfold vz
  rw[show(10*tool.toNat+(rcp.toNat-1))/10=tool.toNat from by omega,show(10*tool.toNat+(rcp.toNat-1))/5 % 2=0 from by omega,show(10*tool.toNat+(rcp.toNat-1)) % 5=rcp.toNat-1 from by omega]
 rw[e]
 show((((tool.toNat:Int)==tool&&(((0:Nat):Int)==0&&(((rcp.toNat-1+1:Nat):Int)==rcp&&(1:Int)==1)))&&decide ((0:Int)≤time))&&decide (time≤1000000))=true
 simp;omega
theorem Ky{a:fD}{h:List bc}(hf:fB b a.waf a.time=some f)(hh:b.holds=[]):
  rn b a h=bn (!(wH (some f) h).contains a.step) 2+bn ((gR (some f) a.step).isSome&& !((gR (some f) a.step).getD jW).dB.contains a.tool) 4+bn ((gR (some f) a.step).isSome&&((gR (some f) a.step).getD jW).dD !=a.rcp) 8+bn (!b.sE.any (pD a.tool a.cham a.rcp a.rvn a.time)) 16:=by
 unfold rn B5
 rw[Yh,hf,GX a hh]
 simp[bn]
theorem Wz{zs:List Int}{x:Int}(h:x∈Lib.compact zs):x∈zs:=by
 unfold Lib.compact Lib.compactUpTo at h
 obtain⟨j,hj,rfl⟩:=List.mem_map.1 h
 have bh:=List.mem_range.1 (List.mem_filter.1 hj).1
 show zs.toArray[j]! ∈zs
 rw[getElem!_pos zs.toArray j (by simpa using bh)]
 exact List.getElem_mem bh
theorem NJ{x:Int}{xs:List Int}:x∈jJ xs↔x∈xs:=(List.mergeSort_perm xs _).mem_iff
theorem X_{hi:List bc}{x:bc}{m:Int}(h:m∈wH (some f) (hi++[x])): ∃s,dA f.steps x.step=some s∧(m∈s.next∨(m=s.back∧0≤s.back∧uQ (some f) (hi++[x]) x.step<s.dF)):=by
 unfold wH at h
 rw[if_neg (by simp),if_neg (by simp),show((hi++[x]).getLast?.getD gF)=x from by rw[List.getLast?_concat];rfl]at h
 cases hs:gR (some f) x.step with
 |none=>rw[hs]at h;exact absurd h List.not_mem_nil
 |some s=>
  rw[hs]at h
  refine⟨s,hs,?_⟩
  have h2:=Wz h
  split at h2
  ·rename_i hc
   rcases List.mem_append.1 (NJ.1 h2)with h3|h3
   ·exact .inl h3
   ·exact .inr ⟨List.mem_singleton.1 h3,hc⟩
  ·exact .inl h2
theorem Yt{x:List Y6}{n:Int}{s:Step}(h:dA (mk x []).steps n=some s):(∀t∈s.dB,0≤t∧t≤11)∧(1≤s.dD∧s.dD≤5)∧ ∀m∈s.next,n<m:=by
 obtain⟨h0,_,h2⟩:=qS h
 have hl:(mk x []).steps.length=eM x:=yi x (eM x)
 have bh:=(List.getElem?_eq_some_iff.1 h2).1
 have e:(mk x []).steps[n.toNat]? =some (oM (x.getD n.toNat yj) (eM x) n.toNat):=by
  show((List.range (eM x)).map fun i=>oM (x.getD i yj) (eM x) i)[n.toNat]? =_
  rw[List.getElem?_map,List.getElem?_range (by omega)];rfl
 rw[e]at h2
 obtain rfl:=Option.some.inj h2
 generalize x.getD n.toNat yj=y
 have p0:=dq (c:=y.y0) (n:=5) (by omega)
 have p3:=dq (c:=y.y2) (n:=6) (by omega)
 have p4:=dq (c:=y.y2.tdiv 12) (n:=3) (by omega)
 have p5:=dq (c:=y.y3.tdiv 12) (n:=3) (by omega)
 refine⟨fun t ht=>?_,⟨?_,?_⟩,fun m hm=>?_⟩
 ·have ht:t∈fP y:=ht
  unfold fP at ht
  rcases List.mem_cons.1 ht with rfl|ht
  ·omega
  ·split at ht
   ·obtain rfl:=List.mem_singleton.1 ht;omega
   ·exact absurd ht List.not_mem_nil
 ·show 1≤1+aO y.y0 5;omega
 ·show 1+aO y.y0 5≤5;omega
 ·have hm:m∈gL y (eM x) n.toNat:=hm
  unfold gL at hm
  split at hm
  ·rcases List.mem_cons.1 hm with rfl|hm
   ·omega
   ·split at hm
    ·obtain rfl:=List.mem_singleton.1 hm;omega
    ·exact absurd hm List.not_mem_nil
  ·exact absurd hm List.not_mem_nil
end Go.Proofs.YtebobfdheanknaaGreatDoor
namespace Go.Proofs.YtebobfdheanknaaGreatDoor
open Go Go.K
set_option maxRecDepth 100000
def wS(k:Nat)(st tool rcp:Int):bc:=fC (500+k) 1 false (10*k) (10*k+5) 1 tool st rcp
def tz(f:bV)(R:List bc):Prop:=∀i (hi:i<R.length),∃s tool,dA f.steps R[i].step=some s∧s.dB[0]? =some tool∧R[i]=wS i R[i].step tool s.dD∧R[i].step∈wH (some f) (R.take i)
theorem tz.snoc{f:bV}{R:List bc}(h:tz f R){st tool:Int}{s:Step}(hs:dA f.steps st=some s)(ht:s.dB[0]? =some tool)(hn:st∈wH (some f) R):tz f (R++[wS R.length st tool s.dD]):=by
 intro i hi
 rw[List.length_append,List.length_singleton]at hi
 by_cases bh:i<R.length
 ·rw[List.getElem_append_left bh,List.take_append_of_le_length (by omega)];exact h i bh
 ·obtain rfl:i=R.length:=by omega
  rw[List.getElem_append_right (Nat.le_refl _),List.take_left]
  simp only[Nat.sub_self,List.getElem_cons_zero]
  exact⟨s,tool,hs,ht,rfl,hn⟩
theorem uU{f:bV}{R:List bc}(hv:valid f=true)(h:tz f R){i:Nat}(hi:i<R.length)(P9:R.length≤20):
  fm R[i]=true∧R[i].kind=1∧R[i].day=0∧R[i].gone=false∧R[i].idn=500+i∧R[i].waf=1∧R[i].time=10*i∧fp R[i]=2::fO (500+i):=by
 obtain⟨s,tool,hs,ht,e,_⟩:=h i hi
 obtain⟨v1,v2,v3,v4⟩:=GI hv hs
 have RP:fm R[i]=true:=by rw[e];exact NL (by omega) (by omega) (by omega) (by omega) (v4 _ (List.mem_of_getElem? ht)) ⟨v1,v2⟩ v3
 refine⟨RP,?_⟩
 rw[e]at RP⊢
 exact⟨rfl,rfl,rfl,rfl,rfl,rfl,rN RP⟩
theorem zf: ∀i:Nat,i<20→ ∀j:Nat,j<20→i<j→fO (500+(i:Int))≠fO (500+(j:Int)):=by decide+kernel
theorem z'{f:bV}{R:List bc}(hv:valid f=true)(h:tz f R)(P9:R.length≤20):Yr R:=by
 have at_:=fun i (hi:i<R.length)=>uU hv h hi P9
 refine⟨fun x hx=>?_,?_,?_,?_⟩
 ·obtain⟨i,hi,rfl⟩:=List.mem_iff_getElem.1 hx
  obtain⟨h1,h2,h3,h4,_,h6,h7,_⟩:=at_ i hi
  exact⟨h1,h2,h3,h4,h6,by omega,by omega⟩
 ·rw[List.pairwise_iff_getElem]
  intro i j hi hj zK e
  rw[(at_ i hi).2.2.2.2.2.2.2,(at_ j hj).2.2.2.2.2.2.2]at e
  exact zf i (by omega) j (by omega) zK (List.cons.inj e).2
 ·rw[List.pairwise_iff_getElem]
  intro i j hi hj zK
  rw[(at_ i hi).2.2.2.2.2.2.1,(at_ j hj).2.2.2.2.2.2.1];omega
 ·rw[List.pairwise_iff_getElem]
  intro i j hi hj zK
  rw[(at_ i hi).2.2.2.2.1,(at_ j hj).2.2.2.2.1];omega
variable {f:bV} {R:List bc} {b:fX}
theorem k8(hv:valid f=true)(h:tz f R)(P9:R.length≤20)(B:GL b f R){t:Int}(ht:10*(R.length:Int)≤t):jb b 1 t=R:=by
 unfold jb
 rw[B.Ys]
 refine SX fun z hz=>?_
 obtain⟨i,hi,rfl⟩:=List.mem_iff_getElem.1 hz
 have:=(uU hv h hi P9).2.2.2.2.2.2.1
 simp;omega
theorem Et(hv:valid f=true)(h:tz f R)(P9:R.length≤20)(B:GL b f R)(Ba:(check f).1=0):mz b 1 (10*(R.length:Int))=wH (some f) R:=by
 unfold mz
 rw[k8 hv h P9 B (Int.le_refl _),B.Nu (by omega),if_pos Ba]
theorem vw{x:List Y6}(hx:f=mk x [])(B:GL b f R)(Ba:(check f).1=0){st tool time:Int}{s:Step}{h:List bc}(hs:dA f.steps st=some s)(ht:s.dB[0]? =some tool)(hn:st∈wH (some f) h)(h0:0≤time∧time≤1000000):
  rn b ⟨1,st,tool,0,s.dD,1,time⟩ h=0:=by
 have hm:=by rw[hx]at hs;exact Yt hs
 have hq:b.sE.any (pD tool 0 s.dD 1 time)=true:=B.Yw (hm.1 tool (List.mem_of_getElem? ht)) hm.2.1 h0
 rw[Ky (f:=f) ((B.Nu h0.1).trans (if_pos Ba)) B.holds]
 have dm:gR (some f) st=some s:=hs
 have YI:s.dB.contains tool=true:=List.contains_iff_mem.2 (List.mem_of_getElem? ht)
 have nd:(wH (some f) h).contains st=true:=List.contains_iff_mem.2 hn
 show bn (!(wH (some f) h).contains st) 2+bn ((gR (some f) st).isSome&& !((gR (some f) st).getD jW).dB.contains tool) 4+bn ((gR (some f) st).isSome&&((gR (some f) st).getD jW).dD !=s.dD) 8+bn (!b.sE.any (pD tool 0 s.dD 1 time)) 16=0
 rw[dm,hq,nd]
 show bn (!true) 2+bn (true&& !s.dB.contains tool) 4+bn (true&&s.dD !=s.dD) 8+bn (!true) 16=0
 rw[YI];simp[bn]
theorem PK{x:List Y6}(hx:f=mk x [])(hv:valid f=true)(h:tz f R)(P9:R.length≤20)(B:GL b f R)(Ba:(check f).1=0){st tool:Int}{s:Step}(hs:dA f.steps st=some s)(ht:s.dB[0]? =some tool)(hn:st∈wH (some f) R):
  th b ⟨1,st,tool,0,s.dD,1,10*(R.length:Int)⟩=0:=by
 unfold th
 show rn b _ (jb b 1 (10*(R.length:Int)))=0
 rw[k8 hv h P9 B (Int.le_refl _)]
 exact vw hx B Ba hs ht hn (by omega)
theorem SK{y:bc}{A C:List bc}(h: ∀z∈A,z.idn≠y.idn):(A++y::C).takeWhile (fun q=> !(q.idn==y.idn))=A:=by
 rw[List.takeWhile_append_of_pos fun z hz=>by simpa using h z hz,List.takeWhile_cons_of_neg (by simp),List.append_nil]
theorem AE{x:List Y6}(hx:f=mk x [])(hv:valid f=true)(h:tz f R)(P9:R.length≤20)(B:GL b f R)(Ba:(check f).1=0):zW b=[]:=by
 unfold zW
 have e:b.procs.filter (Eb b)=[]:=by
  refine Yl fun z hz=>?_
  obtain⟨i,hi,rfl⟩:=List.mem_iff_getElem.1 (B.procs.mem_iff.1 hz)
  obtain⟨_,_,_,_,h5,h6,h7,_⟩:=uU hv h hi P9
  obtain⟨s,tool,hs,ht,e,hn⟩:=h i hi
  have fw:lQ b R[i]=⟨1,R[i].step,tool,0,s.dD,1,R[i].time⟩:=by
   unfold lQ
   rw[h6,B.Yz rfl]
   rw[e];rfl
  have YH:Ji b R[i]=R.take i:=by
   unfold Ji
   rw[fw,show({waf:=1,step:=R[i].step,tool:=tool,cham:=0,rcp:=s.dD,rvn:=1,time:=R[i].time}:fD).waf=1 from rfl,B.Ys]
   have qF:R=R.take i++R[i]::R.drop (i+1):=by rw[←List.drop_eq_getElem_cons hi,List.take_append_drop]
   refine(congrArg (List.takeWhile _) qF).trans (SK fun y hy=>?_)
   obtain⟨j,hj,rfl⟩:=List.mem_iff_getElem.1 hy
   rw[List.length_take]at hj
   rw[List.getElem_take]
   have:=(uU hv h (i:=j) (by omega) P9).2.2.2.2.1
   rw[this,h5];omega
  unfold Eb
  rw[fw,YH,vw hx B Ba hs ht hn (by omega)]
  rfl
 rw[e]
 simp[jJ,Lib.compact,Lib.compactUpTo]
def Cc(f:bV)(ds:List Int)(j:Nat):Bool:=((dA f.steps (ds.getD j 0)).getD jW).next.contains (ds.getD (j+1) 0)
def hQ(f:bV)(ds:List Int)(k:Nat)(n:Int):Nat:=((List.range k).filter fun j=>ds.getD j 0==n&& !Cc f ds j).length
theorem ri(f:bV)(ds:List Int)(k:Nat)(n:Int):hQ f ds (k+1) n=hQ f ds k n+if(ds.getD k 0==n&& !Cc f ds k)=true then 1 else 0:=by
 unfold hQ
 rw[List.range_succ,List.filter_append,List.length_append]
 congr 1
 rw[List.filter_cons]
 split<;>rfl
theorem q0(h:tz f R){k:Nat}(hk:k+1<R.length): ∃s,dA f.steps R[k].step=some s∧(R[k+1].step∈s.next∨(R[k+1].step=s.back∧0≤s.back∧uQ (some f) (R.take (k+1)) R[k].step<s.dF)):=by
 obtain⟨_,_,_,_,_,hn⟩:=h (k+1) hk
 have e:R.take (k+1)=R.take k++[R[k]]:=by rw[List.take_succ_eq_append_getElem (by omega)]
 rw[e]at hn
 have:=X_ hn
 rwa [←e]at this
theorem Eu(h:tz f R){k:Nat}(hk:k+1<R.length){s:Step}(hs:dA f.steps R[k].step=some s)(hb:s.next.contains R[k+1].step=false):
  s.back=R[k+1].step∧((hQ f (R.map (·.step)) (k+1) R[k].step:Nat):Int)≤s.dF:=by
 obtain⟨s2,aU,hh⟩:=q0 h hk
 rw[hs]at aU
 obtain rfl:=Option.some.inj aU
 have WC:R[k+1].step∉s.next:=fun hm=>by rw[List.contains_iff_mem.2 hm]at hb;cases hb
 rcases hh with hh|⟨Bc,_,hr⟩
 ·exact absurd hh WC
 refine⟨Bc.symm,?_⟩
 have hd: ∀j,(hj:j<R.length)→(R.map (·.step)).getD j 0=R[j].step:=fun j hj=>by
  rw[List.getD_eq_getElem?_getD,List.getElem?_map,List.getElem?_eq_getElem hj];rfl
 have Ia:uQ (some f) (R.take (k+1)) R[k].step=(((List.range k).filter (FN (R.take (k+1)) R[k].step s.back)).length:Nat):=by
  unfold uQ
  rw[show gR (some f) R[k].step=some s from hs]
  show(if s.next.contains s.back=true then(0:Int)else _)=_
  rw[if_neg (by rw[←Bc,hb];simp),List.length_take,show min (k+1) R.length-1=k from by omega]
  rfl
 have hle:hQ f (R.map (·.step)) k R[k].step≤((List.range k).filter (FN (R.take (k+1)) R[k].step s.back)).length:=by
  unfold hQ
  rw[←List.countP_eq_length_filter,←List.countP_eq_length_filter]
  refine List.countP_mono_left fun j hj hp=>?_
  have zO:=List.mem_range.1 hj
  rw[Bool.and_eq_true,beq_iff_eq,hd j (by omega)]at hp
  obtain⟨wk,KK⟩:=hp
  obtain⟨s3,Bh,h3⟩:=q0 h (k:=j) (by omega)
  rw[wk,hs]at Bh
  obtain rfl:=Option.some.inj Bh
  have WE:R[j+1].step=s.back:=by
   rcases h3 with h3|⟨h3,_⟩
   ·unfold Cc at KK
    rw[hd j (by omega),hd (j+1) (by omega),wk,hs]at KK
    have:s.next.contains R[j+1].step=true:=List.contains_iff_mem.2 h3
    rw[show((some s).getD jW).next=s.next from rfl,this]at KK
    cases KK
   ·exact h3
  have ht: ∀i,(hi:i<k+1)→(R.take (k+1)).getD i gF=R[i]:=fun i hi=>by
   rw[List.getD_eq_getElem?_getD,List.getElem?_take_of_lt hi,List.getElem?_eq_getElem (by omega)];rfl
  unfold FN
  rw[ht j (by omega),ht (j+1) (by omega),wk,WE]
  simp
 rw[ri]
 rw[Ia]at hr
 split<;>omega
theorem yk{f:bV}(hf:O0 f){R:List bc}{m:Int}(h:m∈wH (some f) R):0≤m∧m<(f.steps.length:Int):=by
 have h0:0<f.steps.length:=List.length_pos_iff.2 hf.some_
 rcases List.eq_nil_or_concat R with rfl|⟨hi,y,rfl⟩
 ·obtain rfl:m=0:=List.mem_singleton.1 h
  omega
 ·rw[List.concat_eq_append]at h
  obtain⟨s,hs,hm|⟨rfl,hb,_⟩⟩:=X_ h
  ·exact hf.next s (List.mem_of_getElem? (qS hs).2.2) m hm
  ·exact⟨hb,hf.back s (List.mem_of_getElem? (qS hs).2.2)⟩
theorem GG{f:bV}(hf:O0 f){m:Int}(h:0≤m∧m<(f.steps.length:Int)): ∃s tool,dA f.steps m=some s∧s.dB[0]? =some tool:=by
 have bh:m.toNat<f.steps.length:=by omega
 have h3:=hf.dB _ (List.getElem_mem bh)
 refine⟨f.steps[m.toNat],(f.steps[m.toNat]).dB.headD 0,(if_neg (by omega)).trans (List.getElem?_eq_getElem bh),?_⟩
 generalize f.steps[m.toNat].dB=tl at h3
 cases tl with
 |nil=>exact absurd rfl h3
 |cons t r=>rfl
end Go.Proofs.YtebobfdheanknaaGreatDoor
namespace Go.Proofs.YtebobfdheanknaaGreatDoor
open Go Go.K
set_option maxRecDepth 10000
attribute [local irreducible] W WL cT cn bX bA bB bD cW cG
set_option maxHeartbeats 4000000
abbrev sv(ad:Nat→Option Addr)(cc:Nat→Nat)(b:fX)(i:Nat):Value:=.slice (ad i) (b.ls i).length (cc i)
end Go.Proofs.YtebobfdheanknaaGreatDoor
namespace Go.K
open Go
variable {F:Fence} {P:Program} {N:Nat} {ds:List Deferred} {l:Env} {w:World} {Q:Exit→Act→World→Prop} {c:Code} {g0 g:G} {L:List cV}
theorem P0{id:Nat}{J':Act→World→Prop}(J:Act→World→Prop)(h:W F P N ds c (Exit.inBlock id (Exit.then J Q)) l w)(h2: ∀a w,J a w→J' a w):W F P N ds c (Exit.inBlock id (Exit.then J' Q)) l w:=by
 have e: ∀e a w,Exit.then J Q e a w→Exit.then J' Q e a w:=fun e a w hq=>by cases e<;>first|exact h2 _ _ hq|exact hq
 refine fun a ha=>Go.wpIn_mono (h a ha) fun x a w hq=>?_
 cases x<;>simp only[Exit.inBlock]at hq⊢ <;>first|exact e _ _ _ hq|(split at hq<;>split<;>first|exact e _ _ _ hq|contradiction)
theorem St.SM{α:Type}[El α](hs:St g0 g L){i:Nat}{e:TypeId}{v:Value}{n:Nat}{cells:List Value}{xs:List α}(hi:L[i]? =some (.row e (El.k α) v n cells))(hr:cO g cells xs):
  ∃gf,gf.w=g.w∧g.le gf∧Rs gf v xs∧ ∀g2,aZ gf g2→ ∃g3,g3.w=g2.w∧aZ g g3∧ ∀b o ys,gf.w.heap.size≤b→EP g2 b o ys→EP g3 b o ys:=by
 have dZ:=hs.own i _ hi
 have bh: ∀b,o6 v=some b→b<g.w.heap.size:=fun b hb=>(dZ.1.lt b hb).2
 refine⟨g.fz (o6 v) bh,rfl,G.ph g _ _,dZ.1.rs hr (G.ph g _ _) fun b hb=>⟨.inr hb,rfl⟩,fun g2 hf=>?_⟩
 refine⟨⟨g2.w,fun b=>g2.im b∧o6 v≠some b,fun b h=>g2.lt b h.1⟩,rfl,⟨hf.below,fun b hb=>?_⟩,fun b o ys hb aL=>⟨⟨aL.1,fun h=>?_⟩,aL.2⟩⟩
 ·have h1:=hf.im b hb
  constructor
  ·intro h
   rcases h1.1 h.1 with h'|h'
   ·exact h'
   ·exact absurd h' h.2
  ·intro h
   exact⟨h1.2 (.inl h),fun h'=>dZ.2 b h' h⟩
 ·have:=bh b h
  have hb:g.w.heap.size≤b:=hb
  omega
end Go.K
namespace Go.Proofs.YtebobfdheanknaaGreatDoor
open Go Go.K
set_option maxRecDepth 10000
attribute [local irreducible] W WL cT cn bX bA bB bD cW cG
set_option maxHeartbeats 20000000
theorem GH(a:Option Addr)(c:Nat)(xs:List bc)(x:bc):rF a c (xs++[x])= .row 54 19 (.slice a (xs.length+1) c) (xs.length+1) (fl xs++fl [x]):=by
 unfold rF;rw[lr,List.length_append];rfl
theorem PZ(a:Option Addr)(c:Nat)(R:List bc):rI (.slice a R.length c) (R.map (·.step))= .row 3 1 (.slice a R.length c) R.length (eB (R.map (·.step))):=by
 show cV.row _ _ _ (R.map (·.step)).length _=_
 rw[List.length_map]
theorem Cd{g:G}{a1 a2:Option Addr}{n c1 n2 c2:Nat}{x y:Int}{f:bV}(h:fA g (.agg #[.int .i64 x,.int .i64 y,.slice a1 n c1,.slice a2 n2 c2]) f):Rs g (.slice a1 n c1) f.steps:=by
 obtain⟨_,_,_,_,_,_,e,h1,_⟩:=h
 simp only[Value.agg.injEq,List.cons.injEq,Array.mk.injEq,Value.slice.injEq,and_true]at e
 obtain⟨_,_,⟨rfl,rfl,rfl⟩,_⟩:=e
 exact h1
theorem He(v0:Value)(x:List Y6)(v1:Value)(cs:List Int)(g:G)(bM:iw g)(aH:Rs g v0 x)(hx: ∀y∈x,y.fit)(aT:Rs g v1 cs)(mG: ∀c∈cs,mH c):
  CallsIn Wd 0 Tryz.prog 6 #[v0,v1] g.w (cR g fun _ r=>r= .bool true):=by
 have hs:=St.start g
 have aq:=G.le.refl g
 obtain⟨a5,c5,rfl⟩:=aT.isSlice
 obtain⟨_,_,fY⟩:=aT.oL
 unfold maxLen at fY
 refine enter Tryz.func6 rfl Tryz.ntmps6 rfl ?_
 refine aX rfl ?_;apply c_
 refine an rfl rfl (ay Ps aI rfl rfl rfl rfl rfl (Jn _ bM) ?_);rintro g1 _ aN rfl;replace hs:=hs.call aN;have ah:=aN.le;obtain⟨aq,aH,aT,bM⟩:=dE ah aq aH aT bM
 clear aN
 refine ba rfl ?_;refine cP 1 rfl ?_
 refine an rfl rfl (ay Pt aI rfl rfl rfl rfl rfl (NK _ x _ aH hx) ?_)
 rintro g1 _ aN ⟨u1,u2,rfl,⟨cells,hh,eK⟩,dI⟩
 obtain rfl:=kX eK
 replace hs:=hs.gJ aN hh;have ah:=aN.le;obtain⟨aq,aH,aT,bM⟩:=dE ah aq aH aT bM
 clear hh eK aN aH
 obtain⟨f,eH⟩: ∃f,f=mk x []:=⟨_,rfl⟩
 have GC:=Jm x
 have hv:=E7 x []
 rw[←eH]at hs GC dI hv
 have MR:=En (Cf f)
 obtain⟨l,hle⟩: ∃l,l=Eo (Cf f):=⟨_,rfl⟩
 rw[←hle]at hs MR
 obtain⟨ad,c8,rfl⟩:=(hs.own 0 _ rfl).1.form
 replace hs:St g g1 [rF ad c8 l]:=hs
 obtain⟨a1,n1,c1,a2,n2,c2,rfl,eg,_⟩:=id dI
 obtain⟨_,_,e⟩:=eg.isSlice;obtain⟨rfl,rfl,rfl⟩:=Value.slice.inj e;clear e
 refine Wp 3 rfl ?_
 refine an rfl rfl (aK T.ok rfl hs rfl rfl ?_);clear hs;rintro b7 g1 hs ah;obtain⟨aq,aT,eg,dI,bM⟩:=kN ah aq aT eg dI bM
 refine Wp 1 rfl ?_
 refine bg rfl (aA T.ok 0 rfl hs rfl rfl rfl rfl rfl rfl rfl rfl rfl ?_);replace hs:=hs;rintro g1 hs ah;obtain⟨aq,aT,eg,dI,bM⟩:=kN ah aq aT eg dI bM
 obtain⟨g2,bR,aU,ah,aL⟩:=hs.a_ (i:=0) rfl;replace hs:=aU;clear aU;rw[←bR];obtain⟨aq,aT,eg,dI,bM⟩:=kN ah aq aT eg dI bM
 have aP:EP g2 b7 0 [.int .i64 f.ck,.int .i64 f.cu,.slice a1 f.steps.length c1,.slice a2 n2 c2]:=aL;clear aL
 replace hs:St g g2 [rF ad c8 l]:=hs
 apply cf;apply aB;refine dx 1 [.z aP] (St.start _) rfl ?_
 refine an rfl rfl (ay KT aI rfl rfl rfl rfl rfl (A_ _ f _ dI) ?_);rintro g1 _ aN ⟨a9,n9,c9,rfl,YN⟩;replace hs:=hs.call aN;have ah:=aN.le;obtain⟨aq,aP,aT,eg,dI,bM⟩:=iu ah aq aP aT eg dI bM
 clear aN YN
 refine ba rfl ?_
 by_cases Ba:(check f).1=0
 case neg=>
  refine aJ (b:=(check f).1 !=0) (by simp[Ba]) rfl ?_
  refine aX rfl ?_
  exact aF (aV rfl rfl (hs.ret rfl))
 refine aS (b:=(check f).1 !=0) (by simp[Ba]) rfl ?_
 replace hs:=hs.gI 3 1 none
 replace hs:St g _ [rF ad c8 l,rI (.slice none 0 0) []]:=hs.re [1,0] (by decide) rfl
 apply aE;apply au;refine aX rfl ?_;apply aB;refine aX rfl ?_;apply aG
 refine P0 (fun a' w=> ∃(R:List bc) (a6 a8:Option Addr) (c6 c9:Nat) (g':G),w=g'.w∧St g g' [rF a6 c6 (l++R),rI (.slice a8 R.length c9) (R.map (·.step))]∧G.le g g'∧iw g'∧fA g' (.agg #[.int .i64 f.ck,.int .i64 f.cu,.slice a1 f.steps.length c1,.slice a2 n2 c2]) f∧EP g' b7 0 [.int .i64 f.ck,.int .i64 f.cu,.slice a1 f.steps.length c1,.slice a2 n2 c2]∧tz f R∧R.length≤20∧
   Fr 185 [] [(5,.bool true),(6,.slice a6 (l++R).length c6),(7,.pointer (some ⟨b7,0,none⟩)),(8,.slice a8 R.length c9)] a') ?_ ?_
 ·refine bS (fun m a' w=> ∃(R:List bc) (a6 a8:Option Addr) (c6 c9:Nat) (g':G),w=g'.w∧St g g' [rF a6 c6 (l++R),rI (.slice a8 R.length c9) (R.map (·.step))]∧G.le g g'∧iw g'∧fA g' (.agg #[.int .i64 f.ck,.int .i64 f.cu,.slice a1 f.steps.length c1,.slice a2 n2 c2]) f∧EP g' b7 0 [.int .i64 f.ck,.int .i64 f.cu,.slice a1 f.steps.length c1,.slice a2 n2 c2]∧Rs g' (.slice a5 cs.length c5) cs∧tz f R∧R.length≤20∧R.length≤cs.length∧m=cs.length-R.length∧
    Fr 185 [] [(1,.slice a5 cs.length c5),(5,.bool true),(6,.slice a6 (l++R).length c6),(7,.pointer (some ⟨b7,0,none⟩)),(8,.slice a8 R.length c9),(9,.int .i64 (R.length:Nat))] a') cs.length
   (fun a' ha=>⟨[],ad,none,c8,0,_,rfl,by rw[List.append_nil];exact hs,aq,bM,dI,aP,aT,fun i hi=>absurd hi (Nat.not_lt_zero _),Nat.zero_le _,Nat.zero_le _,rfl,ha.keep ⟨rfl,rfl,kV rfl (by rw[List.append_nil];rfl),rfl,rfl,rfl,trivial⟩⟩) ?_
  (repeat clear hs);(repeat clear aq);(repeat clear bM);(repeat clear dI);(repeat clear aP);(repeat clear aT);(repeat clear eg)
  rintro m a' _ ⟨R,a6,a8,c6,c9,g',rfl,hs,aq,bM,dI,aP,aT,hW,P9,WN,rfl,eI⟩
  have out: ∀{g':G} {a':Act} {a6 a8:Option Addr} {c6 c9:Nat},St g g' [rF a6 c6 (l++R),rI (.slice a8 R.length c9) (R.map (·.step))]→G.le g g'→iw g'→fA g' (.agg #[.int .i64 f.ck,.int .i64 f.cu,.slice a1 f.steps.length c1,.slice a2 n2 c2]) f→EP g' b7 0 [.int .i64 f.ck,.int .i64 f.cu,.slice a1 f.steps.length c1,.slice a2 n2 c2]→Fr 185 [] [(5,.bool true),(6,.slice a6 (l++R).length c6),(7,.pointer (some ⟨b7,0,none⟩)),(8,.slice a8 R.length c9)] a'→
    ∃(R:List bc) (a6 a8:Option Addr) (c6 c9:Nat) (dP:G),g'.w=dP.w∧St g dP [rF a6 c6 (l++R),rI (.slice a8 R.length c9) (R.map (·.step))]∧G.le g dP∧iw dP∧fA dP (.agg #[.int .i64 f.ck,.int .i64 f.cu,.slice a1 f.steps.length c1,.slice a2 n2 c2]) f∧EP dP b7 0 [.int .i64 f.ck,.int .i64 f.cu,.slice a1 f.steps.length c1,.slice a2 n2 c2]∧tz f R∧R.length≤20∧Fr 185 [] [(5,.bool true),(6,.slice a6 (l++R).length c6),(7,.pointer (some ⟨b7,0,none⟩)),(8,.slice a8 R.length c9)] a':=
   fun h1 h2 h3 h4 h5 h6=>⟨R,_,_,_,_,_,rfl,h1,h2,h3,h4,h5,hW,P9,h6⟩
  revert a'
  apply cQ;apply aB;refine cP 5 rfl ?_
  cases h1:decide ((R.length:Int)<(cs.length:Int))with
  |false=>
   refine ba rfl ?_
   refine aS rfl rfl ?_
   apply bE;apply bK;apply bK;apply dc
   exact fun a ha=>out hs aq bM dI aP (ha.keep ⟨rfl,rfl,rfl,rfl,trivial⟩)
  |true=>
  have h1:=of_decide_eq_true h1
  refine ba rfl ?_
  cases h2:decide ((R.length:Int)<20)with
  |false=>
   refine aS rfl rfl ?_
   apply bE;apply bK;apply bK;apply dc
   exact fun a ha=>out hs aq bM dI aP (ha.keep ⟨rfl,rfl,rfl,rfl,trivial⟩)
  |true=>
  refine aJ rfl rfl ?_
  have h2:=of_decide_eq_true h2
  have x_:(l++R).length≤200:=by rw[List.length_append];omega
  have B:=Xr hv (z' hv hW P9)
  rw[←hle]at B
  have hK:=NH (l:=l++R) 100000 (by omega)
  generalize hb:ofM (l++R) 100000=b at B hK
  have Uv:=hs
  have kp:=And.intro aq (And.intro bM (And.intro dI (And.intro aP aT)))
  obtain⟨gf,Nh,ah,bT,td⟩:=hs.SM (α:=bc) (i:=0) rfl (cO.fl _ _)
  (repeat clear hs)
  have hs:=St.start gf
  clear aq
  have aq:=G.le.refl gf
  rw[←Nh]
  obtain⟨bM,dI,aP,aT⟩:=dE ah bM dI aP aT
  apply aE;apply au;apply aB;apply aG;refine cP 1 rfl ?_
  refine an rfl rfl (ay Pv aI rfl rfl rfl rfl rfl (Qs _ (l++R) 100000 _ bT (by omega)) ?_);rintro g1 _ aN bI;replace hs:=hs.call aN;have ah:=aN.le;obtain⟨aq,aP,aT,bT,dI,bM⟩:=iu ah aq aP aT bT dI bM
  clear aN bT
  rw[hb]at bI
  obtain⟨sm,rfl,WD⟩:=id bI
  skip
  refine an rfl rfl (aK T.ok rfl hs rfl rfl ?_);clear hs;rintro IL g1 hs ah;obtain⟨aq,aP,aT,dI,bI,bM⟩:=iu ah aq aP aT dI bI bM
  have pK:((List.range 11).map sm).all Value.oneCell'=true:=by
   rw[List.all_eq_true]
   intro u hu
   obtain⟨i,hi,rfl⟩:=List.mem_map.1 hu
   obtain⟨_,_,e⟩:=(WD i (List.mem_range.1 hi)).isSlice
   rw[e];rfl
  clear WD
  skip
  refine bg rfl (aA T.ok 0 rfl hs rfl rfl rfl rfl rfl rfl pK rfl rfl ?_);replace hs:=hs;rintro g1 hs ah;obtain⟨aq,aP,aT,dI,bI,bM⟩:=iu ah aq aP aT dI bI bM
  obtain⟨g2,bR,aU,ah,aL⟩:=hs.a_ (i:=0) rfl;replace hs:=aU;clear aU;rw[←bR];obtain⟨aq,aP,aT,dI,bI,bM⟩:=iu ah aq aP aT dI bI bM
  clear pK
  have dO:EP g2 IL 0 ((List.range 11).map sm):=aL;clear aL
  replace hs:St gf g2 []:=hs
  apply cf;refine dx 3 [.z dO] (St.start _) rfl ?_
  rw[show IntKind.i64.wrap (10*(R.length:Int))=10*(R.length:Int)from wr (by omega) (by omega)]
  refine an rfl rfl (ay IN aI rfl rfl rfl rfl rfl (wI _ b 1 (10*(R.length:Int)) _ bI hK bM) ?_);rintro g1 _ aN bT;replace hs:=hs.call aN;have ah:=aN.le;obtain⟨aq,aP,dO,aT,dI,bI⟩:=iu ah aq aP dO aT dI bI;replace bM:=bM.mono ah
  clear aN
  rw[Et hv hW P9 B Ba]at bT
  obtain⟨nx,jn⟩: ∃nx,nx=wH (some f) R:=⟨_,rfl⟩
  rw[←jn]at bT
  obtain⟨a3,c3,rfl⟩:=bT.isSlice
  refine ba rfl ?_;apply aB;refine aX rfl ?_
  cases nd:nx with
  |nil=>
   refine aJ (b:=(([]:List Int).length:Int)==0) rfl rfl ?_
   apply bE;apply bK;((with_reducible refine NR ?_ ?_);exact rfl);apply bK;apply bK;apply dc
   obtain⟨g7,BZ,uM,SN⟩:=td _ hs.mS
   rw[←BZ]
   (repeat clear hs);clear aq bM dI aP aT
   have hs:=Uv.call uM
   obtain⟨aq,bM,dI,aP,aT⟩:=kp
   have ah:=uM.le
   obtain⟨aq,bM,dI,aP,aT⟩:=kN ah aq bM dI aP aT
   exact fun a ha=>out hs aq bM dI aP (ha.keep ⟨rfl,rfl,rfl,rfl,trivial⟩)
  |cons n0 nr=>
  rw[←nd]
  have FJ:0<nx.length:=by rw[nd];simp
  refine aS (b:=(nx.length:Int)==0) (beq_eq_false_iff_ne.2 (by omega)) rfl ?_
  have bh:R.length<cs.length:=by omega
  have ic:dA cs (R.length:Int)=some cs[R.length]:=cU rfl bh
  have Qx:=mG _ (List.getElem_mem bh)
  generalize cs[R.length]=ci at ic Qx
  obtain⟨wk,KK⟩:=dq (c:=ci) (n:=(nx.length:Nat)) (by omega)
  have AX:(aO ci (nx.length:Nat)).toNat<nx.length:=by omega
  have UR:dA nx (aO ci (nx.length:Nat))=some nx[(aO ci (nx.length:Nat)).toNat]:=(if_neg (by omega)).trans (List.getElem?_eq_getElem AX)
  have WD:nx[(aO ci (nx.length:Nat)).toNat]∈wH (some f) R:=by rw[←jn];exact List.getElem_mem AX
  generalize nx[(aO ci (nx.length:Nat)).toNat]=st at UR WD
  have KP:=yk GC WD
  obtain⟨s,PF,dm,Wt⟩:=GG GC KP
  clear nd
  apply aE;apply au;refine cP 3 rfl ?_
  refine an rfl rfl (aW T.ok rfl aT (y:=ci) ic rfl rfl rfl rfl rfl rfl ?_)
  rintro b5 q5 ys aL rfl
  refine Wm 1 [.e aL 0] (St.start _) rfl ?_
  clear aL
  refine Wp 2 rfl ?_
  refine an rfl rfl (ay Uu aI rfl rfl rfl rfl rfl (Jl ci (nx.length:Nat) _ Qx (by omega)) ?_);rintro g1 _ aN rfl;replace hs:=hs.call aN;have ah:=aN.le;obtain⟨aq,aP,dO,aT,bT,dI⟩:=iu ah aq aP dO aT bT dI;obtain⟨bI,bM⟩:=cC ah bI bM
  clear aN
  refine an rfl rfl (aW T.ok rfl bT (y:=st) UR rfl rfl rfl rfl rfl rfl ?_)
  rintro b5 q5 ys aL rfl
  refine Wm 1 [.e aL 0] (St.start _) rfl ?_
  clear aL bT
  refine ba rfl ?_;apply aB;refine cP 3 rfl ?_
  refine cM 63 (b':=false) (decide_eq_false (by omega)) rfl ?_
  refine A3 [.z aP] (St.start _) rfl ?_
  refine aS (b:=decide ((f.steps.length:Int)≤st)) (decide_eq_false (by omega)) rfl ?_
  apply aE;apply au;refine dx 6 [.z aP] (St.start _) rfl ?_
  rw[show IntKind.i64.wrap (500+(R.length:Int))=500+(R.length:Int)from wr (by omega) (by omega),show IntKind.i64.wrap (10*(R.length:Int))=10*(R.length:Int)from wr (by omega) (by omega)]
  refine an rfl rfl (ay PB aI rfl rfl rfl rfl rfl (Jq _ f s PF (500+(R.length:Int)) 1 st (10*(R.length:Int)) _ dI dm Wt) ?_);rintro g1 _ aN rfl;replace hs:=hs.call aN;have ah:=aN.le;obtain⟨aq,aP,dO,aT,dI,bI⟩:=iu ah aq aP dO aT dI bI;replace bM:=bM.mono ah
  clear aN
  skip
  refine an rfl rfl (aK T.ok rfl hs rfl rfl ?_);clear hs;rintro FY g1 hs ah;obtain⟨aq,aP,dO,aT,dI,bI⟩:=iu ah aq aP dO aT dI bI;replace bM:=bM.mono ah
  skip
  refine bg rfl (aA T.ok 0 rfl hs rfl rfl rfl rfl rfl rfl rfl rfl rfl ?_);replace hs:=hs;rintro g1 hs ah;obtain⟨aq,aP,dO,aT,dI,bI⟩:=iu ah aq aP dO aT dI bI;replace bM:=bM.mono ah
  apply cf;refine dx 4 [.o 0] hs rfl ?_
  refine bg rfl (aA T.ok 0 rfl hs rfl rfl rfl rfl rfl rfl rfl rfl rfl ?_);replace hs:=hs;rintro g1 hs ah;obtain⟨aq,aP,dO,aT,dI,bI⟩:=iu ah aq aP dO aT dI bI;replace bM:=bM.mono ah
  have e5:IntKind.i64.wrap (10*(R.length:Int)+5)=10*(R.length:Int)+5:=wr (by omega) (by omega)
  replace hs:St gf g1 [.obj FY (.cells (bW {wS R.length st PF s.dD with til:=IntKind.i64.wrap (10*(R.length:Int)+5)}).toArray 54 (0,0))]:=hs
  rw[e5]at hs
  replace hs:St gf g1 [.obj FY (.cells (bW (wS R.length st PF s.dD)).toArray 54 (0,0))]:=hs
  have uS:gf.w.heap.size≤FY:=(hs.own 0 _ rfl).1
  obtain⟨g2,bR,aU,ah,aL⟩:=hs.a_ (i:=0) rfl;replace hs:=aU;clear aU;rw[←bR];obtain⟨aq,aP,dO,aT,dI,bI⟩:=iu ah aq aP dO aT dI bI;replace bM:=bM.mono ah
  have aC:EP g2 FY 0 (bW (wS R.length st PF s.dD)):=aL;clear aL
  replace hs:St gf g2 []:=hs
  apply cf;apply aB;refine dx 8 [.z dO,.z aC,.z aC,.z aC] (St.start _) rfl ?_
  refine an rfl rfl (aQ T.ok rfl (vs:=[(0,.int .i64 1),(1,.int .i64 st),(2,.int .i64 PF),(4,.int .i64 s.dD),(5,.int .i64 1),(6,.int .i64 (10*(R.length:Int)))]) (cells:=pE ⟨1,st,PF,0,s.dD,1,10*(R.length:Int)⟩) rfl rfl rfl rfl [(0,1),(1,1),(2,1),(3,1),(4,1),(5,1),(6,1)] rfl (by kernel_rfl) ?_)
  refine an rfl rfl (ay UU aI rfl rfl rfl rfl rfl (D_ _ b ⟨1,st,PF,0,s.dD,1,10*(R.length:Int)⟩ _ bI hK bM) ?_);rintro g1 _ aN rfl;replace hs:=hs.call aN;have ah:=aN.le;obtain⟨aq,aC,aP,dO,aT,dI⟩:=iu ah aq aC aP dO aT dI;obtain⟨bI,bM⟩:=cC ah bI bM
  clear aN
  rw[PK eH hv hW P9 B Ba dm Wt WD]
  refine ba rfl ?_
  refine aS rfl rfl ?_
  have US:=hW.snoc dm Wt WD
  generalize WG:wS R.length st PF s.dD=p at aC US
  have sO:p.step=st:=by rw[←WG];rfl
  apply aE;apply au;refine dx 2 [.z aC] (St.start _) rfl ?_
  obtain⟨g7,BZ,uM,SN⟩:=td _ hs.mS
  rw[←BZ]
  (repeat clear hs);clear aq bM dI aP aT
  have hs:=Uv.call uM
  obtain⟨aq,bM,dI,aP,aT⟩:=kp
  have ah:=uM.le
  obtain⟨aq,bM,dI,aP,aT⟩:=kN ah aq bM dI aP aT
  clear aC dO bI Uv td SN uM BZ
  refine an rfl rfl (bj T.ok rfl hs (vs:=[(0,fv p)]) (cells:=fl [p]) rfl rfl rfl rfl rfl rfl (by decide) (by decide) (by kernel_rfl) rfl ?_);rintro b9 gl hs ah;obtain⟨aq,aP,aT,dI,bM⟩:=kN ah aq aP aT dI bM
  obtain⟨gz,ik,cS,iT,dz⟩:=hs.cL (α:=bc) (xs:=[p]) (i:=0) rfl (cO.fl _ _);clear ah;have ah:=iT;rw[←ik];(repeat clear hs);have hs:St g gz [rF a6 c6 (l++R),rI (.slice a8 R.length c9) (R.map (·.step))]:=cS;clear cS;obtain⟨aq,aP,aT,dI,bM⟩:=kN ah aq aP aT dI bM
  obtain⟨_,news,SY,rj⟩:=Src.jq dz
  obtain rfl:=kX SY
  refine an rfl rfl (b_ T.ok 0 rfl hs rfl rfl rfl rfl rfl rfl rfl (by decide) rfl rj (zP gz _) (by show((l++R).length+1)*160≤_;omega) (by show(l++R).length+1≤_;unfold maxLen;omega) ?_);rintro a7 c7 g10 hs ah;obtain⟨aq,aP,aT,dz,dI,bM⟩:=iu ah aq aP aT dz dI bM
  replace hs:St g g10 [rF a7 c7 (l++R++[p]),rI (.slice a8 R.length c9) (R.map (·.step))]:=by rw[GH];exact hs
  clear SY rj dz
  refine ba rfl ?_;apply ar;refine Wp 2 rfl ?_
  refine an rfl rfl (bj T.ok rfl hs (vs:=[(0,.int .i64 st)]) (cells:=[.int .i64 st]) rfl rfl rfl rfl rfl rfl (by decide) (by decide) (by kernel_rfl) rfl ?_);rintro b9 gl hs ah;obtain⟨aq,aP,aT,dI,bM⟩:=kN ah aq aP aT dI bM
  obtain⟨gz,ik,cS,iT,dz⟩:=hs.cL (α:=Int) (xs:=[st]) (i:=0) rfl (cO.ints _ [st]);clear ah;have ah:=iT;rw[←ik];(repeat clear hs);have hs:St g gz [rF a7 c7 (l++R++[p]),rI (.slice a8 R.length c9) (R.map (·.step))]:=cS;clear cS;obtain⟨aq,aP,aT,dI,bM⟩:=kN ah aq aP aT dI bM
  obtain⟨_,news,SY,rj⟩:=Src.jq dz
  obtain rfl:news=[.int .i64 st]:=by obtain⟨k1,k2,rfl,rfl,rfl⟩:=SY;rfl
  refine an rfl rfl (b_ T.ok 1 rfl hs (by show some (rI _ _)=_;rw[PZ]) rfl rfl rfl rfl rfl rfl (by decide) rfl rj (by simp[Value.oneCell']) (by show(R.length+1)*8≤_;omega) (by show R.length+1≤maxLen;unfold maxLen;omega) ?_);rintro a4 c4 g10 hs ah;obtain⟨aq,aP,aT,dI,bM⟩:=kN ah aq aP aT dI bM
  have Ja:(R.map (·.step)).length=R.length:=List.length_map ..
  replace hs:St g g10 [rF a7 c7 (l++(R++[p])),rI (.slice a4 (R++[p]).length c4) ((R++[p]).map (·.step))]:=by
   have e1:rI (.slice a4 (R++[p]).length c4) ((R++[p]).map (·.step))= .row 3 1 (.slice a4 (R.length+1) c4) (R.length+1) (eB (R.map (·.step))++[.int .i64 st]):=by
    have h:=oN a4 c4 (R.map (·.step)) st
    rw[Ja]at h
    rw[←h,List.map_append,List.length_append]
    show rI _ (R.map (·.step)++[p.step])=_
    rw[sO];rfl
   rw[e1,←List.append_assoc];exact hs
  clear SY rj dz
  refine Wp 1 rfl ?_;apply aD;apply bU;apply au;apply ar;refine Wp 3 rfl ?_;apply aD
  refine fun a ha=>⟨cs.length-(R.length+1),by omega,R++[p],a7,a4,c7,c4,g10,rfl,hs,aq,bM,dI,aP,aT,US,by rw[List.length_append];show R.length+1≤20;omega,by rw[List.length_append];show R.length+1≤_;omega,by rw[List.length_append];rfl,ha.keep ⟨rfl,rfl,kV rfl ?_,rfl,kV rfl ?_,kI rfl ?_,trivial⟩⟩
  ·rw[←List.append_assoc,show(l++R++[p]).length=(l++R).length+1 from List.length_append]
  ·rw[List.length_append];rfl
  ·rw[wr (by omega) (by omega),List.length_append];show _=((R.length+1:Nat):Int);omega
 (repeat clear hs);(repeat clear aq);(repeat clear bM);(repeat clear dI);(repeat clear aP);(repeat clear aT);(repeat clear eg)
 rintro a' _ ⟨R,a6,a8,c6,c9,g',rfl,hs,aq,bM,dI,aP,hW,P9,eI⟩
 revert a'
 have x_:(l++R).length≤200:=by rw[List.length_append];omega
 have B:=Xr hv (z' hv hW P9)
 rw[←hle]at B
 have hK:=NH (l:=l++R) 100000 (by omega)
 generalize hb:ofM (l++R) 100000=b at B hK
 have Wr:=k8 hv hW P9 B (t:=1000000) (by omega)
 have Ws:=AE eH hv hW P9 B Ba
 obtain⟨g8,xD,qO,ah,aH⟩:=hs.cL (α:=bc) (i:=0) rfl (cO.fl _ _)
 rw[←xD];(repeat clear hs);have hs:St g g8 [rI (.slice a8 R.length c9) (R.map (·.step))]:=qO;clear qO;obtain⟨aq,aP,dI,bM⟩:=dE ah aq aP dI bM;clear xD
 obtain⟨g8,xD,qO,ah,aT⟩:=hs.cL (α:=Int) (i:=0) rfl (cO.ints _ _)
 rw[←xD];(repeat clear hs);have hs:St g g8 []:=qO;clear qO;obtain⟨aq,aP,aH,dI,bM⟩:=kN ah aq aP aH dI bM;clear xD
 apply cQ;refine cP 1 rfl ?_
 refine an rfl rfl (ay Pv aI rfl rfl rfl rfl rfl (Qs _ (l++R) 100000 _ aH (by omega)) ?_);rintro g1 _ aN bI;replace hs:=hs.call aN;have ah:=aN.le;obtain⟨aq,aP,aT,dI,bM⟩:=kN ah aq aP aT dI bM
 clear aN aH
 rw[hb]at bI
 obtain⟨sm,rfl,WD⟩:=id bI
 skip
 refine an rfl rfl (aK T.ok rfl hs rfl rfl ?_);clear hs;rintro Pq g1 hs ah;obtain⟨aq,aP,aT,dI,bI,bM⟩:=iu ah aq aP aT dI bI bM
 have pK:((List.range 11).map sm).all Value.oneCell'=true:=by
  rw[List.all_eq_true]
  intro u hu
  obtain⟨i,hi,rfl⟩:=List.mem_map.1 hu
  obtain⟨_,_,e⟩:=(WD i (List.mem_range.1 hi)).isSlice
  rw[e];rfl
 clear WD
 skip
 refine bg rfl (aA T.ok 0 rfl hs rfl rfl rfl rfl rfl rfl pK rfl rfl ?_);replace hs:=hs;rintro g1 hs ah;obtain⟨aq,aP,aT,dI,bI,bM⟩:=iu ah aq aP aT dI bI bM
 obtain⟨g2,bR,aU,ah,aL⟩:=hs.a_ (i:=0) rfl;replace hs:=aU;clear aU;rw[←bR];obtain⟨aq,aP,aT,dI,bI,bM⟩:=iu ah aq aP aT dI bI bM
 clear pK
 have dO:EP g2 Pq 0 ((List.range 11).map sm):=aL;clear aL
 replace hs:St g g2 []:=hs
 apply cf;refine dx 1 [.z dO] (St.start _) rfl ?_
 refine an rfl rfl (ay Pz aI rfl rfl rfl rfl rfl (Jh _ b 1 1000000 _ bI hK) ?_);rintro g1 _ aN ⟨v5,v6,rfl,bT,bN⟩;replace hs:=hs.call aN;have ah:=aN.le;obtain⟨aq,aP,dO,aT,dI,bI⟩:=iu ah aq aP dO aT dI bI;replace bM:=bM.mono ah
 clear aN bN
 rw[Wr]at bT
 refine ba rfl ?_;apply aB;refine cP 2 rfl ?_
 refine an rfl rfl (ay Dc aI rfl rfl rfl rfl rfl (pO _ _ _ _ _ bT aT) ?_);rintro g1 _ aN rfl;replace hs:=hs.call aN;have ah:=aN.le;obtain⟨aq,aP,dO,aT,dI,bI⟩:=iu ah aq aP dO aT dI bI;replace bM:=bM.mono ah
 clear aN bT
 rw[decide_eq_true (rfl:R.map (·.step)=R.map (·.step))]
 refine Wm 3 [.z dO] (St.start _) rfl ?_
 refine an rfl rfl (ay Px aI rfl rfl rfl rfl rfl (Gu _ b _ bI hK bM) ?_);rintro g1 _ aN bN;replace hs:=hs.call aN;have ah:=aN.le;obtain⟨aq,aP,dO,aT,dI⟩:=kN ah aq aP dO aT dI
 clear aN
 rw[Ws]at bN
 obtain⟨a3,c3,rfl⟩:=bN.isSlice
 clear bN
 refine Wp 8 rfl ?_
 refine QI (fun a' w=>w=g1.w∧Fr 185 [] [(5,.bool true),(7,.pointer (some ⟨b7,0,none⟩)),(8,.slice a8 R.length c9)] a') ?_ ?_
 ·cases h0:decide ((0:Int)<(R.length:Int))with
  |false=>
   refine ba rfl ?_
   refine aS rfl rfl ?_
   apply aE
   exact fun a ha=>⟨rfl,ha.keep ⟨rfl,rfl,rfl,trivial⟩⟩
  |true=>
   have h0:=of_decide_eq_true h0
   have bh:0<R.length:=by omega
   have WH:dA (R.map (·.step)) 0=some 0:=by
    refine(if_neg (by omega)).trans ?_
    show(R.map (·.step))[0]? =_
    obtain⟨_,_,_,_,_,hn⟩:=hW 0 bh
    have:R[0].step=0:=List.mem_singleton.1 hn
    rw[List.getElem?_map,List.getElem?_eq_getElem bh,Option.map_some,this]
   refine Wp 1 rfl ?_
   refine an rfl rfl (aW T.ok rfl aT (y:=0) WH rfl rfl rfl rfl rfl rfl ?_)
   rintro b5 q5 ys aL rfl
   refine Wm 1 [.e aL 0] (St.start _) rfl ?_
   clear aL
   refine ba rfl ?_
   refine aS rfl rfl ?_
   apply aE
   exact fun a ha=>⟨rfl,ha.keep ⟨rfl,rfl,rfl,trivial⟩⟩
 rintro a' _ ⟨rfl,eI⟩
 revert a'
 clear bI dO hK Ws Wr
 apply cQ;refine dx 3 [.z aP] (St.start _) rfl ?_
 have WI:=(Hi hv).n40
 refine an rfl rfl (yr T.ok rfl hs rfl rfl rfl rfl rfl rfl (by decide) rfl (by show 8*f.steps.length≤_;omega) (by unfold maxLen;omega) ?_);rintro bu g1 hs ah;obtain⟨aq,aP,aT,dI⟩:=dE ah aq aP aT dI
 replace hs:St g g1 [.row 3 1 (.slice (some ⟨bu,0,none⟩) f.steps.length f.steps.length) f.steps.length (eB (List.replicate f.steps.length 0))]:=by
  have e:(List.replicate f.steps.length [Value.int .i64 0]).flatten=eB (List.replicate f.steps.length 0):=by
   unfold eB;rw[List.map_replicate,List.flatten_replicate_singleton]
  rw[←e];exact hs
 have eg:=Cd dI
 have Ja:(R.map (·.step)).length=R.length:=List.length_map ..
 refine ba rfl ?_;apply aB;refine aX rfl ?_;apply aG
 refine bS (fun m a' w=> ∃(k:Nat) (u:List Int) (g':G),w=g'.w∧St g g' [.row 3 1 (.slice (some ⟨bu,0,none⟩) f.steps.length f.steps.length) f.steps.length (eB u)]∧G.le g g'∧EP g' b7 0 [.int .i64 f.ck,.int .i64 f.cu,.slice a1 f.steps.length c1,.slice a2 n2 c2]∧Rs g' (.slice a1 f.steps.length c1) f.steps∧Rs g' (.slice a8 R.length c9) (R.map (·.step))∧(k+1≤R.length∨k=0)∧u.length=f.steps.length∧(∀n:Nat,n<f.steps.length→u.getD n 0=(hQ f (R.map (·.step)) k n:Nat))∧m=R.length-k∧
   Fr 185 [] [(5,.bool true),(7,.pointer (some ⟨b7,0,none⟩)),(8,.slice a8 R.length c9),(17,.slice (some ⟨bu,0,none⟩) f.steps.length f.steps.length),(18,.int .i64 (k+1:Nat))] a') R.length
  (fun a' ha=>⟨0,_,_,rfl,hs,aq,aP,eg,aT,.inr rfl,by simp,fun n hn=>by rw[List.getD_eq_getElem?_getD,List.getElem?_replicate,if_pos hn];rfl,rfl,ha.keep (by(repeat (first|exact trivial|refine⟨rfl,?_⟩)))⟩) ?_
 (repeat clear hs);(repeat clear aq);(repeat clear aT);(repeat clear eg);(repeat clear aP)
 rintro m a' _ ⟨k,u,g',rfl,hs,aq,aP,eg,aT,hk,WA,hu,rfl,eI⟩
 revert a'
 apply cQ;apply aB;refine aX rfl ?_
 by_cases bh:k+1<R.length
 case neg=>
  refine aS (b:=decide (((k+1:Nat):Int)<(R.length:Int))) (decide_eq_false (by omega)) rfl ?_
  apply bE;apply bK;apply bK;apply dc;apply au;refine aX rfl ?_
  exact aF (aV rfl rfl (hs.ret rfl))
 refine aJ (b:=decide (((k+1:Nat):Int)<(R.length:Int))) (decide_eq_true (by omega)) rfl ?_
 obtain⟨s,dm,k_⟩:=q0 hW bh
 have Up:=fun hb=>Eu hW bh dm hb
 have sw:=ri f (R.map (·.step)) k
 have NQ: ∀j,(hj:j<R.length)→(R.map (·.step)).getD j 0=R[j].step:=fun j hj=>by
  rw[List.getD_eq_getElem?_getD,List.getElem?_map,List.getElem?_eq_getElem hj];rfl
 have Us:Cc f (R.map (·.step)) k=s.next.contains R[k+1].step:=by
  unfold Cc;rw[NQ k (by omega),NQ (k+1) bh,dm];rfl
 rw[Us,NQ k (by omega)]at sw
 obtain⟨b0,p0,ys,rfl,mg,rfl⟩:=aT.at (i:=k) (x:=R[k].step) (by rw[List.getElem?_map,List.getElem?_eq_getElem (by omega)];rfl)
 obtain⟨Qy,Qz,Kw,e,vy,rfl⟩:=aT.at (i:=k+1) (x:=R[k+1].step) (by rw[List.getElem?_map,List.getElem?_eq_getElem bh];rfl)
 obtain⟨rfl,rfl⟩:b0=Qy∧p0=Qz:=by simpa using e
 clear e
 obtain⟨Rg,Wh,T7⟩:=qS dm
 obtain⟨b1,p1,zs,rfl,WB,eK⟩:=eg.at (i:=R[k].step.toNat) T7
 obtain⟨a3,n3,c3,a4,n4,c4,rfl,dj,pk⟩:=eK
 have Ut:=(List.getElem?_eq_some_iff.1 T7).1
 generalize R[k].step=d0 at*
 generalize R[k+1].step=d1 at*
 have oh:=hs
 apply aE;apply au;apply aB;apply aG;apply aB
 apply ed (fj (.e (.agg #[.int .i64 s.dD,.slice a3 n3 c3,.int .i64 s.min,.int .i64 s.max,.slice a4 n4 c4,.int .i64 s.back,.int .i64 s.dF]):: .f (B_ (G.dr _).w.heap.size [.int .i64 0,.slice none 0 0,.int .i64 0,.int .i64 0,.slice none 0 0,.int .i64 0,.int .i64 0] 65)::[])) 10 [(8,146),(9,19)] (by kernel_rfl)
 ·refine Dm [[],[0],[],[]] [.z aP] hs (by kernel_rfl) rfl ?_
  refine aw (ak (js:=[(3,141)]) (by kernel_rfl) fun gd hf=>ai rfl (aj (az rfl (aM _ T.ok rfl ⟨gd,rfl,aZ.refl _,congrArg (Value.int .i64) (show _=(k:Int) by rw[wr (by omega) (by omega)];omega)⟩)))) ?_
  refine aw (ak (js:=[(2,140),(4,142)]) (by kernel_rfl) fun gd hf=>ai rfl (ai rfl (aj (az rfl (fT T.ok rfl rfl rfl (by omega) (by omega) rfl rfl rfl ⟨gd,rfl,aZ.refl _,rfl⟩))))) ?_
  refine Dm [[5]] [.e mg 0] hs (by kernel_rfl) rfl ?_
  refine aw (ak (js:=[(1,139),(6,144)]) (by kernel_rfl) fun gd hf=>ai rfl (ai rfl (aj (az rfl (fT T.ok rfl rfl rfl Rg Ut rfl rfl rfl ⟨gd,rfl,aZ.refl _,rfl⟩))))) ?_
  refine Dm [[7]] [.e WB 0] hs (by kernel_rfl) rfl ?_
  refine aw (ak (js:=[]) (by kernel_rfl) fun gd hf=>aj (az rfl (aK T.ok rfl (St.start gd) rfl rfl fun b g' iS hle=>⟨g',rfl,iS.mS,b,rfl,Nat.le_trans hf.below.size (iS.own 0 _ rfl).1,(iS.own 0 _ rfl).2⟩))) ?_
  exact fJ
 intro g1 aN;refine ai rfl (aY fun v6 h6=>aj ?_)
 obtain⟨Xf,rfl,uS⟩:=h6
 (repeat clear hs)
 have hs:=oh.dr.gJ aN uS;have ah:=(G.bJ _).trans aN.le;obtain⟨aq,aP,mg,vy,aT,pk⟩:=iu ah aq aP mg vy aT pk;replace eg:=eg.mono ah
 clear oh uS aN WB
 skip
 refine bg rfl (aA T.ok 0 rfl hs rfl rfl rfl rfl rfl rfl rfl rfl rfl ?_);replace hs:=hs;rintro g1 hs ah;obtain⟨aq,aP,mg,vy,aT,pk⟩:=iu ah aq aP mg vy aT pk;replace eg:=eg.mono ah
 obtain⟨g2,bR,aU,ah,aL⟩:=hs.a_ (i:=0) rfl;replace hs:=aU;clear aU;rw[←bR];obtain⟨aq,aP,mg,vy,aT,pk⟩:=iu ah aq aP mg vy aT pk;replace eg:=eg.mono ah
 have dO:=aL;clear aL
 replace hs:St g _ [.row 3 1 (.slice (some ⟨bu,0,none⟩) f.steps.length f.steps.length) f.steps.length (eB u)]:=hs
 apply cf;apply aB
 apply bO hs (gE (eJ (.e (.bool (s.next.contains d1))::[]))) 7 [(6,153)] (by kernel_rfl) rfl
 ·refine Dm [[],[0],[],[]] [.z dO] hs (by kernel_rfl) rfl ?_
  refine aw (ak (js:=[(2,149),(3,150)]) (by kernel_rfl) fun gd hf=>ai rfl (ai rfl (aj (az rfl (fT T.ok rfl rfl rfl (by omega) (by omega) rfl rfl rfl ⟨gd,rfl,aZ.refl _,rfl⟩))))) ?_
  exact Dz [[4],[1,5]] [.e vy 0,.c Yv fun g' h=>Yk _ s.next d1 g' (pk.mono h)] hs (by kernel_rfl) rfl
 clear hs;intro g2 hs ah;obtain⟨aq,aP,dO,mg,vy,aT⟩:=iu ah aq aP dO mg vy aT;replace eg:=eg.mono ah
 cases hb:s.next.contains d1 with
 |true=>
  refine ba rfl ?_;refine aX rfl ?_
  refine aS rfl rfl ?_
  apply aE;apply bU;apply au;apply ar;refine Wp 3 rfl ?_;apply aD
  rw[hb]at sw
  exact fun a ha=>⟨R.length-(k+1),by omega,k+1,u,_,rfl,hs,aq,aP,eg,aT,.inl (by omega),WA,fun n hn=>by rw[hu n hn,sw];simp,rfl,ha.keep ⟨rfl,rfl,rfl,rfl,kI rfl (by rw[wr (by omega) (by omega)];omega),trivial⟩⟩
 |false=>
  refine ba rfl ?_;refine aX rfl ?_
  refine aJ rfl rfl ?_
  obtain⟨Bc,Pk⟩:=Up hb
  rw[hb]at sw
  have Uw:=hu d0.toNat Ut
  rw[Int.toNat_of_nonneg Rg]at Uw
  have Ck:=sw d0
  rw[beq_self_eq_true]at Ck
  replace Ck:hQ f (R.map (·.step)) (k+1) d0=hQ f (R.map (·.step)) k d0+1:=Ck
  have Ba:hQ f (R.map (·.step)) k d0≤k:=Nat.le_trans (List.length_filter_le ..) (Nat.le_of_eq List.length_range)
  have yJ:(eB u)[d0.toNat*1]? =some (.int .i64 (hQ f (R.map (·.step)) k d0:Nat)):=by
   unfold eB
   rw[Nat.mul_one,List.getElem?_map,List.getElem?_eq_getElem (by omega),←Uw,List.getD_eq_getElem?_getD,List.getElem?_eq_getElem (by omega)];rfl
  have WM:((hQ f (R.map (·.step)) k d0:Nat):Int)+1≤s.dF:=by rw[Ck]at Pk;omega
  have iU: ∀n:Nat,n<f.steps.length→(u.set d0.toNat ((hQ f (R.map (·.step)) k d0:Nat)+1)).getD n 0=(hQ f (R.map (·.step)) (k+1) n:Nat):=by
   intro n hn
   rw[List.getD_eq_getElem?_getD,List.getElem?_set]
   by_cases he:d0.toNat=n
   ·subst he
    rw[if_pos rfl,if_pos (by omega),Int.toNat_of_nonneg Rg,Ck];rfl
   ·rw[if_neg he,←List.getD_eq_getElem?_getD,hu n hn,sw,beq_eq_false_iff_ne.2 (by omega)];rfl
  have SJ:(eB (u.set d0.toNat ((hQ f (R.map (·.step)) k d0:Nat)+1)))[d0.toNat*1]? =some (.int .i64 ((hQ f (R.map (·.step)) k d0:Nat)+1)):=by
   unfold eB
   rw[Nat.mul_one,List.getElem?_map,List.getElem?_set_self (by omega)];rfl
  clear sw Up Pk hu Uw Ck
  generalize hQ f (R.map (·.step)) k d0=y at*
  clear dj pk Us NQ dm k_
  apply aB;apply aB
  apply bO hs (gE (eJ (.e (.bool false)::[]))) 7 [(6,162)] (by kernel_rfl) rfl
  ·refine Dm [[],[0],[],[]] [.z dO] hs (by kernel_rfl) rfl ?_
   refine aw (ak (js:=[(2,158),(3,159)]) (by kernel_rfl) fun gd hf=>ai rfl (ai rfl (aj (az rfl (fT T.ok rfl rfl rfl (by omega) (by omega) rfl rfl rfl ⟨gd,rfl,aZ.refl _,rfl⟩))))) ?_
   refine Dm [[4]] [.e vy 0] hs (by kernel_rfl) rfl ?_
   refine aw (ak (js:=[(1,157),(5,161)]) (by kernel_rfl) fun gd hf=>ai rfl (ai rfl (aj (az rfl (aM _ T.ok rfl ⟨gd,rfl,aZ.refl _,congrArg Value.bool (by rw[Bc];simp)⟩))))) ?_
   exact fJ
  clear hs;intro g2 hs ah;obtain⟨aq,aP,dO,mg,aT,eg⟩:=iu ah aq aP dO mg aT eg
  apply cf
  refine aS rfl rfl ?_
  apply aE;apply au;refine cP 4 rfl ?_
  rw[show IntKind.i64.wrap (((k+1:Nat):Int)-1)=(k:Int)from by rw[wr (by omega) (by omega)];omega]
  refine an rfl rfl (fT T.ok rfl rfl rfl (by omega) (by omega) rfl rfl rfl ?_)
  refine Wm 1 [.e mg 0] (St.start _) rfl ?_
  skip
  refine an rfl rfl (iy T.ok (n:=d0) rfl (hs.own 0 _ rfl).1 Rg Ut rfl rfl rfl rfl rfl rfl ?_)
  rintro b p hh;obtain⟨rfl,rfl⟩:bu=b∧0=p:=by simpa using hh
  refine an rfl rfl (iP T.ok (d0.toNat*1) rfl (hs.own 0 _ rfl).1 rfl (v:=.int .i64 (y:Nat)) yJ ?_)
  refine Wp 1 rfl ?_
  rw[show IntKind.i64.wrap ((y:Int)+1)=(y:Int)+1 from by rw[wr (by omega) (by omega)]]
  refine an rfl rfl (iy T.ok (n:=d0) rfl (hs.own 0 _ rfl).1 Rg Ut rfl rfl rfl rfl rfl rfl ?_)
  rintro b p hh;obtain⟨rfl,rfl⟩:bu=b∧0=p:=by simpa using hh
  refine bg rfl (kD T.ok 0 (d0.toNat*1) (us:=[.int .i64 ((y:Int)+1)]) rfl hs rfl rfl rfl rfl rfl rfl rfl (by simp) (by unfold eB;rw[List.length_map];show d0.toNat*1+1≤_;omega) (xs':=eB (u.set d0.toNat ((y:Int)+1))) (by rw[Nat.mul_one];exact Cg (by omega)) ?_)
  clear yJ
  rintro g3 hs ah;obtain⟨aq,aP,dO,mg,aT,eg⟩:=iu ah aq aP dO mg aT eg
  apply cf;apply aB
  replace hs:St g _ [.row 3 1 (.slice (some ⟨bu,0,none⟩) f.steps.length f.steps.length) f.steps.length (eB (u.set d0.toNat ((y:Int)+1)))]:=hs
  apply bO hs (fj (eJ (.e (.bool false)::[]))) 11 [(10,183)] (by kernel_rfl) rfl
  ·refine Dm [[],[],[]] [] hs (by kernel_rfl) rfl ?_
   refine aw (ak (js:=[(2,175)]) (by kernel_rfl) fun gd hf=>ai rfl (aj (az rfl (aM _ T.ok rfl ⟨gd,rfl,aZ.refl _,congrArg (Value.int .i64) (show _=(k:Int) by rw[wr (by omega) (by omega)];omega)⟩)))) ?_
   refine aw (ak (js:=[(1,174),(3,176)]) (by kernel_rfl) fun gd hf=>ai rfl (ai rfl (aj (az rfl (fT T.ok rfl rfl rfl (by omega) (by omega) rfl rfl rfl ⟨gd,rfl,aZ.refl _,rfl⟩))))) ?_
   refine Dm [[4]] [.e mg 0] hs (by kernel_rfl) rfl ?_
   refine aw (ak (js:=[(0,173),(5,178)]) (by kernel_rfl) fun gd hf=>ai rfl (ai rfl (aj (az rfl (iy T.ok (n:=d0) rfl ((hs.dr.call hf).own 0 _ rfl).1 Rg Ut rfl rfl rfl rfl rfl rfl fun b p hh=>by
    obtain⟨rfl,rfl⟩:bu=b∧0=p:=by simpa using hh
    exact⟨gd,rfl,aZ.refl _,rfl⟩))))) ?_
   refine aw (ak (js:=[(6,179)]) (by kernel_rfl) fun gd hf=>ai rfl (aj (az rfl (iP T.ok (d0.toNat*1) rfl ((hs.dr.call hf).own 0 _ rfl).1 rfl (v:=.int .i64 ((y:Int)+1)) SJ ⟨gd,rfl,aZ.refl _,rfl⟩)))) ?_
   refine Dm [[],[8]] [.z dO] hs (by kernel_rfl) rfl ?_
   refine aw (ak (js:=[(7,180),(9,182)]) (by kernel_rfl) fun gd hf=>ai rfl (ai rfl (aj (az rfl (aM _ T.ok rfl ⟨gd,rfl,aZ.refl _,congrArg Value.bool (by rw[decide_eq_false_iff_not];omega)⟩))))) ?_
   exact fJ
  clear hs;intro g4 hs ah;obtain⟨aq,aP,aT,eg⟩:=dE ah aq aP aT eg
  apply cf
  refine aS rfl rfl ?_
  apply aE;apply bU;apply au;apply ar;refine Wp 3 rfl ?_;apply aD
  exact fun a ha=>⟨R.length-(k+1),by omega,k+1,_,_,rfl,hs,aq,aP,eg,aT,.inl (by omega),by rw[List.length_set];exact WA,iU,rfl,ha.keep ⟨rfl,rfl,rfl,rfl,kI rfl (by rw[wr (by omega) (by omega)];omega),trivial⟩⟩
end Go.Proofs.YtebobfdheanknaaGreatDoor
namespace Go.K
open Go
theorem CE{P:Program}{f:FuncId}{fn:Func}{s:ChangeSpec}{c:OpenClaim}
  (h1:(c.inPlace==P.inPlace f)=true) (h2:(c.unfollowed==P.unfollowed f)=true) (h3:(c.recurses==P.recurses f)=true) (h4:(c.named==P.varsNamed f)=true)
  (h5:(c.wf (OpenSpec.ofChange s)&&fn.params.all (P.readableRec ·)&&namedTie P c.named s.vars)=true) (a2:laidOutB P=true) (a3:mapsRowed P=true)
  (h6:(P.mayEnter&&(c.lifted==P.liftsFinal)&&(P.make==some c.make))=true)
  (h7:((c.plainKeys==P.plainKeys)&&P.stopsHeard&&(P.stops==[])&&(P.stopKnobs==[]))=true)
  (h8:((c.stops==[])&&(c.knobs==[])&&(c.maps==(fn.params.toList++s.plain.varTypes P).any (P.mapsRec ·))&&(c.ifaces==(fn.params.toList++s.plain.varTypes P).any (P.ifacesRec ·))&&(c.mapsOut==P.mapsAmong fn.resultTypes.toList)&&
   (c.loops==(fn.params.toList++s.plain.varTypes P).any (P.loopsFrom ·))&&(c.wideKeys==(fn.params.toList++s.plain.varTypes P++fn.resultTypes.toList).any (P.wideKeysFrom ·))&&
   s.vars.all (P.varReadable ·)&&fn.resultTypes.all (fun t=>P.readableRec t&&decide (t<P.types.size))&&(c.ifacesOut==fn.resultTypes.toList.any (P.ifacesRec ·))&&(c.loopsOut==fn.resultTypes.toList.any (P.loopsFrom ·))&&c.shortTexts.isNone&&(c.kinds==(if c.domain.isEmpty then []else fn.params.toList.map fun t=>match P.underlying t with|some (.int k)=>some k|_=>none))&&(c.pinned==c.pinnedBy)&&
   (c.veiled==(fn.params.toList++s.plain.varTypes P++fn.resultTypes.toList).any (P.veiledRec ·))&&c.veiledFits P fn.params.toList (fn.params.toList++s.plain.varTypes P++fn.resultTypes.toList))=true):joinedFacts P f fn s c=true:=by
 unfold joinedFacts
 simp only[Bool.and_eq_true]at h5 h6 h7 h8⊢
 obtain⟨⟨a1,a4⟩,a5⟩:=h5
 obtain⟨⟨b1,b2⟩,b3⟩:=h6
 obtain⟨⟨⟨d1,d2⟩,d3⟩,d4⟩:=h7
 obtain⟨⟨⟨⟨⟨⟨⟨⟨⟨⟨⟨⟨⟨⟨⟨e1,e2⟩,e3⟩,e4⟩,e5⟩,e6⟩,e7⟩,e8⟩,e9⟩,Vp⟩,Vq⟩,Vr⟩,Vs⟩,Vt⟩,Vu⟩,Vv⟩:=h8
 exact⟨⟨⟨⟨⟨⟨⟨⟨⟨⟨⟨⟨⟨⟨⟨⟨⟨⟨⟨⟨⟨⟨⟨⟨⟨⟨⟨⟨⟨⟨⟨a1,a2⟩,a3⟩,a4⟩,a5⟩,e1⟩,d3⟩,e2⟩,d4⟩,h1⟩,h2⟩,h3⟩,h4⟩,e3⟩,e4⟩,e5⟩,e6⟩,e7⟩,e8⟩,e9⟩,Vp⟩,Vq⟩,d1⟩,Vr⟩,d2⟩,b1⟩,b2⟩,b3⟩,Vs⟩,Vt⟩,Vu⟩,Vv⟩
end Go.K
