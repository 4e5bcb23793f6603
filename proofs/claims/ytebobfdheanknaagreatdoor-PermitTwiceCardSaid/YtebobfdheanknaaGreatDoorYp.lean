/- Parts of the proof, from: Appending so that it is known where: in place, into a new block with the old one kept, and a second time, where the same stands behind already. -/
import Derived.Test.YtebobfdheanknaaGreatDoorYl
import Derived.Test.YtebobfdheanknaaGreatDoorYo
import Derived.JoinedOf
namespace Go.K
open Go Go.RowKit
variable {F:Fence} {P:Program} {N:Nat} {ds:List Deferred} {l:Env} {w:World} {Q:Exit→Act→World→Prop} {o:Oper} {g0 g:G} {L:List cV} {K:Value→World→Prop}
theorem YT{tb:Tb}(dn:tb.ok P){t e ty:Nat}{ti ei:TI}{k:Nat}(hi:tl tb t=some ti)(hd:ti.desc= .slice e)(hj:tl tb e=some ei)(hk:ei.size=k)
  {n m c b p cap:Nat} {cur:Array Value} {news:List Value} {ad:Option Addr} (hh:fF w b cur e) (mG:cur.size=p+cap*k) (hm:m≠0) (gn:Src w ad m k news) (h1: ∀u∈news,u.oneCell'=true) (vK:n+m≤cap):
  (Builtin.append_ #[t,t] ty #[.slice (some ⟨b,p,none⟩) n cap,.slice ad m c]).run P w= .ok (.slice (some ⟨b,p,none⟩) (n+m) cap) (w.setRow b (cur.toList.take (p+n*k)++news++cur.toList.drop (p+n*k+news.length)).toArray):=by
 obtain⟨⟨dd,hu,he⟩,_⟩:=dn.at hi
 rw[hd]at he
 obtain rfl:=KD.of_slice he
 obtain⟨_,inf,e1,e2,e3,e4⟩:=dn.at hj
 have cS:inf.size=k:=by rw[e2,hk]
 obtain⟨hl,h⟩:=gn
 obtain⟨b',p',rfl,yJ⟩:=h.resolve_left hm
 have vN: ∀j u,news[j]? =some u→w.cell? ((⟨b',p',none⟩:Addr).add j)=some u:=fun j u hu=>by
  have:=yJ j u hu
  simpa [Addr.add_lit]using this
 have Ih:=run_firstCells_some (P:=P) w k m ⟨b',p',none⟩ m c news hl vN
 have jo:p+n*k+0+news.length≤cur.size:=by
  rw[mG,hl,Nat.add_zero,Nat.add_assoc,←Nat.add_mul]
  exact Nat.add_le_add_left (Nat.mul_le_mul_right k vK) p
 have dm:=gU (P:=P) b (p+n*k) e news 0 cur w hh jo h1
 simp only[Nat.add_zero]at dm
 simp[Builtin.append_,run_underlying hu,sizeOf,typeInfo,e1,Builtin.lenOf,vK,Ih,Addr.add_lit,cS,dm]
theorem SY{tb:Tb}(dn:tb.ok P)(i:Nat){t e:Nat}{ti ei:TI}{k b p cap:Nat}{s x:Operand}{n m c:Nat}{xs news:List Value}{ad:Option Addr}
  (ho:o.op= .call {callee:=.builtin .append,args:=#[s,x],argTypes:=#[t,t]}) (hs:St g0 g L) (hL:L[i]? =some (.row e k (.slice (some ⟨b,p,none⟩) n cap) n xs)) (hv:ev l s=some (.slice (some ⟨b,p,none⟩) n cap)) (hx:ev l x=some (.slice ad m c))
  (hi:tl tb t=some ti) (hd:ti.desc= .slice e) (hj:tl tb e=some ei) (hk:ei.size=k) (hm:m≠0) (vK:n+m≤cap)
  (gn:Src g.w ad m k news) (h1: ∀u∈news,u.oneCell'=true)
  (kk: ∀g',St g0 g' (L.set i (.row e k (.slice (some ⟨b,p,none⟩) (n+m) cap) (n+m) (xs++news)))→g.le g'→K (.slice (some ⟨b,p,none⟩) (n+m) cap) g'.w):cT F P N ds o l g.w Q K:=by
 have dZ:=hs.own i _ hL
 obtain⟨lG,hr⟩:=dZ.1
 rcases hr with⟨_,a,e1⟩|⟨b',p',Rx,cur,e1,hB,hh,nd,oJ,mG,ht⟩
 ·simp only[Value.slice.injEq]at e1
  omega
 simp only[Value.slice.injEq,Option.some.injEq,Addr.mk.injEq,and_true,true_and]at e1
 obtain⟨⟨rfl,rfl⟩,rfl⟩:=e1
 have jf:=YT (P:=P) (ty:=o.type) dn hi hd hj hk hh mG hm gn (c:=c) h1 vK
 have hl:=gn.1
 have jo:p+n*k+news.length≤cur.size:=by
  rw[mG,hl,Nat.add_assoc,←Nat.add_mul]
  exact Nat.add_le_add_left (Nat.mul_le_mul_right k vK) p
 have E6:(cur.toList.take (p+n*k)++news++cur.toList.drop (p+n*k+news.length)).toArray.size=cur.size:=by
  simp only[List.size_toArray,List.length_append,List.length_take,List.length_drop,Array.length_toList]
  omega
 have hR:Row g0.w.heap.size e k (.slice (some ⟨b,p,none⟩) (n+m) cap) (n+m) (xs++news) (g.w.setRow b (cur.toList.take (p+n*k)++news++cur.toList.drop (p+n*k+news.length)).toArray):=by
  refine⟨by rw[List.length_append,lG,hl,Nat.add_mul],.inr ⟨b,p,cap,_,rfl,hB,hh.set E6,vK,oJ,E6.trans mG,?_⟩⟩
  have h2:p+n*k+news.length≤cur.toList.length:=by simpa using jo
  have bh:(cur.toList.take (p+n*k)).length=p+n*k:=by rw[List.length_take];omega
  have Vk:(cur.toList.take (p+n*k)).drop p=xs:=by
   rw[←ht,List.drop_take];congr 1;omega
  show((cur.toList.take (p+n*k)++news++cur.toList.drop (p+n*k+news.length)).drop p).take ((n+m)*k)=xs++news
  rw[List.append_assoc,List.drop_append_of_le_length (by rw[bh];omega),Vk,Nat.add_mul,←hl,←List.append_assoc]
  rw[List.take_append_of_le_length (by rw[List.length_append,lG];exact Nat.le_refl _)]
  rw[List.take_of_length_le (by rw[List.length_append,lG];exact Nat.le_refl _)]
 have hg:g.w.grownBy (g.w.setRow b (cur.toList.take (p+n*k)++news++cur.toList.drop (p+n*k+news.length)).toArray) (some b):=j4 _ _ _
 generalize g.w.setRow b (cur.toList.take (p+n*k)++news++cur.toList.drop (p+n*k+news.length)).toArray=w' at*
 have Ck:cap≠0:=by omega
 let g':G:=⟨w',g.im,fun b h=>Nat.lt_of_lt_of_le (g.lt b h) hg.size⟩
 have dm:=hs.FV (g':=g') (e':=.row e k (.slice (some ⟨b,p,none⟩) (n+m) cap) (n+m) (xs++news)) hL (by simp only[cV.rV];rw[jc Ck];exact hg) (fun _ _=>Iff.rfl)
  ⟨hR,fun q hq hi=>dZ.2 q (by rw[jc Ck]at hq⊢;exact hq) hi⟩ (fun q hq=> .inl (by simp only[cV.rV]at hq⊢;rw[jc Ck]at hq⊢;exact hq))
 refine fE ho (w':=w') (fun a ha=>?_) (kk g' dm.1 dm.2)
 simp[resolve,invoke,builtin,ha.ev hv,ha.ev hx,jf]
theorem zf{tb:Tb}(dn:tb.ok P){t e:Nat}{ti ei:TI}{k cap:Nat}{s x:Operand}{n m c:Nat}{J1 news:List Value}{ad J0:Option Addr}
  (ho:o.op= .call {callee:=.builtin .append,args:=#[s,x],argTypes:=#[t,t]}) (hs:St g0 g L) (hv:ev l s=some (.slice ad n cap)) (hx:ev l x=some (.slice J0 m c))
  (hold:Src g.w ad n k J1) (hi:tl tb t=some ti) (hd:ti.desc= .slice e) (hj:tl tb e=some ei) (hk:ei.size=k) (nk:0<k) (hz:ei.zero.cells.size=k) (hn:n≠0) (hm:m≠0) (vK:cap<n+m)
  (gn:Src g.w J0 m k news) (hb:(n+m)*ei.bytes≤140737488355328) (AV:n+m≤maxLen)
  (kk: ∀a' c' g',St g0 g' (.row e k (.slice a' (n+m) c') (n+m) (J1++news)::L)→g.le g'→K (.slice a' (n+m) c') g'.w):cT F P N ds o l g.w Q K:=by
 obtain⟨⟨dd,C5,he⟩,_⟩:=dn.at hi
 rw[hd]at he
 obtain rfl:=KD.of_slice he
 obtain⟨_,inf,e1,e2,e3,e4⟩:=dn.at hj
 obtain⟨b1,p1,rfl,QE⟩:=hold.2.resolve_left hn
 obtain⟨b2,p2,rfl,HX⟩:=gn.2.resolve_left hm
 obtain⟨v',w',jf,dZ,hg⟩:=run_append_arg_grows (P:=P) g.w t o.type e inf ei.zero k ei.bytes C5 e1 e4 (by rw[e2,hk]) e3 hz nk ⟨b1,p1,none⟩ n cap J1 hold.1
  (fun j u hu=>by rw[Addr.add_lit];exact QE j u hu) ⟨b2,p2,none⟩ m c news gn.1 (fun j u hu=>by rw[Addr.add_lit];exact HX j u hu) vK AV hb
 have hR:=Row.q7 dZ
 obtain⟨a',c',rfl⟩:=hR.form
 let g':G:=⟨w',g.im,fun b h=>Nat.lt_of_lt_of_le (g.lt b h) hg.size⟩
 have YU: ∀b,o6 (.slice a' (n+m) c')=some b→g.w.heap.size≤b:=fun b hb=>G9 dZ b hb
 have dm:=hs.add (g':=g') (e':=.row e k (.slice a' (n+m) c') (n+m) (J1++news)) hg (fun _ _=>Iff.rfl)
  ⟨⟨hR.1,by
   rcases hR.2 with hx|⟨b,p,cap,cur,e1,h1,hx⟩
   ·exact .inl hx
   ·exact .inr ⟨b,p,cap,cur,e1,Nat.le_trans hs.below.size h1,hx⟩⟩,fun b hb hi=>by
   have:=YU b hb
   have:=g.lt b hi
   omega⟩ (fun b hb=>YU b hb)
 refine fE ho (w':=w') (fun a ha=>?_) (kk a' c' g' dm.1 dm.2)
 simp[resolve,invoke,builtin,ha.ev hv,ha.ev hx,jf]
theorem XR{tb:Tb}(dn:tb.ok P){t e B:Nat}{ti ei:TI}{k b p cap:Nat}{s x:Operand}{n m c:Nat}{xs news:List Value}{ad:Option Addr}
  (ho:o.op= .call {callee:=.builtin .append,args:=#[s,x],argTypes:=#[t,t]}) (hR:Row B e k (.slice (some ⟨b,p,none⟩) (n+m) cap) (n+m) (xs++news) w) (lG:xs.length=n*k) (hv:ev l s=some (.slice (some ⟨b,p,none⟩) n cap)) (hx:ev l x=some (.slice ad m c))
  (hi:tl tb t=some ti) (hd:ti.desc= .slice e) (hj:tl tb e=some ei) (hk:ei.size=k) (hm:m≠0)
  (gn:Src w ad m k news) (h1: ∀u∈news,u.oneCell'=true)
  (kk:K (.slice (some ⟨b,p,none⟩) (n+m) cap) w):cT F P N ds o l w Q K:=by
 obtain⟨_,hr⟩:=hR
 rcases hr with⟨_,a,e1⟩|⟨b',p',Rx,cur,e1,hB,hh,nd,oJ,mG,ht⟩
 ·simp only[Value.slice.injEq]at e1
  omega
 simp only[Value.slice.injEq,Option.some.injEq,Addr.mk.injEq,and_true,true_and]at e1
 obtain⟨⟨rfl,rfl⟩,rfl⟩:=e1
 have jf:=YT (P:=P) (ty:=o.type) dn hi hd hj hk hh mG hm gn (c:=c) h1 nd
 have hl:=gn.1
 have E5:cur.toList.take (p+n*k)++news++cur.toList.drop (p+n*k+news.length)=cur.toList:=by
  have h2:(cur.toList.drop (p+n*k)).take news.length=news:=by
   have h3:=congrArg (List.drop (n*k)) ht
   rw[List.drop_take,List.drop_drop,←lG,List.drop_left,lG,Nat.add_mul,Nat.add_sub_cancel_left,←hl]at h3
   exact h3
  have h4:news++cur.toList.drop (p+n*k+news.length)=cur.toList.drop (p+n*k):=by
   have h5:=List.take_append_drop news.length (cur.toList.drop (p+n*k))
   rw[h2,List.drop_drop]at h5
   exact h5
  rw[List.append_assoc,h4,List.take_append_drop]
 rw[E5,Array.toArray_toList]at jf
 obtain⟨fz,hg,_⟩:=hh
 rw[setRow_self w b cur e fz hg]at jf
 refine fE ho (w':=w) (fun a ha=>?_) kk
 simp[resolve,invoke,builtin,ha.ev hv,ha.ev hx,jf]
end Go.K
namespace Go.Proofs.YtebobfdheanknaaGreatDoor
open Go Go.K
set_option maxRecDepth 10000
attribute [local irreducible] W WL cT bu bX bA bB bD cW cG
set_option maxHeartbeats 4000000
theorem XP{g g':G}{e:TypeId}{n c:Nat}{ad:Option Addr}{xs:List bc}(hn:n≠0)(hle:g.le g')(hr:Rs g (.slice ad n c) xs)(hR:Row 0 e 19 (.slice ad n c) n (fl xs) g.w):Row 0 e 19 (.slice ad n c) n (fl xs) g'.w:=by
 obtain⟨hl,hR⟩:=hR
 refine⟨hl,?_⟩
 rcases hR with⟨h,_⟩|⟨b,p,cap,cur,e1,hB,hh,h⟩
 ·exact absurd h hn
 ·obtain⟨a,m,c',e2,_,_,h2⟩:=hr
  simp only[Value.slice.injEq]at e1 e2
  obtain⟨rfl,_,rfl⟩:=e1
  obtain⟨rfl,rfl,rfl⟩:=e2
  rcases h2 with h0|⟨b',p',cells,e3,oS,_⟩
  ·exact absurd h0 hn
  ·simp only[Option.some.injEq,Addr.mk.injEq,and_true]at e3
   obtain⟨rfl,rfl⟩:=e3
   exact .inr ⟨b,p,c,cur,rfl,hB,hh.of_eq (hle b oS).2,h⟩
theorem WG{B:Nat}{e:TypeId}{k n:Nat}{v:Value}{xs:List Value}{w:World}(h:Row B e k v n xs w):Row 0 e k v n xs w:=by
 obtain⟨hl,h⟩:=h
 refine⟨hl,?_⟩
 rcases h with h|⟨b,p,cap,cur,e1,_,h⟩
 ·exact .inl h
 ·exact .inr ⟨b,p,cap,cur,e1,Nat.zero_le _,h⟩
theorem Xv{B:Nat}{e:TypeId}{n m c:Nat}{ad:Option Addr}{xs ys:List bc}{w:World}(hn:xs.length=n)(KE:n≠0)(h:Row B e 19 (.slice ad (n+m) c) (n+m) (fl (xs++ys)) w):Row B e 19 (.slice ad n c) n (fl xs) w:=by
 have hx:(fl xs).length=n*19:=by rw[mc,hn];rfl
 obtain⟨hl,h⟩:=h
 refine⟨hx,?_⟩
 rcases h with⟨h,_⟩|⟨b,p,cap,cur,e1,hB,hh,h1,h2,h3,h4⟩
 ·omega
 ·simp only[Value.slice.injEq,true_and]at e1
  obtain⟨rfl,rfl⟩:=e1
  refine .inr ⟨b,p,c,cur,rfl,hB,hh,by omega,h2,h3,?_⟩
  have h5:=congrArg (List.take (n*19)) h4
  rw[List.take_take,lr,←hx,List.take_left,hx]at h5
  rw[show min (n*19) ((n+m)*19)=n*19 from by omega]at h5
  exact h5
theorem He{g:G}{n m c:Nat}{ad:Option Addr}{xs ys:List bc}(hn:xs.length=n)(h:Rs g (.slice ad (n+m) c) (xs++ys)):Rs g (.slice ad n c) xs:=by
 obtain⟨a,k,c',e,hk,⟨QE,HX⟩,h⟩:=h
 simp only[Value.slice.injEq]at e
 obtain⟨rfl,rfl,rfl⟩:=e
 refine⟨ad,n,c,rfl,hn.symm,⟨by omega,HX⟩,?_⟩
 rcases h with h0|⟨b,p,cells,rfl,oS,hr,hc⟩
 ·exact .inl (by omega)
 ·obtain rfl:=kX hr
  refine .inr ⟨b,p,fl xs,rfl,oS,cO.fl _ _,fun j y hj=>hc j y ?_⟩
  rw[lr,List.getElem?_append_left (List.getElem?_eq_some_iff.1 hj).1];exact hj
structure Kp(ad:Option Addr)(c:Nat)(l w:List bc)(g:G):Prop where
 JW:Rs g (.slice ad l.length c) l
 new:l.length+w.length≤c→Rs g (.slice ad (l.length+w.length) c) (l++w)∧Row 0 54 19 (.slice ad (l.length+w.length) c) (l.length+w.length) (fl (l++w)) g.w
theorem Kp.mono{ad:Option Addr}{c:Nat}{l w:List bc}{g g':G}(h:Kp ad c l w g)(hl:l≠[])(hle:g.le g'):Kp ad c l w g':=
 ⟨h.JW.mono hle,fun hr=>⟨(h.new hr).1.mono hle,XP (by have:=List.length_pos_iff.2 hl;omega) hle (h.new hr).1 (h.new hr).2⟩⟩
def Xw(g0:G)(ad:Option Addr)(c:Nat)(l w t:List bc)(i j k:Nat)(cells:List Value)(ty:Nat)(ρ:Nat→Option Value)(g:G):Prop:=
 ∃Lo,((ρ k=none∧Lo=[])∨ ∃b,ρ k=some (.pointer (some ⟨b,0,none⟩))∧Lo=[.obj b (.cells cells.toArray ty (0,0))])∧
 match ρ i,ρ j with
 |none,none=>St g0 g (rF ad c l::Lo)
 |some v,none=>(l.length+w.length≤c∧v= .slice ad (l.length+w.length) c∧St g0 g (rF ad c (l++w)::Lo))∨(c<l.length+w.length∧ ∃a d,v= .slice a (l.length+w.length) d∧St g0 g (rF a d (l++w)::rF ad c l::Lo))
 |some _,some u=>St g0 g Lo∧Rs g u (l++w++t)∧Kp ad c l w g
 |none,some _=>False
variable {g0 gd:G} {ad:Option Addr} {c:Nat} {l w t:List bc} {i j k:Nat} {cells:List Value} {ty:Nat} {ρ:Nat→Option Value}
theorem XQ(hl:l≠[])(ρ:Nat→Option Value)(g g':G)(hf:aZ g g')(h:Xw g0 ad c l w t i j k cells ty ρ g):Xw g0 ad c l w t i j k cells ty ρ g':=by
 obtain⟨Lo,h1,h2⟩:=h
 refine⟨Lo,h1,?_⟩
 split at h2
 ·exact h2.call hf
 ·rcases h2 with⟨h3,h4,h2⟩|⟨h3,a,d,h4,h2⟩
  ·exact .inl ⟨h3,h4,h2.call hf⟩
  ·exact .inr ⟨h3,a,d,h4,h2.call hf⟩
 ·exact⟨h2.1.call hf,h2.2.1.mono hf.le,h2.2.2.mono hl hf.le⟩
 ·exact h2
theorem Cq(a:Option Addr)(d:Nat)(l w:List bc):rF a d (l++w)= .row 54 19 (.slice a (l.length+w.length) d) (l.length+w.length) (fl l++fl w):=by
 unfold rF;rw[lr,List.length_append]
theorem X'{F:Fence}{N:Nat}{ds:List Deferred}{env:Env}{Q:Exit→Act→World→Prop}{o:Oper}{v:Value}{s x:Operand}(zK:i≠j)(Dt:i≠k)(C2:l≠[])(Tj:w≠[])
  (ho:o.op= .call {callee:=.builtin .append,args:=#[s,x],argTypes:=#[24,24]}) (hv:ev env s=some (.slice ad l.length c)) (hx:ev env x=some v) (h3:ρ i=none) (hJ:Xw g0 ad c l w t i j k cells ty ρ gd) (hr:Rs gd v w) (hl:l.length+w.length≤100000):
  cT F Tryz.prog N ds o env gd.w Q fun u w'=> ∃dP,dP.w=w'∧(gd.le dP∧Xw g0 ad c l w t i j k cells ty (o5 ρ i u) dP)∧Fact.any.p u dP:=by
 obtain⟨Lo,h1,hJ⟩:=hJ
 rw[h3]at hJ
 cases h9:ρ j with
 |some u=>rw[h9]at hJ;exact hJ.elim
 |none=>
  rw[h9]at hJ
  obtain⟨a4,c4,rfl⟩:=hr.isSlice
  obtain⟨_,news,hn,gn⟩:=Src.jq hr
  obtain rfl:=kX hn
  have IH:=List.length_pos_iff.2 C2
  have YJ:=List.length_pos_iff.2 Tj
  have fin: ∀(u:Value) (g9:G),gd.le g9→((l.length+w.length≤c∧u= .slice ad (l.length+w.length) c∧St g0 g9 (rF ad c (l++w)::Lo))∨(c<l.length+w.length∧ ∃a d,u= .slice a (l.length+w.length) d∧St g0 g9 (rF a d (l++w)::rF ad c l::Lo)))→
    ∃dP,dP.w=g9.w∧(gd.le dP∧Xw g0 ad c l w t i j k cells ty (o5 ρ i u) dP)∧Fact.any.p u dP:=fun u g9 hle h=>⟨g9,rfl,⟨hle,Lo,by rw[k8 (Ne.symm Dt)];exact h1,by rw[sw,k8 (Ne.symm zK),h9];exact h⟩,trivial⟩
  by_cases vK:l.length+w.length≤c
  ·obtain⟨b,p,rfl⟩:=(hJ.own 0 _ rfl).1.pos (by omega)
   refine SY T.ok 0 ho hJ rfl hv hx rfl rfl rfl rfl (by omega) vK gn (zP gd w) fun g9 FL hle=>fin _ g9 hle (.inl ⟨vK,rfl,?_⟩)
   rw[Cq];exact FL
  ·have WH:=(Src.gK (hJ.own 0 _ rfl).1).2
   refine zf T.ok ho hJ hv hx WH rfl rfl rfl rfl (by decide) rfl (by omega) (by omega) (by omega) gn (by show(l.length+w.length)*160≤_;omega) (by unfold maxLen;omega) fun a' c' g9 FL hle=>fin _ g9 hle (.inr ⟨by omega,a',c',rfl,?_⟩)
   rw[Cq];exact FL
theorem Yc{F:Fence}{N:Nat}{ds:List Deferred}{env:Env}{Q:Exit→Act→World→Prop}{o:Oper}{v u:Value}{s x:Operand}(zK:i≠j)(zO:j≠k)(C2:l≠[])(Xh:t≠[])
  (ho:o.op= .call {callee:=.builtin .append,args:=#[s,x],argTypes:=#[24,24]}) (hv:ev env s=some v) (hx:ev env x=some u) (r2:ρ i=some v) (h3:ρ j=none) (hJ:Xw g0 ad c l w t i j k cells ty ρ gd) (hr:Rs gd u t) (hl:l.length+w.length+t.length≤100000):
  cT F Tryz.prog N ds o env gd.w Q fun z w'=> ∃dP,dP.w=w'∧(gd.le dP∧Xw g0 ad c l w t i j k cells ty (o5 ρ j z) dP)∧Fact.any.p z dP:=by
 obtain⟨Lo,h1,hJ⟩:=hJ
 rw[r2,h3]at hJ
 obtain⟨a5,c5,rfl⟩:=hr.isSlice
 obtain⟨_,news,hn,gn⟩:=Src.jq hr
 obtain rfl:=kX hn
 have IH:=List.length_pos_iff.2 C2
 have XI:=List.length_pos_iff.2 Xh
 have Tq:(l++w).length=l.length+w.length:=List.length_append
 have bh:(l++w++t).length=(l++w).length+t.length:=List.length_append
 have fin: ∀(z:Value) (g9 g10:G),g10.w=g9.w→gd.le g10→(St g0 g10 Lo∧Rs g10 z (l++w++t)∧Kp ad c l w g10)→ ∃dP,dP.w=g9.w∧(gd.le dP∧Xw g0 ad c l w t i j k cells ty (o5 ρ j z) dP)∧Fact.any.p z dP:=
  fun z g9 g10 hw hle h=>⟨g10,hw,⟨hle,Lo,by rw[k8 (Ne.symm zO)];exact h1,by rw[sw,k8 zK,r2];exact h⟩,trivial⟩
 rcases hJ with⟨vK,rfl,hJ⟩|⟨vK,a,d,rfl,hJ⟩
 ·rw[←Tq]at hv
  by_cases Yy:(l++w).length+t.length≤c
  ·obtain⟨b,p,rfl⟩:=(hJ.own 0 _ rfl).1.pos (by omega)
   refine SY T.ok 0 ho hJ rfl hv hx rfl rfl rfl rfl (by omega) Yy gn (zP gd t) fun g9 FL hle=>?_
   have FL:St g0 g9 (rF (some ⟨b,p,none⟩) c (l++w++t)::Lo):=by rw[Cq];exact FL
   have Rk:=WG (FL.own 0 _ rfl).1
   obtain⟨g10,WM,WN,WA,py⟩:=FL.cL (α:=bc) (i:=0) rfl (cO.fl _ _)
   rw[bh]at py Rk
   rw[←WM]at Rk
   have Up:=He rfl py
   have Yi:=Xv rfl (by omega) Rk
   rw[Tq]at Up Yi
   refine fin _ g9 g10 WM (hle.trans WA) ⟨WN,py,He rfl Up,fun _=>⟨Up,Yi⟩⟩
  ·have WH:=(Src.gK (hJ.own 0 _ rfl).1).2
   refine zf T.ok ho hJ hv hx WH rfl rfl rfl rfl (by decide) rfl (by omega) (by omega) (by omega) gn (by show((l++w).length+t.length)*160≤_;omega) (by unfold maxLen;omega) fun a' c' g9 FL hle=>?_
   have FL:St g0 g9 (rF a' c' (l++w++t)::rF ad c (l++w)::Lo):=by rw[Cq a' c' (l++w) t];exact FL
   have Rk:=WG (FL.own 1 _ rfl).1
   obtain⟨g10,WM,WN,WA,py⟩:=FL.cL (α:=bc) (i:=0) rfl (cO.fl _ _)
   obtain⟨g11,Nf,Ng,WI,Up⟩:=WN.cL (α:=bc) (i:=0) rfl (cO.fl _ _)
   rw[bh]at py
   rw[←WM,←Nf]at Rk
   rw[Tq]at Up Rk
   exact fin _ g9 g11 (Nf.trans WM) (hle.trans (WA.trans WI)) ⟨Ng,py.mono WI,He rfl Up,fun _=>⟨Up,Rk⟩⟩
 ·rw[←Tq]at hv
  refine b_ T.ok 0 ho hJ rfl hv hx rfl rfl rfl rfl (by decide) rfl gn (zP gd t) (by show((l++w).length+t.length)*160≤_;omega) (by unfold maxLen;omega) fun a' c' g9 FL hle=>?_
  have FL:St g0 g9 (rF a' c' (l++w++t)::rF ad c l::Lo):=by rw[Cq a' c' (l++w) t];exact FL
  obtain⟨g10,WM,WN,WA,py⟩:=FL.cL (α:=bc) (i:=0) rfl (cO.fl _ _)
  obtain⟨g11,Nf,Ng,WI,Up⟩:=WN.cL (α:=bc) (i:=0) rfl (cO.fl _ _)
  rw[bh]at py
  exact fin _ g9 g11 (Nf.trans WM) (hle.trans (WA.trans WI)) ⟨Ng,py.mono WI,Up,fun h=>by omega⟩
theorem Xx{F:Fence}{N:Nat}{ds:List Deferred}{env:Env}{Q:Exit→Act→World→Prop}{o:Oper}{ti:TI}(C2:l≠[])
  (Dt:i≠k) (zO:j≠k) (ho:o.op= .alloc ty) (hi:tl T ty=some ti) (hz:ti.zero.cells=cells.toArray) (h3:ρ k=none) (hJ:Xw g0 ad c l w t i j k cells ty ρ gd):
  cT F Tryz.prog N ds o env gd.w Q fun z w'=> ∃dP,dP.w=w'∧(gd.le dP∧Xw g0 ad c l w t i j k cells ty (o5 ρ k z) dP)∧Fact.any.p z dP:=by
 obtain⟨Lo,h1,hJ⟩:=hJ
 rcases h1 with⟨_,rfl⟩|⟨b,h1,_⟩
 case inr=>rw[h3]at h1;cases h1
 have hn: ∀z:Value,o5 ρ k z i=ρ i∧o5 ρ k z j=ρ j:=fun z=>⟨k8 Dt,k8 zO⟩
 cases ri:ρ i with
 |none=>
  cases rj:ρ j with
  |none=>
   rw[ri,rj]at hJ
   refine aK T.ok ho hJ hi hz fun b g' iS hle=>⟨g',rfl,⟨hle,_,.inr ⟨b,sw ..,rfl⟩,?_⟩,trivial⟩
   rw[(hn _).1,(hn _).2,ri,rj];exact iS.re [1,0] (by decide) rfl
  |some u=>rw[ri,rj]at hJ;exact hJ.elim
 |some v=>
  cases rj:ρ j with
  |none=>
   rw[ri,rj]at hJ
   rcases hJ with⟨h4,h5,hJ⟩|⟨h4,a,d,h5,hJ⟩
   ·refine aK T.ok ho hJ hi hz fun b g' iS hle=>⟨g',rfl,⟨hle,_,.inr ⟨b,sw ..,rfl⟩,?_⟩,trivial⟩
    rw[(hn _).1,(hn _).2,ri,rj]
    exact .inl ⟨h4,h5,iS.re [1,0] (by decide) rfl⟩
   ·refine aK T.ok ho hJ hi hz fun b g' iS hle=>⟨g',rfl,⟨hle,_,.inr ⟨b,sw ..,rfl⟩,?_⟩,trivial⟩
    rw[(hn _).1,(hn _).2,ri,rj]
    exact .inr ⟨h4,a,d,h5,iS.re [1,2,0] (by decide) rfl⟩
  |some u=>
   rw[ri,rj]at hJ
   obtain⟨hJ,hr,hk⟩:=hJ
   refine aK T.ok ho hJ hi hz fun b g' iS hle=>⟨g',rfl,⟨hle,_,.inr ⟨b,sw ..,rfl⟩,?_⟩,trivial⟩
   rw[(hn _).1,(hn _).2,ri,rj]
   exact⟨iS,hr.mono hle,hk.mono C2 hle⟩
theorem Yo{u:Value}(hJ:Xw g0 ad c l w t i j k cells ty ρ gd)(r:ρ j=some u):Rs gd u (l++w++t):=by
 obtain⟨Lo,h1,hJ⟩:=hJ
 rw[r]at hJ
 cases h2:ρ i with
 |none=>rw[h2]at hJ;exact hJ.elim
 |some v=>rw[h2]at hJ;exact hJ.2.1
theorem Yd{v:Value}(hJ:Xw g0 ad c l w t i j k cells ty ρ gd)(hi:ρ i≠none)(hj:ρ j≠none)(r:ρ k=some v): ∃b,St g0 gd [.obj b (.cells cells.toArray ty (0,0))]∧Kp ad c l w gd∧v= .pointer (some ⟨b,0,none⟩):=by
 obtain⟨Lo,h1,hJ⟩:=hJ
 rcases h1 with⟨h1,_⟩|⟨b,h1,rfl⟩
 ·rw[r]at h1;cases h1
 ·rw[r]at h1
  obtain rfl:=Option.some.inj h1
  refine⟨b,?_,?_,rfl⟩<;>split at hJ
  ·rename_i e _;exact absurd e hi
  ·rename_i e;exact absurd e hj
  ·exact hJ.1
  ·exact hJ.elim
  ·rename_i e _;exact absurd e hi
  ·rename_i e;exact absurd e hj
  ·exact hJ.2.2
  ·exact hJ.elim
theorem Yp{F:Fence}{N:Nat}{ds:List Deferred}{env:Env}{Q:Exit→Act→World→Prop}{o:Oper}{v:Value}{s x:Operand}(C2:l≠[])(Tj:w≠[])
  (ho:o.op= .call {callee:=.builtin .append,args:=#[s,x],argTypes:=#[24,24]}) (hv:ev env s=some (.slice ad l.length c)) (hx:ev env x=some v) (hk:Kp ad c l w gd) (hr:Rs gd v w) (hl:l.length+w.length≤100000):
  cT F Tryz.prog N ds o env gd.w Q fun u w'=> ∃dP,dP.w=w'∧aZ gd dP∧Rs dP u (l++w):=by
 obtain⟨a4,c4,rfl⟩:=hr.isSlice
 obtain⟨_,news,hn,gn⟩:=Src.jq hr
 obtain rfl:=kX hn
 have IH:=List.length_pos_iff.2 C2
 have YJ:=List.length_pos_iff.2 Tj
 by_cases vK:l.length+w.length≤c
 ·obtain⟨h1,h2⟩:=hk.new vK
  obtain⟨b,p,rfl⟩:=h2.pos (by omega)
  rw[lr]at h2
  exact XR T.ok ho h2 (by rw[mc];rfl) hv hx rfl rfl rfl rfl (by omega) gn (zP gd w) ⟨gd,rfl,aZ.refl _,h1⟩
 ·obtain⟨_,J1,se,WH⟩:=Src.jq hk.JW
  obtain rfl:=kX se
  refine zf T.ok ho (St.start gd) hv hx WH rfl rfl rfl rfl (by decide) rfl (by omega) (by omega) (by omega) gn (by show(l.length+w.length)*160≤_;omega) (by unfold maxLen;omega) fun a' c' g9 FL hle=>?_
  have FL:St gd g9 [rF a' c' (l++w)]:=by rw[Cq];exact FL
  have h:=kj (α:=bc) (xs:=l++w) FL (cO.fl _ _)
  rw[List.length_append]at h
  exact h
structure Yu(ad:Option Addr)(c:Nat)(l w:List bc)(g:G):Prop where
 ne:l≠[]
 kp:Kp ad c l w g
theorem Yu.mono{g g':G}(h:Yu ad c l w g)(hle:g.le g'):Yu ad c l w g':=⟨h.ne,h.kp.mono h.ne hle⟩
end Go.Proofs.YtebobfdheanknaaGreatDoor
namespace Go.Proofs.YtebobfdheanknaaGreatDoor
open Go Go.K
set_option maxRecDepth 10000
attribute [local irreducible] W WL cT bu bX bA bB bD cW cG
set_option maxHeartbeats 20000000
theorem Ye(v0:Value)(x:List Y6)(v1:Value)(cs:List Int)(g:G)(bM:iw g)(aH:Rs g v0 x)(hx: ∀y∈x,y.fit)(aT:Rs g v1 cs)(mG: ∀c∈cs,mH c):
  CallsIn Wd 0 Tryz.prog 7 #[v0,v1] g.w (cR g fun _ r=>r= .bool true):=by
 have hs:=St.start g
 have aq:=G.le.refl g
 refine enter Tryz.func7 rfl Tryz.ntmps7 rfl ?_
 refine aX rfl ?_;apply c_
 refine an rfl rfl (ay Ps aI rfl rfl rfl rfl rfl (Jn _ bM) ?_);rintro g1 _ aN rfl;replace hs:=hs.call aN;have ah:=aN.le;obtain⟨aH,aT,bM⟩:=ef ah aH aT bM
 clear aN
 refine ba rfl ?_;refine cP 1 rfl ?_
 refine an rfl rfl (ay Pt aI rfl rfl rfl rfl rfl (NK _ x _ aH hx) ?_)
 rintro g1 _ aN ⟨u1,u2,rfl,⟨cells,hh,eK⟩,dI⟩
 obtain rfl:=kX eK
 replace hs:=hs.gJ aN hh;have ah:=aN.le;obtain⟨aT,bM⟩:=cC ah aT bM
 clear hh eK aN
 obtain⟨f,eH⟩: ∃f,f=mk x []:=⟨_,rfl⟩
 have GC:=Jm x
 rw[←eH]at hs GC dI
 have MR:=En (Cf f)
 obtain⟨l,hle⟩: ∃l,l=Eo (Cf f):=⟨_,rfl⟩
 rw[←hle]at hs MR
 obtain⟨ad,c8,rfl⟩:=(hs.own 0 _ rfl).1.form
 replace hs:St g g1 [rF ad c8 l]:=hs
 have C2:l≠[]:=fun e=>by rw[e]at MR;cases MR
 obtain⟨a1,n1,c1,a2,n2,c2,rfl,eg,_⟩:=id dI
 obtain⟨_,_,e⟩:=eg.isSlice;obtain⟨rfl,rfl,rfl⟩:=Value.slice.inj e;clear e
 refine Wp 3 rfl ?_
 refine an rfl rfl (aK T.ok rfl hs rfl rfl ?_);clear hs;rintro b7 g1 hs ah;obtain⟨aT,eg,dI,bM⟩:=dE ah aT eg dI bM
 refine Wp 1 rfl ?_
 refine bg rfl (aA T.ok 0 rfl hs rfl rfl rfl rfl rfl rfl rfl rfl rfl ?_);replace hs:=hs;rintro g1 hs ah;obtain⟨aT,eg,dI,bM⟩:=dE ah aT eg dI bM
 obtain⟨g2,bR,aU,ah,aL⟩:=hs.a_ (i:=0) rfl;replace hs:=aU;clear aU;rw[←bR];obtain⟨aT,eg,dI,bM⟩:=dE ah aT eg dI bM
 have aP:EP g2 b7 0 [.int .i64 f.ck,.int .i64 f.cu,.slice a1 f.steps.length c1,.slice a2 n2 c2]:=aL;clear aL
 replace hs:St g g2 [rF ad c8 l]:=hs
 apply cf;refine dx 2 [.z aP] (St.start _) rfl ?_
 refine an rfl rfl (ay Pu aI rfl rfl rfl rfl rfl (Es _ _ f cs 8 1 500 10 _ dI aT GC mG (by omega) ⟨by omega,by omega⟩ ⟨by omega,by omega⟩) ?_);rintro g1 _ aN dz;replace hs:=hs.call aN;have ah:=aN.le;obtain⟨aP,eg,dI,bM⟩:=dE ah aP eg dI bM
 clear aN aH aT
 have sP:=yk f 1 500 10 cs 8 []
 have YK:=AE f 1 500 10 cs 8 [] (fun i hi=>absurd hi (Nat.not_lt_zero _))
 generalize uU f 1 500 10 cs 8 []=w at*
 obtain⟨a4,c4,rfl⟩:=dz.isSlice
 have sP:w.length≤8:=by simpa using sP
 refine ba rfl ?_;apply aB;refine aX rfl ?_
 rcases List.eq_nil_or_concat w with rfl|⟨wi,y,rfl⟩
 ·refine aJ (b:=(([]:List bc).length:Int)==0) rfl rfl ?_
  refine aX rfl ?_
  exact aF (aV rfl rfl (hs.ret rfl))
 rw[List.concat_eq_append]at*
 have hlen:(wi++[y]).length=wi.length+1:=by simp
 refine aS (b:=((wi++[y]).length:Int)==0) (by rw[hlen];simp;omega) rfl ?_
 obtain⟨s,dm,Yf⟩:=Xu eH GC YK sP
 rw[←hle]at Yf
 have ic:dA (wi++[y]) (((wi++[y]).length:Int)-1)=some y:=by
  refine(if_neg (by rw[hlen];omega)).trans ?_
  rw[hlen,show(((wi.length+1:Nat):Int)-1).toNat=wi.length from by omega];simp
 generalize YR:wi++[y]=w at*
 apply aE;apply au;refine cP 4 rfl ?_
 rw[wr (by omega) (by omega)]
 refine an rfl rfl (aW T.ok rfl dz (y:=y) ic rfl rfl rfl rfl rfl rfl ?_)
 rintro b0 q0 ys aL rfl
 refine Wm 1 [.e aL 0] (St.start _) rfl ?_
 clear aL
 skip
 refine an rfl rfl (aK T.ok rfl hs rfl rfl ?_);clear hs;rintro b9 g1 hs ah;obtain⟨aP,dz,eg,dI,bM⟩:=kN ah aP dz eg dI bM
 skip
 refine bg rfl (aA T.ok 0 rfl hs rfl rfl rfl rfl rfl rfl rfl rfl rfl ?_);replace hs:=hs;rintro g1 hs ah;obtain⟨aP,dz,eg,dI,bM⟩:=kN ah aP dz eg dI bM
 apply cf;refine dx 1 [.o 0] hs rfl ?_
 refine an rfl rfl (aK T.ok rfl hs rfl rfl ?_);clear hs;rintro IL g1 hs ah;obtain⟨aP,dz,eg,dI,bM⟩:=kN ah aP dz eg dI bM
 skip
 refine bg rfl (aA T.ok 0 rfl hs rfl rfl rfl rfl rfl rfl rfl rfl rfl ?_);replace hs:=hs;rintro g1 hs ah;obtain⟨aP,dz,eg,dI,bM⟩:=kN ah aP dz eg dI bM
 apply cf;refine cP 1 rfl ?_
 refine bg rfl (aA T.ok 0 rfl hs rfl rfl rfl rfl rfl rfl rfl rfl rfl ?_);replace hs:=hs;rintro g1 hs ah;obtain⟨aP,dz,eg,dI,bM⟩:=kN ah aP dz eg dI bM
 apply cf;refine dx 4 [.o 1] hs rfl ?_
 refine bg rfl (aA T.ok 0 rfl hs rfl rfl rfl rfl rfl rfl rfl rfl rfl ?_);replace hs:=hs;rintro g1 hs ah;obtain⟨aP,dz,eg,dI,bM⟩:=kN ah aP dz eg dI bM
 apply cf;refine dx 4 [.o 1] hs rfl ?_
 refine bg rfl (aA T.ok 0 rfl hs rfl rfl rfl rfl rfl rfl rfl rfl rfl ?_);replace hs:=hs;rintro g1 hs ah;obtain⟨aP,dz,eg,dI,bM⟩:=kN ah aP dz eg dI bM
 replace hs:St g g1 [.obj IL (.cells (bW (jE y)).toArray 54 (0,0)),.obj b9 (.cells (bW y).toArray 54 (0,0)),rF ad c8 l]:=hs
 obtain⟨g2,bR,aU,ah,aL⟩:=hs.a_ (i:=0) rfl;replace hs:=aU;clear aU;rw[←bR];obtain⟨aP,dz,eg,dI,bM⟩:=kN ah aP dz eg dI bM
 have aC:EP g2 IL 0 (bW (jE y)):=aL;clear aL
 obtain⟨g2,bR,aU,ah,aL⟩:=hs.a_ (i:=0) rfl;replace hs:=aU;clear aU;rw[←bR];obtain⟨aC,aP,dz,eg,dI,bM⟩:=iu ah aC aP dz eg dI bM
 have dO:EP g2 b9 0 (bW y):=aL;clear aL
 replace hs:St g g2 [rF ad c8 l]:=hs
 have Tj:w≠[]:=fun e=>by rw[e]at hlen;simp at hlen
 have zH: ∀(t:List bc),t.length≤1→(l++w++t).length≤1000000:=fun t h=>by rw[List.length_append,List.length_append];omega
 have YA:=NH (l:=l++w++[jE y]) 100000 (zH _ (by simp))
 have YB:=NH (l:=l++w) 100000 (by have:=zH [] (by simp);rwa [List.append_nil]at this)
 generalize WV:ofM (l++w++[jE y]) 100000=b1 at Yf YA
 generalize Tp:ofM (l++w) 100000=b2 at Yf YB
 apply cf;apply aB
 apply lJ (eJ (.f Fact.any::fe (.f (Fact.rs [jE y]):: .f Fact.any:: .f (WE b1):: .f Fact.any::[]))) 8 [(6,52),(7,11)] [2,5,7] [[],[],[]] (Xw g ad c8 l w [jE y] 2 5 7 (List.replicate 11 (.slice none 0 0)) 35) (XQ C2) ⟨[],.inl ⟨rfl,rfl⟩,hs.dr⟩ (by kernel_rfl) ⟨cY,cr _,cY,UR _,cY,trivial⟩
 ·refine Um [[],[]] [] (by kernel_rfl) rfl ?_
  refine bC (il (js:=[(0,46),(1,47)]) (by kernel_rfl) rfl fun ρ g8 _ _ h3 hle hJ=>cI rfl (cI rfl (bd ⟨rfl,X' (by decide) (by decide) C2 Tj rfl rfl rfl h3 hJ (dz.mono ((G.bJ _).trans hle)) (by omega)⟩))) ?_
  refine Um [[]] [.z aC] (by kernel_rfl) rfl ?_
  refine bC (cH (js:=[(3,49)]) (by kernel_rfl) rfl fun ρ g8 _ _ hle hJ=>cI rfl (bd (az rfl (bj T.ok rfl (St.start g8) (vs:=[(0,fv (jE y))]) (cells:=fl [jE y]) rfl rfl rfl rfl rfl rfl (by decide) (by decide) (by kernel_rfl) rfl fun b g' iS _=>?_)))) ?_
  ·obtain⟨g2,e1,e2,e3⟩:=kj (α:=bc) iS (cO.fl _ _)
   exact⟨g2,e1,e2,e3⟩
  refine bC (il (js:=[(2,48),(4,50),(2,48)]) (by kernel_rfl) rfl fun ρ g8 _ _ h3 hle hJ=>cJ fun _ _=>cJ fun v5 h5=>fH rfl fun v2 _ r2=>bd ⟨rfl,Yc (by decide) (by decide) C2 (by simp) rfl rfl rfl r2 h3 hJ h5 (by show l.length+w.length+1≤_;omega)⟩) ?_
  refine bC (cH (js:=[(5,51),(5,51)]) (by kernel_rfl) rfl fun ρ g8 _ _ hle hJ=>cJ fun _ _=>fH rfl fun v5 _ r5=>bd (az rfl (ay Pv aI rfl rfl rfl rfl rfl (Qs v5 (l++w++[jE y]) 100000 g8 (Yo hJ r5) (zH _ (by simp))) fun g' u hf hv=>⟨g',rfl,hf,by rw[←WV];exact hv⟩))) ?_
  refine bC (il (js:=[]) (by kernel_rfl) rfl fun ρ g8 _ _ h3 hle hJ=>bd ⟨rfl,Xx C2 (by decide) (by decide) rfl rfl rfl h3 hJ⟩) vc
 intro ρ g9 hle hJ dh
 refine cJ fun v9 bI=>fH rfl fun v10 _ WB=>bd ?_
 replace bI:iI g9 v9 b1:=bI
 obtain⟨we,hs,Kt,rfl⟩:=Yd hJ (dh 2 rfl) (dh 5 rfl) WB
 have kz:Yu ad c8 l w g9:=⟨C2,Kt⟩
 have ah:=(G.bJ _).trans hle
 obtain⟨aC,aP,dO,dz,eg,dI⟩:=iu ah aC aP dO dz eg dI;replace bM:=bM.mono ah
 clear hle hJ dh WB ρ Kt
 obtain⟨sm,rfl,WD⟩:=id bI
 have pK:((List.range 11).map sm).all Value.oneCell'=true:=by
  rw[List.all_eq_true]
  intro u hu
  obtain⟨i,hi,rfl⟩:=List.mem_map.1 hu
  obtain⟨_,_,e⟩:=(WD i (List.mem_range.1 hi)).isSlice
  rw[e];rfl
 clear WD
 skip
 refine bg rfl (aA T.ok 0 rfl hs rfl rfl rfl rfl rfl rfl pK rfl rfl ?_);replace hs:=hs;rintro g1 hs ah;obtain⟨aC,aP,dO,dz,eg,dI⟩:=iu ah aC aP dO dz eg dI;obtain⟨bI,bM⟩:=cC ah bI bM;replace kz:=kz.mono ah
 obtain⟨g2,bR,aU,ah,aL⟩:=hs.a_ (i:=0) rfl;replace hs:=aU;clear aU;rw[←bR];obtain⟨aC,aP,dO,dz,eg,dI⟩:=iu ah aC aP dO dz eg dI;obtain⟨bI,bM⟩:=cC ah bI bM;replace kz:=kz.mono ah
 have mg:EP g2 we 0 ((List.range 11).map sm):=aL;clear aL pK
 replace hs:St g g2 []:=hs
 apply cf;refine dx 4 [.z aP,.z dO] (St.start _) rfl ?_
 refine an rfl rfl (aW T.ok rfl eg (y:=s) dm rfl rfl rfl rfl rfl rfl ?_)
 rintro b6 q6 ys aL eK
 obtain⟨a7,n7,c7,a8,n8,c9,rfl,_,_⟩:=eK
 refine Wm 1 [.e aL 0] (St.start _) rfl ?_
 clear aL
 skip
 refine an rfl rfl (aK T.ok rfl hs rfl rfl ?_);clear hs;rintro BO g1 hs ah;obtain⟨aC,aP,dO,mg,dz,dI⟩:=iu ah aC aP dO mg dz dI;obtain⟨bI,bM⟩:=cC ah bI bM;replace kz:=kz.mono ah
 skip
 refine bg rfl (aA T.ok 0 rfl hs rfl rfl rfl rfl rfl rfl rfl rfl rfl ?_);replace hs:=hs;rintro g1 hs ah;obtain⟨aC,aP,dO,mg,dz,dI⟩:=iu ah aC aP dO mg dz dI;obtain⟨bI,bM⟩:=cC ah bI bM;replace kz:=kz.mono ah
 obtain⟨g2,bR,aU,ah,aL⟩:=hs.a_ (i:=0) rfl;replace hs:=aU;clear aU;rw[←bR];obtain⟨aC,aP,dO,mg,dz,dI⟩:=iu ah aC aP dO mg dz dI;obtain⟨bI,bM⟩:=cC ah bI bM;replace kz:=kz.mono ah
 have vy:=aL;clear aL
 replace hs:St g g2 []:=hs
 apply cf;refine cP 1 rfl ?_
 refine Wm 1 [.z vy] (St.start _) rfl ?_
 clear vy
 refine A3 [.z dO] (St.start _) rfl ?_;apply c_
 refine Wm 1 [.z mg] (St.start _) rfl ?_
 skip
 refine an rfl rfl (ay Px aI rfl rfl rfl rfl rfl (Gu _ b1 _ bI YA bM) ?_);rintro g1 _ aN dj;replace hs:=hs.call aN;have ah:=aN.le;obtain⟨aC,aP,dO,dz,dI,bM⟩:=iu ah aC aP dO dz dI bM;replace kz:=kz.mono ah
 clear aN
 skip
 refine an rfl rfl (ay Yv aI rfl rfl rfl rfl rfl (Yk _ (zW b1) 900 _ dj) ?_);rintro g1 _ aN rfl;replace hs:=hs.call aN;have ah:=aN.le;obtain⟨aC,aP,dO,dz,dI,bM⟩:=iu ah aC aP dO dz dI bM;replace kz:=kz.mono ah
 clear aN dj bI mg
 refine ba rfl ?_;apply aB;refine aX rfl ?_
 cases Bc:s.back==y.step with
 |true=>
  refine aJ rfl rfl ?_
  refine aX rfl ?_
  exact aF (aV rfl rfl (hs.ret rfl))
 |false=>
  refine aS rfl rfl ?_
  obtain⟨YL,YM⟩:=Yf (by simpa using Bc)
  rw[List.contains_iff_mem.2 YL]
  apply aE;apply au;apply aB
  apply bO hs (eJ (.f (Fact.rs (l++w)):: .f (WE b2)::fj (.e (Gl (Cd (jE y))):: .e (.int .i64 (th b2 (Cd (jE y))))::[]))) 14 [(13,82)] (by kernel_rfl) rfl
  ·refine Dm [[],[]] [] hs (by kernel_rfl) rfl ?_
   refine aw (ak (js:=[(0,69),(1,70)]) (by kernel_rfl) fun gd hf=>ai rfl (ai rfl (aj (az rfl (Yp C2 Tj rfl rfl rfl (kz.kp.mono C2 ((G.bJ _).trans hf.le)) (dz.mono ((G.bJ _).trans hf.le)) (by omega)))))) ?_
   refine aw (ak (js:=[(2,71),(2,71)]) (by kernel_rfl) fun gd hf=>aY fun _ _=>aY fun v5 h5=>aj (az rfl (ay Pv aI rfl rfl rfl rfl rfl (Qs v5 (l++w) 100000 gd h5 (by have:=zH [] (by simp);rwa [List.append_nil]at this)) fun g' u hf hv=>⟨g',rfl,hf,by rw[←Tp];exact hv⟩))) ?_
   refine Dm [[],[4],[],[6],[],[8],[],[10]] [.z dO,.z aC,.z aC,.z aC] hs (by kernel_rfl) rfl ?_
   refine aw (ak (js:=[(5,74),(7,76),(9,78),(11,80)]) (by kernel_rfl) fun gd hf=>ai rfl (ai rfl (ai rfl (ai rfl (aj (az rfl (aQ T.ok rfl (vs:=[(0,.int .i64 1),(1,.int .i64 y.step),(2,.int .i64 (jE y).tool),(4,.int .i64 (jE y).rcp),(5,.int .i64 1),(6,.int .i64 (jE y).time)]) (cells:=pE (Cd (jE y))) rfl rfl rfl rfl [(0,1),(1,1),(2,1),(3,1),(4,1),(5,1),(6,1)] rfl (by kernel_rfl) ⟨gd,rfl,aZ.refl _,rfl⟩))))))) ?_
   refine aw (ak (js:=[(3,72),(12,81),(3,72)]) (by kernel_rfl) fun gd hf=>aY fun _ _=>ai rfl (aY fun v6 h6=>aj (az rfl (ay UU aI rfl rfl rfl rfl rfl (D_ v6 b2 (Cd (jE y)) gd h6 YB (bM.mono ((G.bJ _).trans hf.le))) fun g' u hf hv=>⟨g',rfl,hf,hv⟩)))) ?_
   exact fJ
  (repeat clear hs);intro g7 hs ah;obtain⟨aP,dI⟩:=cC ah aP dI
  rw[YM]
  refine ba rfl ?_;refine dx 1 [.z aP] (St.start _) rfl ?_
  refine an rfl rfl (ay KT aI rfl rfl rfl rfl rfl (A_ _ f _ dI) ?_);rintro g1 _ aN ⟨a9,n9,c9,rfl,YN⟩;replace hs:=hs.call aN;have ah:=aN.le
  clear aN YN
  refine ba rfl ?_;refine cP 7 rfl ?_
  by_cases Ba:(check f).1=0
  ·rw[if_pos Ba]
   have e:((check f).1 !=0)=false:=by simp[Ba]
   rw[e]
   refine ba rfl ?_
   exact aF (aV rfl rfl (hs.ret rfl))
  ·rw[if_neg Ba]
   have e:((check f).1 !=0)=true:=by simp[Ba]
   rw[e]
   refine ba rfl ?_
   exact aF (aV rfl rfl (hs.ret rfl))
end Go.Proofs.YtebobfdheanknaaGreatDoor
namespace Go.K
open Go
theorem CE{P:Program}{f:FuncId}{fn:Func}{s:ChangeSpec}{c:OpenClaim}
  (h1:(c.inPlace==P.inPlace f)=true) (h2:(c.unfollowed==P.unfollowed f)=true) (h3:(c.recurses==P.recurses f)=true) (h4:(c.named==P.varsNamed f)=true)
  (h5:(c.wf (OpenSpec.ofChange s)&&fn.params.all (P.readableRec ·)&&namedTie P c.named s.vars)=true) (a2:laidOutB P=true) (a3:mapsRowed P=true)
  (h6:(P.mayEnter&&(c.lifted==P.liftsFinal)&&(P.make==some c.make))=true)
  (h7:((c.plainKeys==P.plainKeys)&&P.stopsHeard&&(P.stops==[])&&(P.stopKnobs==[]))=true)
  (h8:((c.stops==[])&&(c.knobs==[])&&(c.maps==(fn.params.toList++s.plain.varTypes P).any (P.mapsRec ·))&&(c.ifaces==(fn.params.toList++s.plain.varTypes P).any (P.ifacesRec ·))&&(c.mapsOut==P.mapsAmong fn.resultTypes.toList)&&
   (c.loops==(fn.params.toList++s.plain.varTypes P).any (P.loopsFrom ·))&&(c.wideKeys==(fn.params.toList++s.plain.varTypes P++fn.resultTypes.toList).any (P.wideKeysFrom ·))&&
   s.vars.all (P.varReadable ·)&&fn.resultTypes.all (fun t=>P.readableRec t&&decide (t<P.types.size))&&(c.ifacesOut==fn.resultTypes.toList.any (P.ifacesRec ·))&&(c.loopsOut==fn.resultTypes.toList.any (P.loopsFrom ·))&&c.shortTexts.isNone&&(c.kinds==(if c.domain.isEmpty then []else fn.params.toList.map fun t=>match P.underlying t with|some (.int k)=>some k|_=>none))&&(c.pinned==c.pinnedBy)&&
   (c.veiled==(fn.params.toList++s.plain.varTypes P++fn.resultTypes.toList).any (P.veiledRec ·))&&c.veiledFits P fn.params.toList (fn.params.toList++s.plain.varTypes P++fn.resultTypes.toList))=true):joinedFacts P f fn s c=true:=by
 unfold joinedFacts
 simp only[Bool.and_eq_true]at h5 h6 h7 h8⊢
 obtain⟨⟨a1,a4⟩,a5⟩:=h5
 obtain⟨⟨b1,b2⟩,b3⟩:=h6
 obtain⟨⟨⟨d1,d2⟩,d3⟩,d4⟩:=h7
 obtain⟨⟨⟨⟨⟨⟨⟨⟨⟨⟨⟨⟨⟨⟨⟨e1,e2⟩,e3⟩,e4⟩,e5⟩,e6⟩,e7⟩,e8⟩,e9⟩,Vp⟩,Vq⟩,Vr⟩,Vs⟩,Vt⟩,Vu⟩,Vv⟩:=h8
 exact⟨⟨⟨⟨⟨⟨⟨⟨⟨⟨⟨⟨⟨⟨⟨⟨⟨⟨⟨⟨⟨⟨⟨⟨⟨⟨⟨⟨⟨⟨⟨a1,a2⟩,a3⟩,a4⟩,a5⟩,e1⟩,d3⟩,e2⟩,d4⟩,h1⟩,h2⟩,h3⟩,h4⟩,e3⟩,e4⟩,e5⟩,e6⟩,e7⟩,e8⟩,e9⟩,Vp⟩,Vq⟩,d1⟩,Vr⟩,d2⟩,b1⟩,b2⟩,b3⟩,Vs⟩,Vt⟩,Vu⟩,Vv⟩
end Go.K
