/- Parts of the proof, from: Pieces between separators, numbers in lists and ranges: in plain Lean. -/
import Derived.Test.YtebobfdheanknaaGreatDoorYe
import Derived.Lib.SplitLaws
import Derived.Lib.CutLaws
import Derived.Test.YtebobfdheanknaaGreatDoorYd
import Derived.Lib.AppendIntMem
import Derived.Test.YtebobfdheanknaaGreatDoorShelfP
import Derived.Test.YtebobfdheanknaaGreatDoorYc
namespace Go.Proofs.YtebobfdheanknaaGreatDoor
open Go
def cz(c:UInt8):List UInt8→List (List UInt8)
 |[]=>[[]]
 |b::t=>if b=c then []::cz c t else
  match cz c t with
  |[]=>[[b]]
  |x::r=>(b::x)::r
def gw(c:UInt8):List (List UInt8)→List UInt8
 |[]=>[]
 |[x]=>x
 |x::y::r=>x++c::gw c (y::r)
theorem u6(c:UInt8)(l:List UInt8):cz c l≠[]:=by
 cases l with
 |nil=>simp[cz]
 |cons b t=>
  unfold cz
  split
  ·simp
  ·split<;>simp
theorem Xj(c:UInt8)(b:UInt8)(x:List UInt8)(r:List (List UInt8)):gw c ((b::x)::r)=b::gw c (x::r):=by
 cases r<;>rfl
theorem Ie(c:UInt8){ps:List (List UInt8)}(h:ps≠[]):gw c ([]::ps)=c::gw c ps:=by
 cases ps with
 |nil=>exact absurd rfl h
 |cons x r=>rfl
theorem Xk(c:UInt8)(l:List UInt8):gw c (cz c l)=l:=by
 induction l with
 |nil=>rfl
 |cons b t ih=>
  unfold cz
  split
  ·rename_i h
   rw[Ie c (u6 c t),ih,h]
  ·split
   ·rename_i h;exact absurd h (u6 c t)
   ·rename_i x r h
    rw[Xj,←h,ih]
theorem XS(c:UInt8)(l:List UInt8): ∀p∈cz c l,c∉p:=by
 induction l with
 |nil=>intro p hp;simp[cz]at hp;subst hp;simp
 |cons b t ih=>
  intro p hp
  unfold cz at hp
  split at hp
  ·rcases List.mem_cons.1 hp with rfl|hp
   ·simp
   ·exact ih p hp
  ·rename_i hb
   split at hp
   ·rename_i h;exact absurd h (u6 c t)
   ·rename_i x r h
    rcases List.mem_cons.1 hp with rfl|hp
    ·intro hc
     rcases List.mem_cons.1 hc with hc|hc
     ·exact hb hc.symm
     ·exact ih x (by rw[h];simp) hc
    ·exact ih p (by rw[h];simp[hp])
theorem F2(c:UInt8): ∀x:List UInt8,c∉x→cz c x=[x]
 |[],_=>rfl
 |b::t,h=>by
  rw[List.mem_cons,not_or]at h
  unfold cz
  rw[if_neg (fun e=>h.1 e.symm),F2 c t h.2]
theorem Ek(c:UInt8): ∀(x r:List UInt8),c∉x→cz c (x++c::r)=x::cz c r
 |[],r,_=>by show cz c (c::r)=_;rw[cz,if_pos rfl]
 |b::t,r,h=>by
  rw[List.mem_cons,not_or]at h
  show cz c (b::(t++c::r))=_
  rw[cz,if_neg (fun e=>h.1 e.symm),Ek c t r h.2]
theorem Ig(c:UInt8): ∀ps:List (List UInt8),ps≠[]→(∀p∈ps,c∉p)→cz c (gw c ps)=ps
 |[],h,_=>absurd rfl h
 |[x],_,h=>F2 c x (h x (by simp))
 |x::y::r,_,h=>by
  show cz c (x++c::gw c (y::r))=_
  rw[Ek c x _ (h x (by simp)),Ig c (y::r) (by simp) fun p hp=>h p (by simp[hp])]
theorem fr(c:UInt8){l:List UInt8}{ps:List (List UInt8)}:cz c l=ps↔l=gw c ps∧ps≠[]∧ ∀p∈ps,c∉p:=by
 constructor
 ·rintro rfl
  exact⟨(Xk c l).symm,u6 c l,XS c l⟩
 ·rintro⟨rfl,h1,h2⟩
  exact Ig c ps h1 h2
theorem index_one(c b:UInt8)(l:List UInt8):Lib.index (b::l) [c]=if c=b then 0 else if Lib.index l [c]= -1 then -1 else Lib.index l [c]+1:=by
 by_cases h:c=b
 ·subst h;rw[Lib.index];simp[List.isPrefixOf]
 ·have hp:([c]:List UInt8).isPrefixOf (b::l)=false:=by simp[List.isPrefixOf,h]
  rw[Lib.index,hp,if_neg h]
  by_cases h2:Lib.index l [c]= -1
  ·simp[h2]
  ·simp[h2]
theorem vQ(c:UInt8): ∀s:List UInt8,Lib.splitK [c] 0 (s.count c) s=cz c s
 |[]=>rfl
 |b::l=>by
  have ih:=vQ c l
  by_cases h:b=c
  ·subst h
   rw[List.count_cons_self,Lib.splitK,cz,if_pos rfl]
   have h0:Lib.index (b::l) [b]=0:=by rw[index_one,if_pos rfl]
   rw[if_neg (by rw[h0];decide),h0]
   exact congrArg _ ih
  ·rw[List.count_cons_of_ne (by simpa using h),cz,if_neg h,←ih]
   cases hk:l.count c with
   |zero=>rfl
   |succ k=>
    have fu:Lib.index l [c]≠ -1:=by
     intro e
     have h1:=Lib.count_miss e
     rw[Lib.count_one,hk]at h1
     omega
    have JX:=Lib.index_ge l [c]
    obtain⟨j,hj⟩: ∃j:Nat,Lib.index l [c]=j:=⟨(Lib.index l [c]).toNat,by omega⟩
    have hb:Lib.index (b::l) [c]=((j+1:Nat):Int):=by
     rw[index_one,if_neg (fun e=>h e.symm),if_neg fu,hj];omega
    unfold Lib.splitK
    rw[hb,hj,if_neg (by simp;omega),if_neg (by simp)]
    simp
theorem yT(c:UInt8)(s:List UInt8):Lib.split s [c]=cz c s:=by
 unfold Lib.split
 rw[Lib.count_one];exact vQ c s
def j5{α:Type}:List (Option α)→Option (List α)
 |[]=>some []
 |none::_=>none
 |some x::r=>(j5 r).map fun l=>x::l
theorem nA{α:Type}: ∀{l:List (Option α)} {xs:List α},j5 l=some xs↔l=xs.map some
 |[],xs=>by cases xs<;>simp[j5]
 |none::r,xs=>by cases xs<;>simp[j5]
 |some x::r,xs=>by
  have ih:=fun ys:List α=>nA (l:=r) (xs:=ys)
  unfold j5
  cases xs with
  |nil=>simp
  |cons y ys=>
   rw[Option.map_eq_some_iff]
   constructor
   ·rintro⟨a,h1,h2⟩
    obtain⟨rfl,rfl⟩:=List.cons.inj h2
    rw[(ih a).1 h1];rfl
   ·intro h
    simp only[List.map_cons,List.cons.injEq,Option.some.injEq]at h
    exact⟨ys,(ih ys).2 h.2,by rw[h.1]⟩
def ou(s:List UInt8):Option (List Nat):=j5 ((cz 44 s).map fN)
theorem Xl{c:UInt8}(h:mD c=false)(n:Nat):c∉dec n:=fun hc=>by rw[BC n c hc]at h;cases h
theorem Er{s:List UInt8}{l:List Nat}:ou s=some l↔s=gw 44 (l.map dec)∧l≠[]∧ ∀n∈l,n≤1000000:=by
 unfold ou
 rw[nA]
 constructor
 ·intro h
  have dh: ∀(ps:List (List UInt8)) (l:List Nat),ps.map fN=l.map some→ps=l.map dec∧ ∀n∈l,n≤1000000:=by
   intro ps
   induction ps with
   |nil=>intro l h;cases l<;>simp at h;exact⟨rfl,by simp⟩
   |cons p ps ih=>
    intro l h
    cases l with
    |nil=>simp at h
    |cons n l=>
     rw[List.map_cons,List.map_cons]at h
     obtain⟨h1,h2⟩:=List.cons.inj h
     obtain⟨e1,e2⟩:=yS.1 h1
     obtain⟨e3,e4⟩:=ih l h2
     exact⟨by rw[e1,e3];rfl,fun m hm=>by rcases List.mem_cons.1 hm with rfl|hm;exact e2;exact e4 m hm⟩
  obtain⟨h1,h2⟩:=dh _ _ h
  obtain⟨h3,h4,_⟩:=(fr 44).1 h1
  exact⟨h3,fun e=>by subst e;exact h4 rfl,h2⟩
 ·rintro⟨h1,h2,h3⟩
  have:cz 44 s=l.map dec:=(fr 44).2 ⟨h1,by simpa using h2,fun p hp=>by
   obtain⟨n,_,rfl⟩:=List.mem_map.1 hp
   exact Xl rfl n⟩
  rw[this,List.map_map]
  exact List.map_congr_left fun n hn=>E_ (h3 n hn)
def qf(s:List UInt8):Option (Nat×Nat):=
 if Lib.index s [46,46]<0 then none
 else match fN (s.take (Lib.index s [46,46]).toNat),fN (s.drop ((Lib.index s [46,46]).toNat+2))with
  |some a,some b=>some (a,b)
  |_,_=>none
theorem Xm(a:Nat)(r:List UInt8):Lib.index (dec a++46::46::r) [46,46]=((dec a).length:Int):=by
 refine Lib.index_first (by simp) ?_ fun j hj=>?_
 ·unfold Lib.occAt
  rw[List.drop_left];simp[List.isPrefixOf]
 ·unfold Lib.occAt
  rw[List.drop_append_of_le_length (by omega),List.drop_eq_getElem_cons hj,List.cons_append]
  have hd:=BC a _ (List.getElem_mem hj)
  have fu:((46:UInt8)==(dec a)[j])=false:=by
   rw[beq_eq_false_iff_ne]
   intro e
   rw[←e]at hd
   cases hd
  simp[List.isPrefixOf,fu]
theorem yl{s:List UInt8}{a b:Nat}:qf s=some (a,b)↔s=dec a++46::46::dec b∧a≤1000000∧b≤1000000:=by
 unfold qf
 constructor
 ·intro h
  split at h
  ·cases h
  ·rename_i h0
   rcases Lib.index_spec s [46,46]with⟨h1,_⟩|⟨i,h1,h2,h3,_⟩
   ·omega
   ·rw[h1]at h
    simp only[Int.toNat_natCast]at h
    split at h
    ·rename_i x y h4 h5
     simp only[Option.some.injEq,Prod.mk.injEq]at h
     obtain⟨rfl,rfl⟩:=h
     obtain⟨e1,l1⟩:=yS.1 h4
     obtain⟨e2,l2⟩:=yS.1 h5
     refine⟨?_,l1,l2⟩
     unfold Lib.occAt at h3
     have h6:s.drop i=46::46::s.drop (i+2):=by
      rw[←List.drop_drop]
      cases hd:s.drop i with
      |nil=>rw[hd]at h3;cases h3
      |cons p t=>
       cases t with
       |nil=>rw[hd]at h3;simp[List.isPrefixOf]at h3
       |cons q t=>
        rw[hd]at h3
        simp only[List.isPrefixOf,Bool.and_eq_true,beq_iff_eq,and_true]at h3
        obtain⟨rfl,rfl⟩:=h3
        rfl
     rw[←e1,←e2,←h6,List.take_append_drop]
    ·cases h
 ·rintro⟨rfl,h1,h2⟩
  rw[Xm,if_neg (by omega),Int.toNat_natCast,List.take_left]
  have h3:(dec a++46::46::dec b).drop ((dec a).length+2)=dec b:=by
   rw[←List.drop_drop,List.drop_left];rfl
  rw[h3,E_ h1,E_ h2]
end Go.Proofs.YtebobfdheanknaaGreatDoor
namespace Go.Proofs.YtebobfdheanknaaGreatDoor
open Go Go.K Go.RowKit
set_option maxRecDepth 10000
attribute [local irreducible] W WL cT cn bX bA bB bD cW cG
set_option maxHeartbeats 1000000
theorem JH:Tryz.prog.globalNamed "internal/strconv.uint64pow10" =some 3:=by kernel_rfl
structure iw(g:G):Prop where
 len: ∃m,EP g 0 0 [.int .i64 m]
 VM:g.im 3∧Lib.TabIs Tryz.prog g.w "internal/strconv.uint64pow10" .u64 Lib.pow10Tab
 VN: ∃ev,EP g 4 0 [ev]∧(ev= .nilIface∨ ∃te pe,ev= .iface te pe)
 VO: ∃ev,EP g 5 0 [ev]∧(ev= .nilIface∨ ∃te pe,ev= .iface te pe)
theorem iw.mono{g g':G}(h:iw g)(hle:g.le g'):iw g':=by
 obtain⟨⟨m,h1⟩,⟨h2,h3⟩,⟨e1,h4,h5⟩,⟨e2,h6,h7⟩⟩:=h
 refine⟨⟨m,h1.mono hle⟩,⟨(hle _ h2).1,?_⟩,⟨e1,h4.mono hle,h5⟩,⟨e2,h6.mono hle,h7⟩⟩
 unfold Lib.TabIs World.var? at h3⊢
 rw[JH]at h3⊢
 simp only[Option.bind_some]at h3⊢
 rw[(hle _ h2).2]
 exact h3
instance{g g':G}:Mn (iw g) g g' (iw g'):=⟨fun h a=>a.mono h⟩
theorem sC{g:G}{b:Nat}{v:Value}(h:EP g b 0 [v]):g.w.cell? ⟨b,0,none⟩=some v:=h.2 0 v rfl
def mH(n:Int):Prop:=-9223372036854775808≤n∧n≤9223372036854775807
theorem Fl(n:Int)(g:G)(hn:mH n)(hF:iw g):CallsIn Wd 0 Tryz.prog 242 #[.int .i64 n] g.w (cR g fun _ r=>r= .string (bs (Lib.itoa n))):=by
 unfold mH at hn
 refine j1 ((Tryz.strconv_Itoa n hn.1 hn.2 g.w hF.VM.2).mono ?_) fun _ _=>rfl
 rintro e w' ⟨rfl,k,os,rfl⟩
 exact⟨rfl,Lib.below_grow _ _ (Nat.le_refl _) k os⟩
theorem y_(s p:List UInt8)(g:G):CallsIn Wd 0 Tryz.prog 64 #[.string (bs s),.string (bs p)] g.w (cR g fun _ r=>r= .bool (p.isPrefixOf s)):=by
 refine j1 ((Tryz.strings_HasPrefix (bs s) (bs p) g.w).mono ?_) fun _ _=>rfl
 rintro e w' ⟨rfl,rfl⟩
 exact⟨rfl,Below.refl _ _⟩
theorem OP(s p:List UInt8)(g:G)(hs:s.length≤1000000)(hF:iw g):CallsIn Wd 0 Tryz.prog 285 #[.string (bs s),.string (bs p)] g.w (cR g fun _ r=>r= .tuple #[.string (bs (Lib.cut s p).1),.string (bs (Lib.cut s p).2.1),.bool (Lib.cut s p).2.2]):=by
 obtain⟨m,hm⟩:=hF.len
 refine j1 ((Tryz.strings_Cut (bs s) (bs p) m g.w (by rw[ec];omega) (sC hm)).mono ?_) fun _ _=>rfl
 rintro e w' ⟨rfl,n,rfl⟩
 exact⟨rfl,below_drewN (Below.refl _ _) n⟩
def BN(s:List UInt8)(r:Value):Prop:=∃v err,r= .tuple #[.int .i64 v,err]∧match Lib.atoiAll s with
 | .ok x=>v=x∧err= .nilIface
 |_=> ∃t p,err= .iface t p
theorem Kh(s:List UInt8)(g:G)(hs:s.length≤1000000)(hF:iw g):CallsIn Wd 0 Tryz.prog 287 #[.string (bs s)] g.w (cR g fun _ r=>BN s r):=by
 have cS:(bs s).size≤281474976710656:=by rw[ec];omega
 unfold BN
 cases ha:Lib.atoiAll s with
 |ok x=>
  refine callsIn_wide.2 ((Tryz.strconv_Atoi_ok (bs s) (by omega) x ha g.w).mono ?_)
  rintro e w' ⟨rfl,hw⟩
  refine cR.below ?_ fun _ _ _=>⟨x,_,rfl,rfl,rfl⟩
  rcases hw with rfl|⟨t,rfl⟩
  ·exact Below.refl _ _
  ·exact Lib.bytesWorld_below _ _ _
 |range=>
  obtain⟨ev,h1,h2⟩:=hF.VO
  refine callsIn_wide.2 ((Tryz.strconv_Atoi_range (bs s) cS ha ev g.w (sC h1) h2).mono ?_)
  rintro e w' ⟨N,rfl,_,_,hb⟩
  exact cR.below hb fun _ _ _=>⟨_,_,rfl,_,_,rfl⟩
 |_=>
  obtain⟨ev,h1,h2⟩:=hF.VN
  refine callsIn_wide.2 ((Any.strconv_Atoi_syntax Tryz.laysC172 (bs s) cS ha ev g.w (sC h1) h2).mono ?_)
  rintro e w' ⟨N,rfl,_,_,hb⟩
  exact cR.below hb fun _ _ _=>⟨_,_,rfl,_,_,rfl⟩
theorem cO.strs(g:G): ∀l:List (List UInt8),cO g (l.map fun s=>Value.string (bs s)) (l.map w_.mk)
 |[]=>rfl
 |s::l=>⟨[.string (bs s)],_,rfl,rfl,cO.strs g l⟩
theorem xz(s:List UInt8)(c:UInt8)(g:G)(hs:s.length≤1000000)(hF:iw g):CallsIn Wd 0 Tryz.prog 63 #[.string (bs s),.string (bs [c])] g.w (cR g (jZ 9 g ((cz c s).map w_.mk))):=by
 obtain⟨m,hm⟩:=hF.len
 refine callsIn_wide.2 ((Tryz.strings_Split (bs s) (bs [c]) m g.w (by rw[ec];omega) (sC hm) (by rw[ec];exact Nat.le_refl 1)).mono ?_)
 have II:(Lib.splitB (bs [c]) 0 (Lib.countB (bs s) (bs [c])) (bs s)).map (fun b=>b.data.toList)=cz c s:=by
  rw[Lib.splitB_data]
  exact yT c s
 have hlen:=Lib.splitB_all (bs [c]) (by rw[ec];exact Nat.le_refl 1) 0 _ (bs s) rfl
 have hn:Lib.countB (bs s) (bs [c])+1=(cz c s).length:=by rw[←II,List.length_map,hlen]
 have Ki:(Lib.splitB (bs [c]) 0 (Lib.countB (bs s) (bs [c])) (bs s)).map Value.string=(cz c s).map fun x=>Value.string (bs x):=by
  rw[←II,List.map_map]
  exact List.map_congr_left fun b _=>congrArg Value.string (Im b)
 rw[hn,Ki]
 rintro e w' ⟨rfl,rfl⟩
 let cells:=(cz c s).map fun x=>Value.string (bs x)
 let W:=g.w.alloc (.cells cells.toArray 9)
 have OQ:Below g.w.heap.size g.w W:=(Below.refl _ _).alloc (Nat.le_refl _) _
 let g':G:=⟨W,g.im,fun b h=>Nat.lt_of_lt_of_le (g.lt b h) OQ.size⟩
 have zQ:W.heap[g.w.heap.size]? =some (.cells cells.toArray 9 (0,0)):=by
  show(g.w.heap.push _)[g.w.heap.size]? =_
  rw[Array.getElem?_push_size]
 have fY:cells.length=(cz c s).length:=List.length_map _
 refine⟨g',_,rfl,⟨OQ,fun _ _=>Iff.rfl⟩,rfl,cells,⟨⟨?_,.inr ⟨g.w.heap.size,0,_,cells.toArray,?_,Nat.le_refl _,fF.plain zQ,Nat.le_refl _,?_,?_,?_⟩⟩,?_⟩,cO.strs _ _⟩
 ·rw[fY,List.length_map];exact(Nat.mul_one _).symm
 ·rw[List.length_map]
 ·unfold maxLen
  rw[List.length_map,←hn]
  have:=Lib.countB_le (bs [c]) (by rw[ec];exact Nat.le_refl 1) (bs s).size (bs s) (Nat.le_refl _)
  rw[ec]at this
  omega
 ·rw[List.size_toArray,fY,List.length_map,Nat.zero_add];exact(Nat.mul_one _).symm
 ·rw[List.drop_zero,List.length_map]
  show cells.take _=cells
  rw[List.take_of_length_le (by rw[fY];exact Nat.le_of_eq (Nat.mul_one _).symm)]
 ·intro b hb oS
  have:b=g.w.heap.size:=by
   obtain⟨a,n,c',e1,_,e2⟩:=kF hb
   simp only[Value.slice.injEq,Option.some.injEq]at e1
   rw[←e2,←e1.1]
  have:=g.lt b oS
  omega
end Go.Proofs.YtebobfdheanknaaGreatDoor
namespace Go.K
open Go Go.RowKit
variable {F:Fence} {P:Program} {N:Nat} {ds:List Deferred} {l l':Env} {a:Act} {w:World} {Q:Exit→Act→World→Prop} {ops:Array Oper} {os:List Oper} {o:Oper}
variable {g0 g g1:G} {L:List cV} {K:Value→World→Prop} {R:G→Value→Prop} {ch:List PanicEntry} {b:Prop}
def uJ(g:G)(R:G→Value→Prop)(ch:List PanicEntry)(b:Prop):Ending→World→Prop:=fun e w'=>cR g R e w'∨(b∧eW g ch (fun g'=>aZ g g') e w')
theorem uJ.ok{e:Ending}{w':World}(h:cR g R e w'):uJ g R ch b e w':=.inl h
theorem uJ.sd(hb:b)(hf:aZ g g1):uJ g R ch b (.panicked ch) g1.w:=.inr ⟨hb,g1,rfl,rfl,hf.le,hf⟩
theorem cd{f:FuncId}(hc:ag P f)(hF: ∀f,F.fn f)(tQ:F.depth=none){x:Operand}{args:Array Operand}{ts:Array TypeId}{first captured:Array Value}{vs S4:List Value}
  (ho:o.op= .call {callee:=.value x,args,argTypes:=ts}) (hx:ev l x=some (.func (.func f) first captured)) (ha:rP l args.toList=some vs) (has:first.toList++vs++captured.toList=S4)
  (h:CallsIn F 0 P f S4.toArray g.w (uJ g R ch b)) (k: ∀g' v,aZ g g'→R g' v→K v g'.w) (kb:b→ ∀g',aZ g g'→ ∀a,Fr N ds l a→Q (.panic ch) a g'.w):cT F P N ds o l g.w Q K:=
 nT hc hF tQ ho hx ha has (CallsIn.mono h fun _ _ hh=>by
  rcases hh with⟨g',v,hw,hf,he,hr⟩|⟨hb,g',hw,he,_,hf⟩
  ·exact .inl ⟨v,he,hw▸k g' v hf hr⟩
  ·exact .inr ⟨ch,he,hw▸kb hb g' hf⟩)
def G7:TypeDesc→Bool
 | .interface .. =>false
 |_=>true
theorem G8{t:TypeId}{d:TypeDesc}{x:Operand}{v:Value}(ho:o.op= .makeInterface t x)(hd:P.underlying t=some d)(hn:G7 d=true)(hx:ev l x=some v)(k:K (.iface t v) w):cT F P N ds o l w Q K:=
 bG (fun c=>⟨by rw[ho];simp,by rw[ho];simp⟩) (fun a ha=>by
  cases d<;>first|(simp[G7]at hn;done)|simp[execOp,ho,ha.ev hx,Instr.makeInterface,run_underlying hd]) k
def An:Value→Option Bool
 | .nilIface=>some true
 | .iface _ _=>some false
 |_=>none
theorem nt{t t':TypeId}{d:TypeDesc}{x:Operand}{v:Value}{b neg:Bool}(ho:o.op= .binOp (if neg then .neq else .eql) t x (.const .nilIface) t')(hd:P.underlying t=some d)(hn:G7 d=false)(hx:ev l x=some v)(hb:An v=some b)(k:K (.bool (neg !=b)) w):cT F P N ds o l w Q K:=
 bG (fun c=>⟨by rw[ho];simp,by rw[ho];simp⟩) (fun a ha=>by
  have hq:(Op.equal t v .nilIface).run P w= .ok b w:=by
   show(Op.equalIn (9999+1) t v .nilIface).run P w=_
   unfold Op.equalIn
   cases d<;>first|(simp[G7]at hn;done)|(cases v<;>simp[An]at hb<;>subst hb<;>simp[run_underlying hd])
  have hg: ∀op,(eqGuard op t x (.const .nilIface) v .nilIface).run P w= .ok () w:=fun op=>by
   unfold eqGuard
   cases v<;>simp[An]at hb<;>(split<;>simp)
  have he:a.eval (.const .nilIface)= .nilIface:=rfl
  cases neg<;>simp[execOp,ho,ha.ev hx,he,hg,binOp,hq]) k
end Go.K
namespace Go.Proofs.YtebobfdheanknaaGreatDoor
open Go
def nB:List UInt8:=[115,116,101,112]
def lf:List UInt8:=[114,101,99,105,112,101]
def nC:List UInt8:=[116,111,111,108,115]
def rA:List UInt8:=[116,105,109,101]
def rB:List UInt8:=[110,101,120,116]
def qg:List UInt8:=[98,97,99,107]
def mx:List UInt8:=[108,105,109,105,116]
def gY:List UInt8:=[119,105,110,100,111,119]
def nD:List UInt8:=[109,111,118,101]
def mI(n:Int):Prop:=0≤n∧n≤1000000
def cX(n:Int):List UInt8:=dec n.toNat
def jv(l:List Int):List UInt8:=if l=[]then [45]else gw 44 (l.map cX)
def nE(a b:Int):List UInt8:=cX a++46::46::cX b
def ID(i:Nat)(s:Step):List (List UInt8):=
 [nB,dec i,lf,cX s.dD,nC,jv s.dB,rA,nE s.min s.max,rB,jv s.next]++if 0≤s.back then [qg,cX s.back,mx,cX s.dF]else []
def BD(w:cj):List (List UInt8):=[gY,cX w.src,cX w.dst,cX w.dF]
def IE(a b:Int):List (List UInt8):=[nD,nE a b]
def jh(i:Nat)(s:Step):List UInt8:=gw 32 (ID i s)
def gi(w:cj):List UInt8:=gw 32 (BD w)
def kH(a b:Int):List UInt8:=gw 32 (IE a b)
def ints(l:List Nat):List Int:=l.map fun n:Nat=>(n:Int)
def uo(w:List UInt8):Option (List Nat):=if w=[45]then some []else ou w
def ji(a3 a5 a7 a9:List UInt8)(bk:Option (Int×Int)):Option Step:=
 match fN a3,ou a5,qf a7,uo a9,bk with
 |some r,some t,some mm,some nx,some bl=>some ⟨r,ints t,mm.1,mm.2,ints nx,bl.1,bl.2⟩
 |_,_,_,_,_=>none
def vR(x y:List UInt8):Option (Int×Int):=
 match fN x,fN y with
 |some a,some b=>some (a,b)
 |_,_=>none
def lC(i:Nat)(a0 a1 a2 a4 a6 a8:List UInt8):Bool:=a0==nB&&a1==dec i&&a2==lf&&a4==nC&&a6==rA&&a8==rB
def eZ(i:Nat)(line:List UInt8):Option Step:=
 match cz 32 line with
 |[a0,a1,a2,a3,a4,a5,a6,a7,a8,a9]=>if lC i a0 a1 a2 a4 a6 a8=true then ji a3 a5 a7 a9 (some (-1,0))else none
 |[a0,a1,a2,a3,a4,a5,a6,a7,a8,a9,b0,b1,b2,b3]=>if lC i a0 a1 a2 a4 a6 a8=true∧b0=qg∧b2=mx then ji a3 a5 a7 a9 (vR b1 b3)else none
 |_=>none
def lg(line:List UInt8):Option cj:=
 match cz 32 line with
 |[a0,a1,a2,a3]=>if a0=gY then
   match fN a1,fN a2,fN a3 with
   |some x,some y,some z=>some ⟨x,y,z⟩
   |_,_,_=>none
  else none
 |_=>none
def uq(line:List UInt8):Option (Int×Int):=
 match cz 32 line with
 |[a0,a1]=>if a0=nD then(qf a1).map fun p=>((p.1:Int),(p.2:Int))else none
 |_=>none
structure OB(s:Step):Prop where
 dD:mI s.dD
 dB:s.dB≠[]
 Av: ∀n∈s.dB,mI n
 min:mI s.min
 max:mI s.max
 next: ∀n∈s.next,mI n
 back:(s.back= -1∧s.dF=0)∨(mI s.back∧mI s.dF)
theorem XT(l:List Nat):(ints l).map cX=l.map dec:=by
 unfold ints;rw[List.map_map];rfl
theorem WJ{l:List Nat}(h: ∀n∈l,n≤1000000): ∀n∈ints l,mI n:=by
 intro n hn
 obtain⟨m,hm,rfl⟩:=List.mem_map.1 hn
 have:=h m hm
 exact⟨by omega,by omega⟩
theorem Xs{l:List Nat}:ints l=[]↔l=[]:=by unfold ints;exact List.map_eq_nil_iff
theorem Uq{l:List Int}(h: ∀n∈l,mI n):ints (l.map Int.toNat)=l:=by
 unfold ints
 rw[List.map_map]
 conv=>rhs;rw[←List.map_id l]
 exact List.map_congr_left fun n hn=>by have:=(h n hn).1;show((n.toNat:Nat):Int)=n;omega
theorem Ce{l:List Nat}(h:l≠[]):jv (ints l)=gw 44 (l.map dec):=by
 unfold jv
 rw[if_neg (fun e=>h (Xs.1 e)),XT]
theorem Xy{c:UInt8}{x:List UInt8}{r:List (List UInt8)}(h:x≠[]):(gw c (x::r)).head? =x.head?:=by
 cases x with
 |nil=>exact absurd rfl h
 |cons b t=>cases r<;>rfl
theorem XU(l:List Nat)(h:l≠[]):gw 44 (l.map dec)≠[45]:=by
 cases l with
 |nil=>exact absurd rfl h
 |cons n l=>
  intro e
  have:=Xy (c:=44) (r:=l.map dec) (uk n)
  rw[List.map_cons]at e
  rw[e]at this
  cases hd:dec n with
  |nil=>exact uk n hd
  |cons b t=>
   rw[hd]at this
   simp only[List.head?_cons,Option.some.injEq]at this
   have hb:=BC n b (by rw[hd];simp)
   rw[←this]at hb
   cases hb
theorem NM{w:List UInt8}{l:List Nat}:uo w=some l↔w=jv (ints l)∧ ∀n∈l,n≤1000000:=by
 unfold uo
 by_cases hw:w=[45]
 ·rw[if_pos hw]
  constructor
  ·intro h
   obtain rfl:=Option.some.inj h
   exact⟨by rw[hw];rfl,by simp⟩
  ·rintro⟨h,_⟩
   cases l with
   |nil=>rfl
   |cons n l=>
    rw[Ce (by simp),hw]at h
    exact absurd h.symm (XU (n::l) (by simp))
 ·rw[if_neg hw,Er]
  constructor
  ·rintro⟨h1,h2,h3⟩
   exact⟨by rw[Ce h2];exact h1,h3⟩
  ·rintro⟨h1,h3⟩
   have hl:l≠[]:=fun e=>by subst e;exact hw (by rw[h1];rfl)
   exact⟨by rw[←Ce hl];exact h1,hl,h3⟩
theorem ym{a3 a5 a7 a9:List UInt8}{bk:Option (Int×Int)}{s:Step}:ji a3 a5 a7 a9 bk=some s↔
  a3=cX s.dD∧a5=jv s.dB∧a7=nE s.min s.max∧a9=jv s.next∧bk=some (s.back,s.dF)∧mI s.dD∧s.dB≠[]∧(∀n∈s.dB,mI n)∧mI s.min∧mI s.max∧ ∀n∈s.next,mI n:=by
 unfold ji
 constructor
 ·intro h
  split at h
  ·rename_i r t mm nx bl h1 h2 h3 h4
   obtain rfl:=Option.some.inj h
   obtain⟨e1,l1⟩:=yS.1 h1
   obtain⟨e2,n2,l2⟩:=Er.1 h2
   obtain⟨e3,l3,l4⟩:=yl.1 h3
   obtain⟨e4,l5⟩:=NM.1 h4
   refine⟨?_,?_,?_,e4,rfl,⟨Int.natCast_nonneg _,by show(r:Int)≤_;omega⟩,fun e=>n2 (Xs.1 e),WJ l2,⟨Int.natCast_nonneg _,by show(mm.1:Int)≤_;omega⟩,⟨Int.natCast_nonneg _,by show(mm.2:Int)≤_;omega⟩,WJ l5⟩
   ·unfold cX;rw[Int.toNat_natCast];exact e1
   ·rw[Ce n2];exact e2
   ·unfold nE cX;rw[Int.toNat_natCast,Int.toNat_natCast];exact e3
  ·cases h
 ·rintro⟨rfl,rfl,rfl,rfl,rfl,⟨h1,h2⟩,h3,h4,⟨h5,h6⟩,⟨h7,h8⟩,h9⟩
  have e1:fN (cX s.dD)=some s.dD.toNat:=E_ (by omega)
  have e2:ou (jv s.dB)=some (s.dB.map Int.toNat):=by
   rw[Er]
   refine⟨?_,by simpa using h3,fun n hn=>?_⟩
   ·unfold jv;rw[if_neg h3,List.map_map];rfl
   ·obtain⟨m,hm,rfl⟩:=List.mem_map.1 hn
    have:=(h4 m hm).2;omega
  have e3:qf (nE s.min s.max)=some (s.min.toNat,s.max.toNat):=yl.2 ⟨rfl,by omega,by omega⟩
  have e4:uo (jv s.next)=some (s.next.map Int.toNat):=by
   rw[NM,Uq h9]
   refine⟨rfl,fun n hn=>?_⟩
   obtain⟨m,hm,rfl⟩:=List.mem_map.1 hn
   have:=(h9 m hm).2;omega
  rw[e1,e2,e3,e4]
  simp only
  rw[Uq h4,Uq h9,Int.toNat_of_nonneg h1,Int.toNat_of_nonneg h5,Int.toNat_of_nonneg h7]
theorem kB{c:UInt8}(h:mD c=false)(n:Int):c∉cX n:=Xl h _
theorem Uz{c d:UInt8}(hd:c≠d): ∀{ps:List (List UInt8)},(∀p∈ps,c∉p)→c∉gw d ps
 |[],_=>by simp[gw]
 |[x],h=>h x (by simp)
 |x::y::r,h=>by
  show c∉x++d::gw d (y::r)
  rw[List.mem_append,List.mem_cons,not_or,not_or]
  exact⟨h x (by simp),hd,Uz hd fun p hp=>h p (by simp[hp])⟩
theorem XV{c:UInt8}(h:mD c=false)(h1:c≠44)(h2:c≠45)(l:List Int):c∉jv l:=by
 unfold jv
 split
 ·simpa using h2
 ·exact Uz h1 fun p hp=>by
   obtain⟨n,_,rfl⟩:=List.mem_map.1 hp
   exact kB h n
theorem Ex{c:UInt8}(h:mD c=false)(h1:c≠46)(a b:Int):c∉nE a b:=by
 unfold nE
 rw[List.mem_append,List.mem_cons,List.mem_cons,not_or,not_or,not_or]
 exact⟨kB h a,h1,h1,kB h b⟩
theorem WK{c:UInt8}(h:mD c=false)(h1:c≠44)(h2:c≠45)(h3:c≠46)(h4:c∉nB++lf++nC++rA++rB++qg++mx)(i:Nat)(s:Step): ∀p∈ID i s,c∉p:=by
 simp only[List.mem_append,not_or]at h4
 obtain⟨⟨⟨⟨⟨⟨k1,k2⟩,k3⟩,k4⟩,k5⟩,k6⟩,k7⟩:=h4
 intro p hp
 unfold ID at hp
 have hd:=fun n=>kB h n
 have hn:=fun l=>XV h h1 h2 l
 have hr:=fun a b=>Ex h h3 a b
 have hi:=Xl h i
 rcases List.mem_append.1 hp with hp|hp
 ·simp only[List.mem_cons,List.not_mem_nil,or_false]at hp
  rcases hp with rfl|rfl|rfl|rfl|rfl|rfl|rfl|rfl|rfl|rfl
  ·exact k1
  ·exact hi
  ·exact k2
  ·exact hd _
  ·exact k3
  ·exact hn _
  ·exact k4
  ·exact hr _ _
  ·exact k5
  ·exact hn _
 ·split at hp
  ·simp only[List.mem_cons,List.not_mem_nil,or_false]at hp
   rcases hp with rfl|rfl|rfl|rfl
   ·exact k6
   ·exact hd _
   ·exact k7
   ·exact hd _
  ·cases hp
theorem O2{i:Nat}{line:List UInt8}{s:Step}:eZ i line=some s↔line=jh i s∧OB s:=by
 unfold eZ
 constructor
 ·intro h
  split at h
  ·rename_i a0 a1 a2 a3 a4 a5 a6 a7 a8 a9 hs
   split at h
   ·rename_i hf
    unfold lC at hf
    simp only[Bool.and_eq_true,beq_iff_eq]at hf
    obtain⟨⟨⟨⟨⟨rfl,rfl⟩,rfl⟩,rfl⟩,rfl⟩,rfl⟩:=hf
    obtain⟨rfl,rfl,rfl,rfl,hb,k1,k2,k3,k4,k5,k6⟩:=ym.1 h
    simp only[Option.some.injEq,Prod.mk.injEq]at hb
    refine⟨?_,k1,k2,k3,k4,k5,k6,.inl ⟨hb.1.symm,hb.2.symm⟩⟩
    unfold jh ID
    rw[if_neg (by rw[←hb.1];decide),List.append_nil]
    exact((fr 32).1 hs).1
   ·cases h
  ·rename_i a0 a1 a2 a3 a4 a5 a6 a7 a8 a9 b0 b1 b2 b3 hs
   split at h
   ·rename_i hf
    obtain⟨hf,rfl,rfl⟩:=hf
    unfold lC at hf
    simp only[Bool.and_eq_true,beq_iff_eq]at hf
    obtain⟨⟨⟨⟨⟨rfl,rfl⟩,rfl⟩,rfl⟩,rfl⟩,rfl⟩:=hf
    obtain⟨rfl,rfl,rfl,rfl,hb,k1,k2,k3,k4,k5,k6⟩:=ym.1 h
    unfold vR at hb
    split at hb
    ·rename_i x y h1 h2
     obtain⟨e1,l1⟩:=yS.1 h1
     obtain⟨e2,l2⟩:=yS.1 h2
     simp only[Option.some.injEq,Prod.mk.injEq]at hb
     refine⟨?_,k1,k2,k3,k4,k5,k6,.inr ⟨⟨by omega,by omega⟩,⟨by omega,by omega⟩⟩⟩
     have f1:b1=cX s.back:=by unfold cX;rw[←hb.1,Int.toNat_natCast];exact e1
     have f2:b3=cX s.dF:=by unfold cX;rw[←hb.2,Int.toNat_natCast];exact e2
     unfold jh ID
     rw[if_pos (by omega),←f1,←f2]
     exact((fr 32).1 hs).1
    ·cases hb
   ·cases h
  ·cases h
 ·rintro⟨rfl,hN⟩
  have hs:cz 32 (jh i s)=ID i s:=(fr 32).2 ⟨rfl,by unfold ID;simp,WK rfl (by decide) (by decide) (by decide) (by decide) i s⟩
  rw[hs]
  have hf:lC i nB (dec i) lf nC rA rB=true:=by unfold lC;simp
  rcases hN.back with⟨h1,h2⟩|⟨⟨h1,YC⟩,⟨h2,Uj⟩⟩
  ·unfold ID
   rw[if_neg (by rw[h1];decide),List.append_nil]
   simp only
   rw[if_pos hf,ym]
   exact⟨rfl,rfl,rfl,rfl,by rw[h1,h2],hN.dD,hN.dB,hN.Av,hN.min,hN.max,hN.next⟩
  ·unfold ID
   rw[if_pos h1]
   simp only[List.cons_append,List.nil_append]
   rw[if_pos (by refine⟨hf,?_,?_⟩<;>trivial),ym]
   refine⟨rfl,rfl,rfl,rfl,?_,hN.dD,hN.dB,hN.Av,hN.min,hN.max,hN.next⟩
   unfold vR cX
   rw[E_ (by omega),E_ (by omega)]
   simp only
   rw[Int.toNat_of_nonneg h1,Int.toNat_of_nonneg h2]
theorem GD{line:List UInt8}{w:cj}:lg line=some w↔line=gi w∧mI w.src∧mI w.dst∧mI w.dF:=by
 unfold lg
 constructor
 ·intro h
  split at h
  ·rename_i a0 a1 a2 a3 hs
   split at h
   ·rename_i h0
    subst h0
    split at h
    ·rename_i x y z h1 h2 h3
     obtain⟨rfl,l1⟩:=yS.1 h1
     obtain⟨rfl,l2⟩:=yS.1 h2
     obtain⟨rfl,l3⟩:=yS.1 h3
     obtain rfl:=Option.some.inj h
     exact⟨((fr 32).1 hs).1,⟨by show(0:Int)≤x;omega,by show(x:Int)≤_;omega⟩,⟨by show(0:Int)≤y;omega,by show(y:Int)≤_;omega⟩,⟨by show(0:Int)≤z;omega,by show(z:Int)≤_;omega⟩⟩
    ·cases h
   ·cases h
  ·cases h
 ·rintro⟨rfl,⟨h1,YC⟩,⟨h2,Uj⟩,⟨h3,YS⟩⟩
  have hs:cz 32 (gi w)=BD w:=(fr 32).2 ⟨rfl,by unfold BD;simp,fun p hp=>by
   unfold BD at hp
   simp only[List.mem_cons,List.not_mem_nil,or_false]at hp
   rcases hp with rfl|rfl|rfl|rfl
   ·decide
   ·exact kB rfl _
   ·exact kB rfl _
   ·exact kB rfl _⟩
  rw[hs]
  unfold BD
  simp only[if_true]
  unfold cX
  rw[E_ (by omega),E_ (by omega),E_ (by omega)]
  simp only
  rw[Int.toNat_of_nonneg h1,Int.toNat_of_nonneg h2,Int.toNat_of_nonneg h3]
theorem Pw{line:List UInt8}{a b:Int}:uq line=some (a,b)↔line=kH a b∧mI a∧mI b:=by
 unfold uq
 constructor
 ·intro h
  split at h
  ·rename_i a0 a1 hs
   split at h
   ·rename_i h0
    subst h0
    rw[Option.map_eq_some_iff]at h
    obtain⟨⟨x,y⟩,h1,h2⟩:=h
    obtain⟨rfl,l1,l2⟩:=yl.1 h1
    simp only[Prod.mk.injEq]at h2
    obtain⟨rfl,rfl⟩:=h2
    exact⟨((fr 32).1 hs).1,⟨by omega,by omega⟩,⟨by omega,by omega⟩⟩
   ·cases h
  ·cases h
 ·rintro⟨rfl,⟨h1,YC⟩,⟨h2,Uj⟩⟩
  have hs:cz 32 (kH a b)=IE a b:=(fr 32).2 ⟨rfl,by unfold IE;simp,fun p hp=>by
   unfold IE at hp
   simp only[List.mem_cons,List.not_mem_nil,or_false]at hp
   rcases hp with rfl|rfl
   ·decide
   ·exact Ex rfl (by decide) _ _⟩
  rw[hs]
  unfold IE
  simp only[if_true]
  have qF:qf (nE a b)=some (a.toNat,b.toNat):=yl.2 ⟨rfl,by omega,by omega⟩
  rw[qF]
  simp only[Option.map_some]
  rw[Int.toNat_of_nonneg h1,Int.toNat_of_nonneg h2]
theorem vS(c:UInt8)(x:List UInt8): ∀ps:List (List UInt8),ps≠[]→gw c (ps++[x])=gw c ps++c::x
 |[],h=>absurd rfl h
 |[_],_=>rfl
 |y::z::r,_=>by
  show y++c::gw c (z::r++[x])=(y++c::gw c (z::r))++c::x
  rw[vS c x (z::r) (by simp),List.append_assoc];rfl
def Yj(bl:Int×Int):List UInt8:=if 0≤bl.1 then(32::qg++[32])++(cX bl.1++((32::mx++[32])++cX bl.2))else []
theorem zg(i:Nat)(s:Step):jh i s=(nB++32::(dec i++32::(lf++[32])))++(cX s.dD++((32::nC++[32])++(jv s.dB++((32::rA++[32])++(cX s.min++([46,46]++(cX s.max++((32::rB++[32])++(jv s.next++Yj (s.back,s.dF)))))))))):=by
 unfold jh ID Yj nE
 by_cases h:0≤s.back
 ·rw[if_pos h,if_pos h]
  simp[gw]
 ·rw[if_neg h,if_neg h]
  simp[gw]
end Go.Proofs.YtebobfdheanknaaGreatDoor
namespace Go.Proofs.YtebobfdheanknaaGreatDoor
open Go Go.K
set_option maxRecDepth 10000
attribute [local irreducible] W WL cT cn bX bA bB bD cW cG
set_option maxHeartbeats 1000000
theorem nJ{l:List UInt8}(h: ∀v,Lib.atoiAll l= .ok v→0≤v→v≤1000000→Lib.itoa v≠l):fN l=none:=by
 cases hn:fN l with
 |none=>rfl
 |some n=>
  obtain⟨h1,h2,h3⟩:=J8 hn
  exact absurd h2 (h _ h1 (by omega) (by omega))
def lD:List PanicEntry:=[{v:=.iface 291 (.agg #[]),recovered:=false}]
theorem dV(b:Bool)(g:G):CallsIn Wd 0 Tryz.prog 240 #[.bool b] g.w (uJ g (fun _ r=>r= .tuple #[]∧b=true) lD (b=false)):=by
 have hs:=St.start g
 refine enter Tryz.func240 rfl Tryz.ntmps240 rfl ?_
 cases b with
 |true=>
  refine aX rfl ?_
  refine aS rfl rfl ?_
  apply aE
  exact mv rfl (.inl (hs.ret ⟨rfl,rfl⟩))
 |false=>
  refine aX rfl ?_
  refine aJ rfl rfl ?_
  apply ar
  refine an rfl rfl (aQ T.ok rfl (vs:=[]) (cells:=[]) rfl rfl rfl rfl [] rfl (by kernel_rfl) ?_)
  skip
  refine an rfl rfl (G8 rfl rfl rfl rfl ?_)
  skip
  refine bg rfl (Cy rfl rfl ?_)
  exact dt (uJ.sd rfl (aZ.refl g))
theorem jl(s:List UInt8)(g:G)(hs:s.length≤1000000)(hF:iw g):CallsIn Wd 0 Tryz.prog 243 #[.string (bs s)] g.w (uJ g (fun _ r=> ∃n:Nat,fN s=some n∧r= .int .i64 n) lD (fN s=none)):=by
 have hlen:=hs
 clear hs
 have hs:=St.start g
 refine enter Tryz.func243 rfl Tryz.ntmps243 rfl ?_
 refine aX rfl ?_;refine cP 1 rfl ?_
 refine an rfl rfl (ay MH aI rfl rfl rfl rfl rfl (Kh s _ hlen hF) ?_)
 rintro g1 _ aN ⟨x,err,rfl,hv⟩
 replace hs:=hs.call aN
 have IJ:=hF.mono aN.le
 cases ha:Lib.atoiAll s with
 |ok x0=>
  rw[ha]at hv
  obtain⟨rfl,rfl⟩:=hv
  refine ba rfl ?_;refine cP 1 rfl ?_
  refine an rfl rfl (nt (neg:=false) rfl rfl rfl rfl rfl ?_)
  refine Wp 5 rfl ?_
  by_cases h0:0≤x
  ·refine cM 16 (b':=true) (by simp[h0]) rfl ?_
   refine Wp 4 rfl ?_
   by_cases h1:x≤1000000
   ·refine cM 20 (b':=true) (by simp[h1]) rfl ?_
    refine Wp 1 rfl ?_
    refine an rfl rfl (ay HO aI rfl rfl rfl rfl rfl (Fl x _ (by unfold mH;omega) IJ) ?_)
    rintro g2 _ wF rfl
    replace hs:=hs.call wF
    refine Wp 3 rfl ?_
    by_cases h2:Lib.itoa x=s
    ·refine cM 25 (b':=true) (by rw[cD,cD];simp[h2]) rfl ?_
     refine an rfl rfl (cd fh aI rfl rfl rfl rfl rfl (dV true _) ?_ fun h=>(by cases h))
     rintro g3 _ ff ⟨rfl,_⟩
     replace hs:=hs.call ff
     apply cf;refine aX rfl ?_
     refine aF ?_
     skip
     refine aV rfl rfl (.inl (hs.ret ⟨x.toNat,Fb ha h0 h1 h2,?_⟩))
     show Value.int .i64 x=_
     rw[Int.toNat_of_nonneg h0]
    ·refine cM 25 (b':=false) (by rw[cD,cD];simp[h2]) rfl ?_
     refine an rfl rfl (cd fh aI rfl rfl rfl rfl rfl (dV false _) ?_ ?_)
     ·rintro g3 _ ff ⟨_,hc⟩
      cases hc
     ·intro _ g3 ff
      replace hs:=hs.call ff
      (repeat (first|with_reducible refine f_ ?_|with_reducible refine gg ?_|with_reducible refine gh ?_))
      exact dt (uJ.sd (nJ fun v hv=>by rw[ha]at hv;cases hv;exact fun _ _=>h2) hs.mS)
   ·refine cM 20 (b':=false) (by simp[h1]) rfl ?_
    refine Wp 5 rfl ?_
    refine an rfl rfl (cd fh aI rfl rfl rfl rfl rfl (dV false _) ?_ ?_)
    ·rintro g3 _ ff ⟨_,hc⟩
     cases hc
    ·intro _ g3 ff
     replace hs:=hs.call ff
     (repeat (first|with_reducible refine f_ ?_|with_reducible refine gg ?_|with_reducible refine gh ?_))
     exact dt (uJ.sd (nJ fun v hv=>by rw[ha]at hv;cases hv;exact fun _ h=>absurd h h1) hs.mS)
  ·refine cM 16 (b':=false) (by simp[h0]) rfl ?_
   refine Wp 9 rfl ?_
   refine an rfl rfl (cd fh aI rfl rfl rfl rfl rfl (dV false _) ?_ ?_)
   ·rintro g3 _ ff ⟨_,hc⟩
    cases hc
   ·intro _ g3 ff
    replace hs:=hs.call ff
    (repeat (first|with_reducible refine f_ ?_|with_reducible refine gg ?_|with_reducible refine gh ?_))
    exact dt (uJ.sd (nJ fun v hv=>by rw[ha]at hv;cases hv;exact fun h=>absurd h h0) hs.mS)
 |range=>
  rw[ha]at hv
  obtain⟨t,p,rfl⟩:=hv
  refine ba rfl ?_;refine cP 1 rfl ?_
  refine an rfl rfl (nt (neg:=false) rfl rfl rfl rfl rfl ?_)
  refine Wp 14 rfl ?_
  refine an rfl rfl (cd fh aI rfl rfl rfl rfl rfl (dV false _) ?_ ?_)
  ·rintro g3 _ ff ⟨_,hc⟩
   cases hc
  ·intro _ g3 ff
   replace hs:=hs.call ff
   (repeat (first|with_reducible refine f_ ?_|with_reducible refine gg ?_|with_reducible refine gh ?_))
   exact dt (uJ.sd (nJ fun v hv=>by rw[ha]at hv;cases hv) hs.mS)
 |_=>
  rw[ha]at hv
  obtain⟨t,p,rfl⟩:=hv
  refine ba rfl ?_;refine cP 1 rfl ?_
  refine an rfl rfl (nt (neg:=false) rfl rfl rfl rfl rfl ?_)
  refine Wp 14 rfl ?_
  refine an rfl rfl (cd fh aI rfl rfl rfl rfl rfl (dV false _) ?_ ?_)
  ·rintro g3 _ ff ⟨_,hc⟩
   cases hc
  ·intro _ g3 ff
   replace hs:=hs.call ff
   (repeat (first|with_reducible refine f_ ?_|with_reducible refine gg ?_|with_reducible refine gh ?_))
   exact dt (uJ.sd (nJ fun v hv=>by rw[ha]at hv;cases hv) hs.mS)
end Go.Proofs.YtebobfdheanknaaGreatDoor
namespace Go.Proofs.YtebobfdheanknaaGreatDoor
open Go Go.K
set_option maxRecDepth 10000
attribute [local irreducible] W WL cT cn bX bA bB bD cW cG
set_option maxHeartbeats 2000000
theorem nZ(c:UInt8)(s:List UInt8):(cz c s).length≤s.length+1:=by
 induction s with
 |nil=>simp[cz]
 |cons b t ih=>
  unfold cz
  split
  ·simp only[List.length_cons];omega
  ·split
   ·simp
   ·rename_i x r h;rw[h]at ih;simp only[List.length_cons]at ih⊢;omega
theorem kh(c:UInt8)(s:List UInt8): ∀p∈cz c s,p.length≤s.length:=by
 induction s with
 |nil=>simp[cz]
 |cons b t ih=>
  unfold cz
  split
  ·intro p hp
   rcases List.mem_cons.1 hp with rfl|hp
   ·simp
   ·have:=ih p hp;simp only[List.length_cons];omega
  ·split
   ·simp
   ·rename_i x r h
    rw[h]at ih
    intro p hp
    rcases List.mem_cons.1 hp with rfl|hp
    ·have:=ih x (by simp);simp only[List.length_cons];omega
    ·have:=ih p (List.mem_cons_of_mem _ hp);simp only[List.length_cons];omega
theorem xB{α:Type}{l:List (Option α)}{k:Nat}(h:l[k]? =some none):j5 l=none:=by
 cases ha:j5 l with
 |none=>rfl
 |some xs=>
  rw[nA.1 ha,List.getElem?_map]at h
  cases hx:xs[k]? <;>rw[hx]at h<;>cases h
theorem Fz(s p:List UInt8):(Lib.cut s p).1.length≤s.length:=by
 unfold Lib.cut
 split
 ·show(s.take _).length≤_;rw[List.length_take];omega
 ·exact Nat.le_refl _
theorem FA(s p:List UInt8):(Lib.cut s p).2.1.length≤s.length:=by
 unfold Lib.cut
 split
 ·show(s.drop _).length≤_;rw[List.length_drop];omega
 ·exact Nat.zero_le _
theorem FB(s:List UInt8):qf s=match Lib.cut s [46,46]with
  |(a,b,true)=>(match fN a,fN b with
   |some x,some y=>some (x,y)
   |_,_=>none)
  |(_,_,false)=>none:=by
 unfold qf Lib.cut
 by_cases h:Lib.index s [46,46]<0
 ·rw[if_pos h,if_neg (by omega)]
 ·rw[if_neg h,if_pos (by omega)]
  rfl
theorem Fo(s:List UInt8)(g:G)(hlen:s.length≤1000000)(hF:iw g):
  CallsIn Wd 0 Tryz.prog 241 #[.string (bs s)] g.w (uJ g (fun _ r=> ∃a b:Nat,qf s=some (a,b)∧r= .tuple #[.int .i64 a,.int .i64 b]) lD (qf s=none)):=by
 have hs:=St.start g
 refine enter Tryz.func241 rfl Tryz.ntmps241 rfl ?_
 refine aX rfl ?_;refine cP 1 rfl ?_
 refine an rfl rfl (ay MG aI rfl rfl rfl rfl rfl (OP s [46,46] _ hlen hF) ?_)
 rintro g1 _ aN rfl
 replace hs:=hs.call aN
 have IJ:=hF.mono aN.le
 have Sa:(Lib.cut s [46,46]).1.length≤1000000:=Nat.le_trans (Fz s [46,46]) hlen
 have Sb:(Lib.cut s [46,46]).2.1.length≤1000000:=Nat.le_trans (FA s [46,46]) hlen
 have qF:=FB s
 generalize Lib.cut s [46,46]=q at*
 obtain⟨a,b,ok⟩:=q
 cases ok with
 |false=>
  refine ba rfl ?_;refine cP 1 rfl ?_
  refine an rfl rfl (cd fh aI rfl rfl rfl rfl rfl (dV false _) ?_ ?_)
  ·rintro g3 _ ff ⟨_,hc⟩
   cases hc
  ·intro _ g3 ff
   replace hs:=hs.call ff
   (repeat (first|with_reducible refine f_ ?_|with_reducible refine gg ?_|with_reducible refine gh ?_))
   exact dt (uJ.sd (qF) hs.mS)
 |true=>
  refine ba rfl ?_;refine cP 1 rfl ?_
  refine an rfl rfl (cd fh aI rfl rfl rfl rfl rfl (dV true _) ?_ fun h=>(by cases h))
  rintro g3 _ ff ⟨rfl,_⟩
  replace hs:=hs.call ff
  have ah:=ff.le;skip
  have IJ:=IJ.mono ff.le
  apply cf;refine cP 1 rfl ?_
  refine an rfl rfl (cd pg aI rfl rfl rfl rfl rfl (jl a _ Sa IJ) ?_ ?_)
  ·rintro g4 _ kL ⟨n,hn,rfl⟩
   replace hs:=hs.call kL
   have IJ:=IJ.mono kL.le
   refine Wp 1 rfl ?_
   refine an rfl rfl (cd pg aI rfl rfl rfl rfl rfl (jl b _ Sb IJ) ?_ ?_)
   ·rintro g5 _ oe ⟨m,hm,rfl⟩
    replace hs:=hs.call oe
    refine ba rfl ?_
    refine aF ?_
    skip
    refine rT rfl rfl rfl (.inl (hs.ret ⟨n,m,?_,rfl⟩))
    rw[qF];simp only[hn,hm]
   ·intro hn g5 oe
    replace hs:=hs.call oe
    (repeat (first|with_reducible refine f_ ?_|with_reducible refine gg ?_|with_reducible refine gh ?_))
    exact dt (uJ.sd (by rw[qF];simp only[hn];split<;>first|rfl|(rename_i h1 h2;cases h2)) hs.mS)
  ·intro hn g5 oe
   replace hs:=hs.call oe
   (repeat (first|with_reducible refine f_ ?_|with_reducible refine gg ?_|with_reducible refine gh ?_))
   exact dt (uJ.sd (by rw[qF];simp only[hn]) hs.mS)
theorem Fm(s:List UInt8)(g:G)(hlen:s.length≤1000000)(hF:iw g):
  CallsIn Wd 0 Tryz.prog 244 #[.string (bs s)] g.w (uJ g (fun g' r=> ∃ns,ou s=some ns∧Rs g' r (ints ns)) lD (ou s=none)):=by
 have hs:=St.start g
 have aq:=G.le.refl g
 refine enter Tryz.func244 rfl Tryz.ntmps244 rfl ?_
 refine aX rfl ?_;refine aX rfl ?_;apply aB;refine cP 1 rfl ?_
 refine an rfl rfl (ay IW aI rfl rfl rfl rfl rfl (xz s 44 _ hlen hF) ?_);rintro g1 vo aN IG;obtain⟨gz,ik,cS,iT,aH⟩:=hs.mZ aN IG;have ah:=aN.le.trans iT;rw[←ik];replace hs:=cS;clear cS IG;replace aq:=G.le.trans aq ah
 have AX:=nZ 44 s
 have rX:=kh 44 s
 have Pk:ou s=j5 ((cz 44 s).map fN):=rfl
 generalize cz 44 s=ps at*
 obtain⟨pa,pc,rfl⟩:=aH.isSlice
 replace hs:=hs.gI 3 1 none
 have OK:=aq
 have IH:(ps.map w_.mk).length=ps.length:=List.length_map _
 have Ft:Rs gz (.slice pa ps.length pc) (ps.map w_.mk):=by have h:=aH;rw[IH]at h;exact h
 clear aH
 rw[IH]
 refine ba rfl ?_;apply aG
 refine bS (fun m a' w=> ∃(k:Nat) (ns:List Nat) (ra:Option Addr) (rc:Nat) (g':G),w=g'.w∧St g g' [.row 3 1 (.slice ra ns.length rc) ns.length ((ints ns).map (Value.int .i64))]∧G.le gz g'∧k≤ps.length∧m=ps.length-k∧ns.length=k∧(ps.take k).map fN=ns.map some∧
  Fr 20 [] [(3,.slice ra ns.length rc),(7,.slice pa ps.length pc),(8,.int .i64 ps.length),(9,.int .i64 k)] a') ps.length (fun a' ha=>⟨0,[],none,0,gz,rfl,hs,G.le.refl _,Nat.zero_le _,rfl,rfl,rfl,ha.keep (by(repeat (first|exact trivial|refine⟨rfl,?_⟩)))⟩) ?_
 clear hs aq
 rintro m a' _ ⟨k,ns,ra,rc,g',rfl,hs,xA,hk,rfl,S0,MV,eI⟩
 have aH:=Ft.mono xA
 have aq:=OK.trans xA
 revert a'
 apply cQ;refine aX rfl ?_;apply aB
 by_cases bh:k<ps.length
 ·refine aJ (b:=decide ((k:Int)<(ps.length:Int))) (by simp;omega) rfl ?_
  apply aE;apply au;apply aB;apply aG;apply c_
  refine an rfl rfl (aW T.ok rfl aH (y:=⟨ps[k]⟩) (by simp[dA,bh]) rfl rfl rfl rfl rfl rfl ?_)
  rintro b p ys aL rfl
  refine Wm 1 [.e aL 0] (St.start _) rfl ?_
  refine ba rfl ?_;apply ar;refine Wp 2 rfl ?_
  refine an rfl rfl (cd pg aI rfl rfl rfl rfl rfl (jl ps[k] _ (Nat.le_trans (rX _ (List.getElem_mem bh)) hlen) (hF.mono aq)) ?_ ?_)
  ·rintro g4 _ kL ⟨n,hn,rfl⟩
   replace hs:=hs.call kL
   replace xA:=xA.trans kL.le
   skip
   refine an rfl rfl (bj T.ok rfl hs (vs:=[(0,.int .i64 n)]) (cells:=[.int .i64 n]) rfl rfl rfl rfl rfl rfl (by decide) (by decide) (by kernel_rfl) rfl ?_);rintro W9 W_ hs ah;replace xA:=xA.trans ah
   skip
   refine an rfl rfl (b_ T.ok 1 rfl hs rfl rfl rfl rfl rfl rfl rfl (by decide) rfl (Src.gK (hs.own 0 _ rfl).1).2 (by simp[Value.oneCell']) (by show(ns.length+1)*8≤_;omega) (by unfold maxLen;show ns.length+1≤_;omega) ?_);rintro a9 c9 g9 hs ah;replace xA:=xA.trans ah
   replace hs:=hs.drop 0
   refine Wp 1 rfl ?_;apply aD;apply bU;apply au;apply ar;refine Wp 2 rfl ?_;apply aD
   refine fun a ha=>⟨ps.length-(k+1),by omega,k+1,ns++[n],a9,c9,g9,rfl,?_,xA,by omega,rfl,by simp[S0],?_,ha.keep ⟨?_,rfl,rfl,kI rfl (by rw[wr (by omega) (by omega)];omega),trivial⟩⟩
   ·have e1:(ints (ns++[n])).map (Value.int .i64)=(ints ns).map (Value.int .i64)++[.int .i64 n]:=by simp[ints]
    rw[e1,List.length_append]
    exact hs
   ·rw[List.take_add_one,List.map_append,MV,List.getElem?_eq_getElem bh]
    simp[hn]
   ·rw[List.length_append];rfl
  ·intro hn g5 oe
   replace hs:=hs.call oe
   (repeat (first|with_reducible refine f_ ?_|with_reducible refine gg ?_|with_reducible refine gh ?_))
   exact dt (uJ.sd (by rw[Pk];exact xB (k:=k) (by rw[List.getElem?_map,List.getElem?_eq_getElem bh];simp[hn])) hs.mS)
 ·refine aS (b:=decide ((k:Int)<(ps.length:Int))) (by simp;omega) rfl ?_
  apply bE;apply bK;apply bK;apply dc;apply au;refine aX rfl ?_
  obtain rfl:k=ps.length:=by omega
  obtain⟨gy,OO,VP,Po,pP⟩:=hs.cL (α:=Int) (xs:=ints ns) (i:=0) rfl (cO.ints _ _)
  rw[←OO]
  refine aF ?_
  skip
  refine aV rfl rfl (.inl (VP.ret ⟨ns,?_,?_⟩))
  ·rw[Pk]
   rw[List.take_length]at MV
   exact nA.2 MV
  ·have e:(ints ns).length=ns.length:=by simp[ints]
   rw[←e]
   rw[←e]at pP
   exact pP
end Go.Proofs.YtebobfdheanknaaGreatDoor
namespace Go.Proofs.YtebobfdheanknaaGreatDoor
open Go Go.K
set_option maxRecDepth 10000
attribute [local irreducible] W WL cT cn bX bA bB bD cW cG
set_option maxHeartbeats 2000000
def gZ(fixed l:List (List UInt8)):Prop:=fixed.length≤l.length∧ ∀(i:Nat) (w:List UInt8),fixed[i]? =some w→w=[]∨l[i]? =some w
theorem nY:(⟨#[]⟩:ByteArray).toList=[]:=cD []
theorem sB(line:List UInt8)(fx:List (List UInt8))(v:Value)(g:G)(hlen:line.length≤1000000)(_hfl:fx.length≤100)(hF:iw g)(hv:Rs g v (fx.map w_.mk)):
  CallsIn Wd 0 Tryz.prog 239 #[.string (bs line),v] g.w (uJ g (fun g' r=>gZ fx (cz 32 line)∧Rs g' r ((cz 32 line).map w_.mk)) lD (¬gZ fx (cz 32 line))):=by
 have hs:=St.start g
 have aq:=G.le.refl g
 have Fx:=hv
 obtain⟨fa,fc,rfl⟩:=hv.isSlice
 refine enter Tryz.func239 rfl Tryz.ntmps239 rfl ?_
 refine aX rfl ?_;refine cP 1 rfl ?_
 refine an rfl rfl (ay IW aI rfl rfl rfl rfl rfl (xz line 32 _ hlen hF) ?_);rintro g1 vo aN IG;obtain⟨gz,ik,cS,iT,aH⟩:=hs.mZ aN IG;have ah:=aN.le.trans iT;rw[←ik];replace hs:=cS;clear cS IG;replace aq:=G.le.trans aq ah
 have AX:=nZ 32 line
 have rX:=kh 32 line
 generalize cz 32 line=ps at*
 obtain⟨pa,pc,rfl⟩:=aH.isSlice
 have OK:=aq
 have IH:(ps.map w_.mk).length=ps.length:=List.length_map _
 have H_:(fx.map w_.mk).length=fx.length:=List.length_map _
 have Ft:Rs gz (.slice pa ps.length pc) (ps.map w_.mk):=by have h:=aH;rw[IH]at h;exact h
 have Fx:Rs g (.slice fa fx.length fc) (fx.map w_.mk):=by have h:=Fx;rw[H_]at h;exact h
 clear aH hv
 rw[IH,H_]
 refine ba rfl ?_;refine cP 5 rfl ?_
 by_cases JX:fx.length≤ps.length
 ·refine cM 14 (b':=true) (by simp;omega) rfl ?_
  refine an rfl rfl (cd fh aI rfl rfl rfl rfl rfl (dV true _) ?_ fun h=>(by cases h))
  rintro g3 _ ff ⟨rfl,_⟩
  replace hs:=hs.call ff
  have ah:=ff.le;replace aq:=G.le.trans aq ah
  apply cf;apply aB;refine aX rfl ?_;apply aG
  refine bS (fun m a' w=> ∃(k:Nat) (g':G),w=g'.w∧St g g' []∧G.le gz g'∧k≤fx.length∧m=fx.length-k∧(∀i w,i<k→fx[i]? =some w→w=[]∨ps[i]? =some w)∧
   Fr 36 [] [(5,.slice pa ps.length pc),(16,.slice fa fx.length fc),(17,.int .i64 fx.length),(18,.int .i64 k)] a') fx.length (fun a' ha=>⟨0,g3,rfl,hs,ff.le,Nat.zero_le _,rfl,fun i w h=>absurd h (by omega),ha.keep (by(repeat (first|exact trivial|refine⟨rfl,?_⟩)))⟩) ?_
  clear hs aq
  rintro m a' _ ⟨k,g',rfl,hs,aq,hk,rfl,lH,eI⟩
  have aH:=Ft.mono aq
  have aT:=Fx.mono (OK.trans aq)
  revert a'
  apply cQ;refine aX rfl ?_;apply aB
  by_cases bh:k<fx.length
  ·refine aJ (b:=decide ((k:Int)<(fx.length:Int))) (by simp;omega) rfl ?_
   apply aE;apply au;apply aB;apply aG;refine cP 1 rfl ?_
   refine an rfl rfl (aW T.ok rfl aT (y:=⟨fx[k]⟩) (by simp[dA,bh]) rfl rfl rfl rfl rfl rfl ?_)
   rintro b p ys aL rfl
   refine Wm 1 [.e aL 0] (St.start _) rfl ?_
   refine ba rfl ?_;apply ar;refine Wp 3 rfl ?_
   have Kj:k<ps.length:=by omega
   by_cases h0:fx[k]=[]
   ·refine cM 25 (b':=true) (by rw[cD,nY];simp[h0]) rfl ?_
    refine Wp 7 rfl ?_
    refine an rfl rfl (cd fh aI rfl rfl rfl rfl rfl (dV true _) ?_ fun h=>(by cases h))
    rintro g3 _ ff ⟨rfl,_⟩
    replace hs:=hs.call ff
    have ah:=ff.le;obtain⟨aq,aH⟩:=cC ah aq aH
    apply aD;apply bU;apply au;apply ar;refine Wp 2 rfl ?_;apply aD
    refine fun a ha=>⟨fx.length-(k+1),by omega,k+1,_,rfl,hs,aq,by omega,rfl,?_,ha.keep ⟨rfl,rfl,rfl,kI rfl (by rw[wr (by omega) (by omega)];omega),trivial⟩⟩
    intro i w hi hw
    rcases Nat.lt_or_ge i k with Dt|Dt
    ·exact lH i w Dt hw
    ·obtain rfl:i=k:=by omega
     rw[List.getElem?_eq_getElem bh]at hw
     obtain rfl:=Option.some.inj hw
     exact .inl h0
   ·refine cM 25 (b':=false) (by rw[cD,nY];simp[h0]) rfl ?_
    refine Wp 2 rfl ?_
    refine an rfl rfl (aW T.ok rfl aH (y:=⟨ps[k]⟩) (by simp[dA,Kj]) rfl rfl rfl rfl rfl rfl ?_)
    rintro b p ys aL rfl
    refine Wm 1 [.e aL 0] (St.start _) rfl ?_
    refine Wp 3 rfl ?_
    by_cases h1:ps[k]=fx[k]
    ·refine cM 32 (b':=true) (by rw[cD,cD];simp[h1]) rfl ?_
     refine an rfl rfl (cd fh aI rfl rfl rfl rfl rfl (dV true _) ?_ fun h=>(by cases h))
     rintro g3 _ ff ⟨rfl,_⟩
     replace hs:=hs.call ff
     have ah:=ff.le;obtain⟨aq,aH⟩:=cC ah aq aH
     apply aD;apply bU;apply au;apply ar;refine Wp 2 rfl ?_;apply aD
     refine fun a ha=>⟨fx.length-(k+1),by omega,k+1,_,rfl,hs,aq,by omega,rfl,?_,ha.keep ⟨rfl,rfl,rfl,kI rfl (by rw[wr (by omega) (by omega)];omega),trivial⟩⟩
     intro i w hi hw
     rcases Nat.lt_or_ge i k with Dt|Dt
     ·exact lH i w Dt hw
     ·obtain rfl:i=k:=by omega
      rw[List.getElem?_eq_getElem bh]at hw
      obtain rfl:=Option.some.inj hw
      exact .inr (by rw[List.getElem?_eq_getElem Kj,h1])
    ·refine cM 32 (b':=false) (by rw[cD,cD];simp[h1]) rfl ?_
     refine an rfl rfl (cd fh aI rfl rfl rfl rfl rfl (dV false _) ?_ ?_)
     ·rintro g3 _ ff ⟨_,hc⟩
      cases hc
     ·intro _ g3 ff
      replace hs:=hs.call ff
      (repeat (first|with_reducible refine f_ ?_|with_reducible refine gg ?_|with_reducible refine gh ?_))
      exact dt (uJ.sd (fun h=>by
           rcases h.2 k _ (List.getElem?_eq_getElem bh)with e|e
           ·exact h0 e
           ·rw[List.getElem?_eq_getElem Kj]at e;exact h1 (Option.some.inj e)) hs.mS)
  ·refine aS (b:=decide ((k:Int)<(fx.length:Int))) (by simp;omega) rfl ?_
   apply bE;apply bK;apply bK;apply dc;apply au;refine aX rfl ?_
   refine aF ?_
   skip
   obtain rfl:k=fx.length:=by omega
   refine aV rfl rfl (.inl (hs.ret ⟨⟨JX,fun i w h=>lH i w (List.getElem?_eq_some_iff.1 h).1 h⟩,aH⟩))
 ·refine cM 14 (b':=false) (by simp;omega) rfl ?_
  refine an rfl rfl (cd fh aI rfl rfl rfl rfl rfl (dV false _) ?_ ?_)
  ·rintro g3 _ ff ⟨_,hc⟩
   cases hc
  ·intro _ g3 ff
   replace hs:=hs.call ff
   (repeat (first|with_reducible refine f_ ?_|with_reducible refine gg ?_|with_reducible refine gh ?_))
   exact dt (uJ.sd (fun h=>JX h.1) hs.mS)
end Go.Proofs.YtebobfdheanknaaGreatDoor
namespace Go.Proofs.YtebobfdheanknaaGreatDoor
open Go Go.K
set_option maxRecDepth 10000
attribute [local irreducible] W WL cT cn bX bA bB bD cW cG
set_option maxHeartbeats 2000000
def Hr(b:Nat)(cs:List Value):cV:=.obj b (.cells cs.toArray 30 (0,0))
theorem Kk{α:Type}{l:List α}(h:l.length=2): ∃a b,l=[a,b]:=by
 match l,h with
 |[a,b],_=>exact⟨a,b,rfl⟩
theorem iB{fx l:List (List UInt8)}(h:gZ fx l)(i:Nat){w x:List UInt8}(hw:fx[i]? =some w)(hx:l[i]? =some x)(fu:w≠[]):x=w:=by
 rcases h.2 i w hw with e|e
 ·exact absurd e fu
 ·rw[hx]at e;exact Option.some.inj e
theorem FC{line x a:List UInt8}(sO:cz 32 line=[a,x])(h:gZ [nD,[]] [a,x]):uq line=(qf x).map fun p=>((p.1:Int),(p.2:Int)):=by
 obtain rfl:=iB h 0 (w:=nD) rfl rfl (by decide)
 unfold uq
 rw[sO]
 simp
theorem FD{line:List UInt8}(h: ¬gZ [nD,[]] (cz 32 line)):uq line=none:=by
 unfold uq
 split
 ·rename_i a0 a1 he
  rw[if_neg]
  rintro rfl
  refine h ?_
  rw[he]
  refine⟨Nat.le_refl _,fun i w hw=>?_⟩
  match i,hw with
  |0,hw=>exact .inr hw
  |1,hw=>exact .inl (Option.some.inj hw).symm
  |_+2,hw=>cases hw
 ·rfl
theorem FE{line:List UInt8}(h:(cz 32 line).length≠2):uq line=none:=by
 unfold uq
 split
 ·rename_i a0 a1 he
  rw[he]at h;exact absurd rfl h
 ·rfl
def qm(line:List UInt8):Option (Int×Int):=(uq line).bind fun p=>if eh ⟨p.1,p.2,[],[]⟩=true then some p else none
theorem Kf{b:Nat}(line:List UInt8)(hlen:line.length≤1000000){g0 g:G}{L:List cV}(hF:iw g)(hs:St g0 g (Hr b [.int .i64 0,.int .i64 0,.slice none 0 0,.slice none 0 0]::L)):
  CallsIn Wd 0 Tryz.prog 140 #[.pointer (some ⟨b,0,none⟩),.string (bs line)] g.w fun e w'=>
   eu g (fun g' r=>r= .tuple #[]∧ ∃m n:Int,qm line=some (m,n)∧St g0 g' (Hr b [.int .i64 m,.int .i64 n,.slice none 0 0,.slice none 0 0]::L)) e w'∨
   (qm line=none∧eW g lD (fun g'=> ∃cs,St g0 g' (Hr b cs::L)) e w'):=by
 have aq:=G.le.refl g
 unfold Hr at hs⊢
 refine enter Tryz.func140 rfl Tryz.ntmps140 rfl ?_
 refine cP 1 rfl ?_
 refine an rfl rfl (bj T.ok rfl hs (vs:=[(0,.string (bs nD)),(1,.string (bs []))]) (cells:=[.string (bs nD),.string (bs [])]) rfl rfl rfl rfl rfl rfl (by decide) (by decide) (by kernel_rfl) rfl ?_)
 clear hs
 rintro bl gl hs ah;replace aq:=G.le.trans aq ah
 obtain⟨gz,ik,cS,iT,aT⟩:=hs.cL (α:=w_) (xs:=[⟨nD⟩,⟨[]⟩]) (i:=0) rfl (cO.strs _ [nD,[]])
 have ah:=iT;rw[←ik];replace hs:=cS;clear cS;replace aq:=G.le.trans aq ah
 skip
 refine an rfl rfl (cd AT aI rfl rfl rfl rfl rfl (sB line [nD,[]] _ _ hlen (by decide) (hF.mono aq) aT) ?_ ?_)
 rotate_left
 ·intro hn g5 oe
  replace hs:=hs.call oe
  replace aq:=aq.trans oe.le
  (repeat (first|with_reducible refine f_ ?_|with_reducible refine gg ?_|with_reducible refine gh ?_))
  exact dt (.inr ⟨by unfold qm;rw[FD hn];rfl,eW.intro aq ⟨_,hs⟩⟩)
 rintro g4 v kL ⟨ly,aH⟩
 replace hs:=hs.call kL
 have ah:=kL.le;replace aq:=G.le.trans aq ah
 obtain⟨pa,pc,rfl⟩:=aH.isSlice
 rw[List.length_map]at aH⊢
 have rX:=kh 32 line
 generalize sO:cz 32 line=ps at*
 refine ba rfl ?_;refine cP 3 rfl ?_
 by_cases h2:ps.length=2
 ·obtain⟨a,x,rfl⟩:=Kk h2
  refine cM 10 (b':=true) (by simp) rfl ?_
  refine an rfl rfl (cd fh aI rfl rfl rfl rfl rfl (dV true _) ?_ fun h=>(by cases h))
  rintro g3 _ ff ⟨rfl,_⟩
  replace hs:=hs.call ff
  have ah:=ff.le;obtain⟨aq,aH⟩:=cC ah aq aH
  apply cf;refine cP 3 rfl ?_
  refine an rfl rfl (aW T.ok rfl aH (y:=⟨x⟩) rfl rfl rfl rfl rfl rfl rfl ?_)
  rintro b p ys aL rfl
  refine Wm 1 [.e aL 0] (St.start _) rfl ?_
  skip
  have zr:=FC sO ly
  refine an rfl rfl (cd HN aI rfl rfl rfl rfl rfl (Fo x _ (Nat.le_trans (rX x (by simp)) hlen) (hF.mono aq)) ?_ ?_)
  ·rintro g6 _ mY ⟨m,n,KO,rfl⟩
   replace hs:=hs.call mY
   have ah:=mY.le;replace aq:=G.le.trans aq ah
   rw[KO]at zr
   refine Wp 5 rfl ?_
   refine bg rfl (aA T.ok 0 rfl hs rfl rfl rfl rfl rfl rfl rfl rfl rfl ?_);replace hs:=hs;rintro g1 hs ah;replace aq:=G.le.trans aq ah
   refine Wp 2 rfl ?_
   refine bg rfl (aA T.ok 0 rfl hs rfl rfl rfl rfl rfl rfl rfl rfl rfl ?_);replace hs:=hs;rintro g1 hs ah;replace aq:=G.le.trans aq ah
   apply cf;apply ar;refine Wm 3 [.o 0] hs rfl ?_
   refine an rfl rfl (ay HE aI rfl rfl rfl rfl rfl (ql _ ⟨m,n,[],[]⟩ _ ⟨none,0,0,none,0,0,rfl,Rs.nil _,Rs.nil _⟩) ?_);rintro g1 _ aN rfl;replace hs:=hs.call aN;have ah:=aN.le;replace aq:=G.le.trans aq ah
   skip
   cases hr:eh ⟨m,n,[],[]⟩with
   |true=>
    refine an rfl rfl (cd fh aI rfl rfl rfl rfl rfl (dV true _) ?_ fun h=>(by cases h))
    rintro g3 _ ff ⟨rfl,_⟩
    replace hs:=hs.call ff
    have ah:=ff.le;replace aq:=G.le.trans aq ah
    apply aD
    exact mv rfl (.inl (eu.intro aq ⟨rfl,m,n,by unfold qm;rw[zr];simp[hr],hs⟩))
   |false=>
    refine an rfl rfl (cd fh aI rfl rfl rfl rfl rfl (dV false _) ?_ ?_)
    ·rintro g3 _ ff ⟨_,hc⟩
     cases hc
    ·intro _ g3 ff
     replace hs:=hs.call ff
     replace aq:=aq.trans ff.le
     (repeat (first|with_reducible refine f_ ?_|with_reducible refine gg ?_|with_reducible refine gh ?_))
     exact dt (.inr ⟨by unfold qm;rw[zr];simp[hr],eW.intro aq ⟨_,hs⟩⟩)
  ·intro hn g5 oe
   replace hs:=hs.call oe
   replace aq:=aq.trans oe.le
   (repeat (first|with_reducible refine f_ ?_|with_reducible refine gg ?_|with_reducible refine gh ?_))
   exact dt (.inr ⟨by unfold qm;rw[zr,hn];rfl,eW.intro aq ⟨_,hs⟩⟩)
 ·refine cM 10 (b':=false) (by simp;omega) rfl ?_
  refine an rfl rfl (cd fh aI rfl rfl rfl rfl rfl (dV false _) ?_ ?_)
  ·rintro g3 _ ff ⟨_,hc⟩
   cases hc
  ·intro _ g3 ff
   replace hs:=hs.call ff
   replace aq:=aq.trans ff.le
   (repeat (first|with_reducible refine f_ ?_|with_reducible refine gg ?_|with_reducible refine gh ?_))
   exact dt (.inr ⟨by unfold qm;rw[FE (by rw[sO];exact h2)];rfl,eW.intro aq ⟨_,hs⟩⟩)
end Go.Proofs.YtebobfdheanknaaGreatDoor
namespace Go.Proofs.YtebobfdheanknaaGreatDoor
open Go Go.K
set_option maxRecDepth 10000
attribute [local irreducible] W WL cT cn bX bA bB bD cW cG
set_option maxHeartbeats 4000000
def B_(B:Nat)(cs:List Value)(t:TypeId):Fact:=
 ⟨fun v g=> ∃b,v= .pointer (some ⟨b,0,none⟩)∧cV.holds B g (.obj b (.cells cs.toArray t (0,0))),fun _ _ _ hf ⟨b,e,h⟩=>⟨b,e,h.kept fun b hb=>⟨hf.below.block b (h.lt b hb).2.1,hf.im b (h.lt b hb).2.1⟩⟩⟩
def o0(s:List UInt8):Fact:=⟨fun v g=> ∃b p,v= .pointer (some ⟨b,p,none⟩)∧EP g b p [.string (bs s)],fun _ _ _ hf ⟨b,p,e,h⟩=>⟨b,p,e,h.mono hf.le⟩⟩
def Pb(p:Value→Prop):Fact:=⟨fun v _=>p v,fun _ _ _ _ h=>h⟩
def CJ(x:List UInt8):Fact:=Pb fun v=> ∃n:Nat,fN x=some n∧v= .int .i64 n
def Ph:Fact:=Pb fun _=>False
def kO(w:cj):List Value:=[.int .i64 w.src,.int .i64 w.dst,.int .i64 w.dF]
def j7:List cj→List Value
 |[]=>[]
 |w::r=>kO w++j7 r
theorem uC: ∀l:List cj,(j7 l).length=l.length*3
 |[]=>rfl
 |w::r=>by
  show(kO w++j7 r).length=_
  rw[List.length_append,uC r,List.length_cons];show 3+_=_;omega
theorem cO.win(g:G): ∀l:List cj,cO g (j7 l) l
 |[]=>rfl
 |w::r=>⟨kO w,j7 r,rfl,rfl,cO.win g r⟩
theorem cO.BG{g:G}: ∀{l:List cj} {cs:List Value},cO g cs l→cs=j7 l
 |[],_,h=>h
 |x::r,_,⟨c1,c2,e,h1,h2⟩=>by rw[e,show c1=kO x from h1,cO.BG h2];rfl
def IF(b:Nat)(f:bV)(sa:Option Addr)(sc:Nat)(wa:Option Addr)(wc:Nat)(vY:List Value):List cV:=
 [.obj b (.cells [.int .i64 f.ck,.int .i64 f.cu,.slice sa f.steps.length sc,.slice wa f.windows.length wc].toArray 30 (0,0)),
  .row 65 7 (.slice sa f.steps.length sc) f.steps.length vY,
  .row 141 3 (.slice wa f.windows.length wc) f.windows.length (j7 f.windows)]
def Hn(b:Nat)(f:bV)(L:List cV)(g0 g:G):Prop:=∃sa sc wa wc vY,St g0 g (IF b f sa sc wa wc vY++L)∧cO g vY f.steps
theorem Ho{line a x y z:List UInt8}(sO:cz 32 line=[a,x,y,z])(h:gZ [gY,[],[],[]] [a,x,y,z]):lg line=match fN x,fN y,fN z with
   |some x,some y,some z=>some ⟨x,y,z⟩
   |_,_,_=>none:=by
 obtain rfl:=iB h 0 (w:=gY) rfl rfl (by decide)
 unfold lg
 rw[sO]
 show(if gY=gY then _ else _)=_
 rw[if_pos rfl]<;>(cases fN x<;>cases fN y<;>cases fN z<;>rfl)
theorem Hp{line:List UInt8}(h: ¬gZ [gY,[],[],[]] (cz 32 line)):lg line=none:=by
 unfold lg
 split
 ·rename_i a0 a1 a2 a3 he
  rw[if_neg]
  rintro rfl
  refine h ?_
  rw[he]
  refine⟨Nat.le_refl _,fun i w hw=>?_⟩
  match i,hw with
  |0,hw=>exact .inr hw
  |1,hw=>exact .inl (Option.some.inj hw).symm
  |2,hw=>exact .inl (Option.some.inj hw).symm
  |3,hw=>exact .inl (Option.some.inj hw).symm
  |_+4,hw=>cases hw
 ·rfl
theorem Hq{line:List UInt8}(h:(cz 32 line).length≠4):lg line=none:=by
 unfold lg
 split
 ·rename_i a0 a1 a2 a3 he
  rw[he]at h;exact absurd rfl h
 ·rfl
def jk(f:bV)(line:List UInt8):Option cj:=(lg line).bind fun w=>if(dS w 40&&decide ((f.windows.length:Int)<20)&&decide ((f.steps.length:Int)>0)&&follows f.windows w)=true then some w else none
theorem BH{α:Type}{l:List α}(h:l.length=4): ∃a b c d,l=[a,b,c,d]:=by
 match l,h with
 |[a,b,c,d],_=>exact⟨a,b,c,d,rfl⟩
theorem Fi{b:Nat}(f:bV)(line:List UInt8)(hlen:line.length≤1000000)(GC:f.windows.length≤1000000){g0 g:G}{L:List cV}(hF:iw g)(hO:Hn b f L g0 g):
  CallsIn Wd 0 Tryz.prog 142 #[.pointer (some ⟨b,0,none⟩),.string (bs line)] g.w fun e w'=>
   eu g (fun g' r=>r= .tuple #[]∧ ∃w,jk f line=some w∧Hn b {f with windows:=f.windows++[w]} L g0 g') e w'∨
   (jk f line=none∧eW g lD (fun g'=> ∃cs,St g0 g' (Hr b cs::L)) e w'):=by
 have aq:=G.le.refl g
 obtain⟨sa,sc,wa,wc,vY,hs,dL⟩:=hO
 unfold IF at hs
 unfold Hr
 replace hs:St g0 g (.obj b (.cells [.int .i64 f.ck,.int .i64 f.cu,.slice sa f.steps.length sc,.slice wa f.windows.length wc].toArray 30 (0,0))::
  .row 65 7 (.slice sa f.steps.length sc) f.steps.length vY::
  .row 141 3 (.slice wa f.windows.length wc) f.windows.length (j7 f.windows)::L):=hs
 refine enter Tryz.func142 rfl Tryz.ntmps142 rfl ?_
 refine cP 1 rfl ?_
 refine an rfl rfl (bj T.ok rfl hs (vs:=[(0,.string (bs gY)),(1,.string (bs [])),(2,.string (bs [])),(3,.string (bs []))]) (cells:=[.string (bs gY),.string (bs []),.string (bs []),.string (bs [])]) rfl rfl rfl rfl rfl rfl (by decide) (by decide) (by kernel_rfl) rfl ?_)
 clear hs
 rintro bl gl hs ah;obtain⟨aq,dL⟩:=cC ah aq dL
 obtain⟨gz,ik,cS,iT,aT⟩:=hs.cL (α:=w_) (xs:=[⟨gY⟩,⟨[]⟩,⟨[]⟩,⟨[]⟩]) (i:=0) rfl (cO.strs _ [gY,[],[],[]])
 have ah:=iT;rw[←ik];replace hs:=cS;clear cS;obtain⟨aq,dL⟩:=cC ah aq dL
 skip
 refine an rfl rfl (cd AT aI rfl rfl rfl rfl rfl (sB line [gY,[],[],[]] _ _ hlen (by decide) (hF.mono aq) aT) ?_ ?_)
 rotate_left
 ·intro hn g5 oe
  replace hs:=hs.call oe
  replace aq:=aq.trans oe.le
  (repeat (first|with_reducible refine f_ ?_|with_reducible refine gg ?_|with_reducible refine gh ?_))
  exact dt (.inr ⟨by unfold jk;rw[Hp hn];rfl,eW.intro aq ⟨_,(hs.drop 1).drop 1⟩⟩)
 rintro g4 v kL ⟨ly,aH⟩
 replace hs:=hs.call kL
 have ah:=kL.le;obtain⟨aq,dL⟩:=cC ah aq dL
 obtain⟨pa,pc,rfl⟩:=aH.isSlice
 rw[List.length_map]at aH⊢
 have rX:=kh 32 line
 generalize sO:cz 32 line=ps at*
 refine ba rfl ?_;refine cP 3 rfl ?_
 by_cases h4:ps.length=4
 ·obtain⟨a,x,y,z,rfl⟩:=BH h4
  refine cM 11 (b':=true) (by simp) rfl ?_
  refine an rfl rfl (cd fh aI rfl rfl rfl rfl rfl (dV true _) ?_ fun h=>(by cases h))
  rintro g3 _ ff ⟨rfl,_⟩
  replace hs:=hs.call ff
  have ah:=ff.le;obtain⟨aq,aH,dL⟩:=ef ah aq aH dL
  have zr:=Ho sO ly
  apply cf;apply aB
  have oh:=hs
  apply ed (fe (.f (o0 x)::(fe (.f (CJ x)::(fe (.f (o0 y)::(fe (.f (CJ y)::(fe (.f (o0 z)::(fe (.f (CJ z)::(.f (Pb fun v=> ∃x0 y0 z0:Nat,fN x=some x0∧fN y=some y0∧fN z=some z0∧v= .agg #[.int .i64 x0,.int .i64 y0,.int .i64 z0])::(.f (B_ g3.dr.w.heap.size [.int .i64 0,.int .i64 0,.int .i64 0] 141)::[])))))))))))))) 14 [(12,25),(13,5)] (by kernel_rfl)
  ·refine Dx [[]] (by kernel_rfl) rfl ?_
   refine aw (ak (js:=[(0,13)]) (by kernel_rfl) fun gd hf=>?_) ?_
   ·have eH:=(G.bJ _).trans hf.le
    refine ai rfl ?_
    apply aj
    refine az rfl ?_
    refine aW T.ok rfl (aH.mono eH) (y:=⟨x⟩) rfl rfl rfl rfl rfl rfl rfl ?_
    intro b p ys aL eK
    exact⟨_,rfl,aZ.refl _,b,p,rfl,by rw[←show ys=[Value.string (bs x)]from eK];exact aL⟩
   refine aw (ak (js:=[(1,14)]) (by kernel_rfl) fun gd hf=>?_) ?_
   ·skip
    refine aY fun v1 h1=>?_
    apply aj
    obtain⟨b,p,rfl,aL⟩:=h1
    refine az rfl ?_
    refine cp T.ok 0 rfl aL rfl rfl ?_
    refine⟨_,rfl,aZ.refl _,?_⟩
    exact rfl
   refine aw (ak (js:=[(2,15)]) (by kernel_rfl) fun gd hf=>?_) ?_
   ·have ib:=hs.dr.call hf;have eH:=(G.bJ _).trans hf.le
    refine ai rfl ?_
    apply aj
    refine az rfl ?_
    refine cd pg aI rfl rfl rfl rfl rfl (jl x _ (Nat.le_trans (rX x (by simp)) hlen) (hF.mono (aq.trans eH))) (fun g' v eO h=>⟨g',rfl,eO,h⟩) fun hn g' eO=>?_
    replace ib:=ib.call eO
    (repeat (first|with_reducible refine f_ ?_|with_reducible refine gg ?_|with_reducible refine gh ?_))
    exact dt (.inr ⟨by unfold jk;rw[zr,hn];first|rfl|(cases fN x<;>first|rfl|(cases fN y<;>rfl)),eW.intro ((aq.trans eH).trans eO.le) ⟨_,(ib.drop 1).drop 1⟩⟩)
   refine Dx [[]] (by kernel_rfl) rfl ?_
   refine aw (ak (js:=[(4,17)]) (by kernel_rfl) fun gd hf=>?_) ?_
   ·have eH:=(G.bJ _).trans hf.le
    refine ai rfl ?_
    apply aj
    refine az rfl ?_
    refine aW T.ok rfl (aH.mono eH) (y:=⟨y⟩) rfl rfl rfl rfl rfl rfl rfl ?_
    intro b p ys aL eK
    exact⟨_,rfl,aZ.refl _,b,p,rfl,by rw[←show ys=[Value.string (bs y)]from eK];exact aL⟩
   refine aw (ak (js:=[(5,18)]) (by kernel_rfl) fun gd hf=>?_) ?_
   ·skip
    refine aY fun v5 h5=>?_
    apply aj
    obtain⟨b,p,rfl,aL⟩:=h5
    refine az rfl ?_
    refine cp T.ok 0 rfl aL rfl rfl ?_
    refine⟨_,rfl,aZ.refl _,?_⟩
    exact rfl
   refine aw (ak (js:=[(6,19)]) (by kernel_rfl) fun gd hf=>?_) ?_
   ·have ib:=hs.dr.call hf;have eH:=(G.bJ _).trans hf.le
    refine ai rfl ?_
    apply aj
    refine az rfl ?_
    refine cd pg aI rfl rfl rfl rfl rfl (jl y _ (Nat.le_trans (rX y (by simp)) hlen) (hF.mono (aq.trans eH))) (fun g' v eO h=>⟨g',rfl,eO,h⟩) fun hn g' eO=>?_
    replace ib:=ib.call eO
    (repeat (first|with_reducible refine f_ ?_|with_reducible refine gg ?_|with_reducible refine gh ?_))
    exact dt (.inr ⟨by unfold jk;rw[zr,hn];first|rfl|(cases fN x<;>first|rfl|(cases fN y<;>rfl)),eW.intro ((aq.trans eH).trans eO.le) ⟨_,(ib.drop 1).drop 1⟩⟩)
   refine Dx [[]] (by kernel_rfl) rfl ?_
   refine aw (ak (js:=[(8,21)]) (by kernel_rfl) fun gd hf=>?_) ?_
   ·have eH:=(G.bJ _).trans hf.le
    refine ai rfl ?_
    apply aj
    refine az rfl ?_
    refine aW T.ok rfl (aH.mono eH) (y:=⟨z⟩) rfl rfl rfl rfl rfl rfl rfl ?_
    intro b p ys aL eK
    exact⟨_,rfl,aZ.refl _,b,p,rfl,by rw[←show ys=[Value.string (bs z)]from eK];exact aL⟩
   refine aw (ak (js:=[(9,22)]) (by kernel_rfl) fun gd hf=>?_) ?_
   ·skip
    refine aY fun v9 h9=>?_
    apply aj
    obtain⟨b,p,rfl,aL⟩:=h9
    refine az rfl ?_
    refine cp T.ok 0 rfl aL rfl rfl ?_
    refine⟨_,rfl,aZ.refl _,?_⟩
    exact rfl
   refine aw (ak (js:=[(10,23)]) (by kernel_rfl) fun gd hf=>?_) ?_
   ·have ib:=hs.dr.call hf;have eH:=(G.bJ _).trans hf.le
    refine ai rfl ?_
    apply aj
    refine az rfl ?_
    refine cd pg aI rfl rfl rfl rfl rfl (jl z _ (Nat.le_trans (rX z (by simp)) hlen) (hF.mono (aq.trans eH))) (fun g' v eO h=>⟨g',rfl,eO,h⟩) fun hn g' eO=>?_
    replace ib:=ib.call eO
    (repeat (first|with_reducible refine f_ ?_|with_reducible refine gg ?_|with_reducible refine gh ?_))
    exact dt (.inr ⟨by unfold jk;rw[zr,hn];first|rfl|(cases fN x<;>first|rfl|(cases fN y<;>rfl)),eW.intro ((aq.trans eH).trans eO.le) ⟨_,(ib.drop 1).drop 1⟩⟩)
   refine aw (ak (js:=[(3,16),(7,20),(11,24)]) (by kernel_rfl) fun gd hf=>?_) ?_
   ·skip
    refine aY fun v3 h3=>?_;refine aY fun v7 h7=>?_;refine aY fun v11 Km=>?_
    apply aj
    obtain⟨x0,hx,rfl⟩:=h3
    obtain⟨y0,hy,rfl⟩:=h7
    obtain⟨z0,hz,rfl⟩:=Km
    refine az rfl ?_
    refine aQ T.ok rfl (vs:=[(0,.int .i64 x0),(1,.int .i64 y0),(2,.int .i64 z0)]) (cells:=[.int .i64 x0,.int .i64 y0,.int .i64 z0]) rfl rfl rfl rfl [(0,1),(1,1),(2,1)] rfl (by kernel_rfl) ?_
    exact⟨_,rfl,aZ.refl _,x0,y0,z0,hx,hy,hz,rfl⟩
   refine aw (ak (js:=[]) (by kernel_rfl) fun gd hf=>?_) ?_
   ·skip
    apply aj
    refine az rfl ?_
    refine aK T.ok rfl (St.start gd) rfl rfl ?_
    intro b g' iS hle
    have ho:=iS.own 0 _ rfl
    exact⟨g',rfl,iS.mS,b,rfl,Nat.le_trans hf.below.size ho.1,ho.2⟩
   exact fJ
  intro g1 aN;refine aY fun v12 Kn=>?_;refine aY fun W3 O6=>?_;apply aj
  replace hs:=hs.dr.call aN;have ah:=(G.bJ _).trans aN.le;obtain⟨aq,dL⟩:=cC ah aq dL
  obtain⟨x0,y0,z0,hx,hy,hz,rfl⟩:=Kn
  obtain⟨bx,rfl,uS⟩:=O6
  replace hs:=oh.dr.gJ aN uS;clear oh
  rw[hx,hy,hz]at zr
  replace zr:lg line=some ⟨x0,y0,z0⟩:=zr
  have GF:jk f line=if(dS ⟨x0,y0,z0⟩ 40&&decide ((f.windows.length:Int)<20)&&decide ((f.steps.length:Int)>0)&&follows f.windows ⟨x0,y0,z0⟩)=true then some ⟨x0,y0,z0⟩else none:=by unfold jk;rw[zr];rfl
  clear h4
  skip
  refine bg rfl (aA T.ok 0 rfl hs rfl rfl rfl rfl rfl rfl rfl rfl rfl ?_);replace hs:=hs;rintro g1 hs ah;obtain⟨aq,dL⟩:=cC ah aq dL
  apply cf;apply aB
  cases yQ:dS ⟨x0,y0,z0⟩ 40 with
  |false=>
   apply ed (fj (fj (fj (eJ (.f Ph::[]))))) 27 [(26,52)] (by kernel_rfl)
   ·refine Dm [[]] [.o 0] hs (by kernel_rfl) rfl ?_
    refine aw (ak (js:=[(0,26)]) (by kernel_rfl) fun gd hf=>?_) ?_
    ·skip
     refine ai rfl ?_
     apply aj
     refine az rfl ?_
     refine ay sJ aI rfl rfl rfl rfl rfl (fI ⟨x0,y0,z0⟩ 40 _ (by decide) (by decide)) fun g' v h1 h2=>⟨g',rfl,h1,?_⟩
     rw[h2];exact congrArg Value.bool yQ
    refine Dx [[1,1],[2],[3,2],[4,2],[5,2],[6,2]] (by kernel_rfl) rfl ?_
    refine aw (ak (js:=[(7,33),(2,28)]) (by kernel_rfl) fun gd hf=>?_) ?_
    ·skip
     refine ai rfl ?_;refine ai rfl ?_
     apply aj
     first|(refine qX rfl ?_;exact rfl)|(refine az rfl ?_;refine aM _ T.ok rfl ?_;exact⟨_,rfl,aZ.refl _,congrArg Value.bool bR⟩)
    refine Dx [[2,8],[9],[10],[11,10],[12,10],[13,10],[14,10]] (by kernel_rfl) rfl ?_
    refine aw (ak (js:=[(15,41),(10,36)]) (by kernel_rfl) fun gd hf=>?_) ?_
    ·skip
     refine ai rfl ?_;refine ai rfl ?_
     apply aj
     first|(refine qX rfl ?_;exact rfl)|(refine az rfl ?_;refine aM _ T.ok rfl ?_;exact⟨_,rfl,aZ.refl _,congrArg Value.bool sq⟩)
    refine Dx [[10,16],[17],[18],[19,18],[20,18],[21,18],[18],[22,23,18,18],[18,24]] (by kernel_rfl) rfl ?_
    refine aw (ak (js:=[(25,51)]) (by kernel_rfl) fun gd hf=>?_) ?_
    ·have ib:=hs.dr.call hf;have eH:=(G.bJ _).trans hf.le
     refine ai rfl ?_
     apply aj
     refine az rfl ?_
     refine cd fh aI rfl rfl rfl rfl rfl (dV false _) (fun g' v eO h=>(by cases h.2)) fun _ g' eO=>?_
     replace ib:=ib.call eO
     (repeat (first|with_reducible refine f_ ?_|with_reducible refine gg ?_|with_reducible refine gh ?_))
     exact dt (.inr ⟨by rw[GF,yQ];rfl,eW.intro ((aq.trans eH).trans eO.le) ⟨_,(((ib.drop 0).drop 1).drop 1)⟩⟩)
    exact fJ
   intro g1 aN;refine aY fun v26 Ka=>?_;apply aj
   replace hs:=hs.dr.call aN;have ah:=(G.bJ _).trans aN.le;obtain⟨aq,dL⟩:=cC ah aq dL
   exact Ka.elim
  |true=>
  cases bR:decide ((f.windows.length:Int)<20)with
  |false=>
   apply ed (fj (fj (fj (eJ (.f Ph::[]))))) 27 [(26,52)] (by kernel_rfl)
   ·refine Dm [[]] [.o 0] hs (by kernel_rfl) rfl ?_
    refine aw (ak (js:=[(0,26)]) (by kernel_rfl) fun gd hf=>?_) ?_
    ·skip
     refine ai rfl ?_
     apply aj
     refine az rfl ?_
     refine ay sJ aI rfl rfl rfl rfl rfl (fI ⟨x0,y0,z0⟩ 40 _ (by decide) (by decide)) fun g' v h1 h2=>⟨g',rfl,h1,?_⟩
     rw[h2];exact congrArg Value.bool yQ
    refine Dm [[1,1],[2],[3,2],[4,2],[5,2],[6,2]] [.o 1] hs (by kernel_rfl) rfl ?_
    refine aw (ak (js:=[(7,33),(2,28)]) (by kernel_rfl) fun gd hf=>?_) ?_
    ·skip
     refine ai rfl ?_;refine ai rfl ?_
     apply aj
     first|(refine qX rfl ?_;exact rfl)|(refine az rfl ?_;refine aM _ T.ok rfl ?_;exact⟨_,rfl,aZ.refl _,congrArg Value.bool bR⟩)
    refine Dx [[2,8],[9],[10],[11,10],[12,10],[13,10],[14,10]] (by kernel_rfl) rfl ?_
    refine aw (ak (js:=[(15,41),(10,36)]) (by kernel_rfl) fun gd hf=>?_) ?_
    ·skip
     refine ai rfl ?_;refine ai rfl ?_
     apply aj
     first|(refine qX rfl ?_;exact rfl)|(refine az rfl ?_;refine aM _ T.ok rfl ?_;exact⟨_,rfl,aZ.refl _,congrArg Value.bool sq⟩)
    refine Dx [[10,16],[17],[18],[19,18],[20,18],[21,18],[18],[22,23,18,18],[18,24]] (by kernel_rfl) rfl ?_
    refine aw (ak (js:=[(25,51)]) (by kernel_rfl) fun gd hf=>?_) ?_
    ·have ib:=hs.dr.call hf;have eH:=(G.bJ _).trans hf.le
     refine ai rfl ?_
     apply aj
     refine az rfl ?_
     refine cd fh aI rfl rfl rfl rfl rfl (dV false _) (fun g' v eO h=>(by cases h.2)) fun _ g' eO=>?_
     replace ib:=ib.call eO
     (repeat (first|with_reducible refine f_ ?_|with_reducible refine gg ?_|with_reducible refine gh ?_))
     exact dt (.inr ⟨by rw[GF,yQ,bR];rfl,eW.intro ((aq.trans eH).trans eO.le) ⟨_,(((ib.drop 0).drop 1).drop 1)⟩⟩)
    exact fJ
   intro g1 aN;refine aY fun v26 Ka=>?_;apply aj
   replace hs:=hs.dr.call aN;have ah:=(G.bJ _).trans aN.le;obtain⟨aq,dL⟩:=cC ah aq dL
   exact Ka.elim
  |true=>
  cases sq:decide ((f.steps.length:Int)>0)with
  |false=>
   apply ed (fj (fj (fj (eJ (.f Ph::[]))))) 27 [(26,52)] (by kernel_rfl)
   ·refine Dm [[]] [.o 0] hs (by kernel_rfl) rfl ?_
    refine aw (ak (js:=[(0,26)]) (by kernel_rfl) fun gd hf=>?_) ?_
    ·skip
     refine ai rfl ?_
     apply aj
     refine az rfl ?_
     refine ay sJ aI rfl rfl rfl rfl rfl (fI ⟨x0,y0,z0⟩ 40 _ (by decide) (by decide)) fun g' v h1 h2=>⟨g',rfl,h1,?_⟩
     rw[h2];exact congrArg Value.bool yQ
    refine Dm [[1,1],[2],[3,2],[4,2],[5,2],[6,2]] [.o 1] hs (by kernel_rfl) rfl ?_
    refine aw (ak (js:=[(7,33),(2,28)]) (by kernel_rfl) fun gd hf=>?_) ?_
    ·skip
     refine ai rfl ?_;refine ai rfl ?_
     apply aj
     first|(refine qX rfl ?_;exact rfl)|(refine az rfl ?_;refine aM _ T.ok rfl ?_;exact⟨_,rfl,aZ.refl _,congrArg Value.bool bR⟩)
    refine Dm [[2,8],[9],[10],[11,10],[12,10],[13,10],[14,10]] [.o 1] hs (by kernel_rfl) rfl ?_
    refine aw (ak (js:=[(15,41),(10,36)]) (by kernel_rfl) fun gd hf=>?_) ?_
    ·skip
     refine ai rfl ?_;refine ai rfl ?_
     apply aj
     first|(refine qX rfl ?_;exact rfl)|(refine az rfl ?_;refine aM _ T.ok rfl ?_;exact⟨_,rfl,aZ.refl _,congrArg Value.bool sq⟩)
    refine Dx [[10,16],[17],[18],[19,18],[20,18],[21,18],[18],[22,23,18,18],[18,24]] (by kernel_rfl) rfl ?_
    refine aw (ak (js:=[(25,51)]) (by kernel_rfl) fun gd hf=>?_) ?_
    ·have ib:=hs.dr.call hf;have eH:=(G.bJ _).trans hf.le
     refine ai rfl ?_
     apply aj
     refine az rfl ?_
     refine cd fh aI rfl rfl rfl rfl rfl (dV false _) (fun g' v eO h=>(by cases h.2)) fun _ g' eO=>?_
     replace ib:=ib.call eO
     (repeat (first|with_reducible refine f_ ?_|with_reducible refine gg ?_|with_reducible refine gh ?_))
     exact dt (.inr ⟨by rw[GF,yQ,bR,sq];rfl,eW.intro ((aq.trans eH).trans eO.le) ⟨_,(((ib.drop 0).drop 1).drop 1)⟩⟩)
    exact fJ
   intro g1 aN;refine aY fun v26 Ka=>?_;apply aj
   replace hs:=hs.dr.call aN;have ah:=(G.bJ _).trans aN.le;obtain⟨aq,dL⟩:=cC ah aq dL
   exact Ka.elim
  |true=>
  cases KC:follows f.windows ⟨x0,y0,z0⟩with
  |false=>
   apply ed (fj (fj (fj (eJ (.f Ph::[]))))) 27 [(26,52)] (by kernel_rfl)
   ·refine Dm [[]] [.o 0] hs (by kernel_rfl) rfl ?_
    refine aw (ak (js:=[(0,26)]) (by kernel_rfl) fun gd hf=>?_) ?_
    ·skip
     refine ai rfl ?_
     apply aj
     refine az rfl ?_
     refine ay sJ aI rfl rfl rfl rfl rfl (fI ⟨x0,y0,z0⟩ 40 _ (by decide) (by decide)) fun g' v h1 h2=>⟨g',rfl,h1,?_⟩
     rw[h2];exact congrArg Value.bool yQ
    refine Dm [[1,1],[2],[3,2],[4,2],[5,2],[6,2]] [.o 1] hs (by kernel_rfl) rfl ?_
    refine aw (ak (js:=[(7,33),(2,28)]) (by kernel_rfl) fun gd hf=>?_) ?_
    ·skip
     refine ai rfl ?_;refine ai rfl ?_
     apply aj
     first|(refine qX rfl ?_;exact rfl)|(refine az rfl ?_;refine aM _ T.ok rfl ?_;exact⟨_,rfl,aZ.refl _,congrArg Value.bool bR⟩)
    refine Dm [[2,8],[9],[10],[11,10],[12,10],[13,10],[14,10]] [.o 1] hs (by kernel_rfl) rfl ?_
    refine aw (ak (js:=[(15,41),(10,36)]) (by kernel_rfl) fun gd hf=>?_) ?_
    ·skip
     refine ai rfl ?_;refine ai rfl ?_
     apply aj
     first|(refine qX rfl ?_;exact rfl)|(refine az rfl ?_;refine aM _ T.ok rfl ?_;exact⟨_,rfl,aZ.refl _,congrArg Value.bool sq⟩)
    refine Dm [[10,16],[17],[18],[19,18],[20,18],[21,18],[18]] [.o 1,.o 0] hs (by kernel_rfl) rfl ?_
    refine aw (ak (js:=[(22,48),(23,49),(18,44),(18,44)]) (by kernel_rfl) fun gd hf=>?_) ?_
    ·have ib:=hs.dr.call hf
     refine ai rfl ?_;refine ai rfl ?_;refine ai rfl ?_;refine ai rfl ?_
     apply aj
     refine az rfl ?_
     refine yC (α:=cj) (fun _ _ r=>r= .bool (follows f.windows ⟨x0,y0,z0⟩)) (fun _ _ r=>r= .bool (follows f.windows ⟨x0,y0,z0⟩)) Df aI rfl rfl rfl rfl rfl ib 3 rfl (cO.win _ f.windows) (fun gf hle hw hr=>rh _ f.windows ⟨x0,y0,z0⟩ gf hr) (fun _ _ _ _ _ _ _ _ _ h=>h) fun g' v h1 h2=>⟨g',rfl,h1,?_⟩
     rw[h2];exact congrArg Value.bool KC
    refine Dx [[18,24]] (by kernel_rfl) rfl ?_
    refine aw (ak (js:=[(25,51)]) (by kernel_rfl) fun gd hf=>?_) ?_
    ·have ib:=hs.dr.call hf;have eH:=(G.bJ _).trans hf.le
     refine ai rfl ?_
     apply aj
     refine az rfl ?_
     refine cd fh aI rfl rfl rfl rfl rfl (dV false _) (fun g' v eO h=>(by cases h.2)) fun _ g' eO=>?_
     replace ib:=ib.call eO
     (repeat (first|with_reducible refine f_ ?_|with_reducible refine gg ?_|with_reducible refine gh ?_))
     exact dt (.inr ⟨by rw[GF,yQ,bR,sq,KC];rfl,eW.intro ((aq.trans eH).trans eO.le) ⟨_,(((ib.drop 0).drop 1).drop 1)⟩⟩)
    exact fJ
   intro g1 aN;refine aY fun v26 Ka=>?_;apply aj
   replace hs:=hs.dr.call aN;have ah:=(G.bJ _).trans aN.le;obtain⟨aq,dL⟩:=cC ah aq dL
   exact Ka.elim
  |true=>
  rw[yQ,bR,sq,KC]at GF
  replace GF:jk f line=some ⟨x0,y0,z0⟩:=GF
  apply bO hs (fj (fj (fj (eJ (.f Fact.any::[]))))) 27 [(1,27)] (by kernel_rfl) rfl
  ·refine Dm [[]] [.o 0] hs (by kernel_rfl) rfl ?_
   refine aw (ak (js:=[(0,26)]) (by kernel_rfl) fun gd hf=>?_) ?_
   ·skip
    refine ai rfl ?_
    apply aj
    refine az rfl ?_
    refine ay sJ aI rfl rfl rfl rfl rfl (fI ⟨x0,y0,z0⟩ 40 _ (by decide) (by decide)) fun g' v h1 h2=>⟨g',rfl,h1,?_⟩
    rw[h2];exact congrArg Value.bool yQ
   refine Dm [[1,1],[2],[3,2],[4,2],[5,2],[6,2]] [.o 1] hs (by kernel_rfl) rfl ?_
   refine aw (ak (js:=[(7,33),(2,28)]) (by kernel_rfl) fun gd hf=>?_) ?_
   ·skip
    refine ai rfl ?_;refine ai rfl ?_
    apply aj
    first|(refine qX rfl ?_;exact rfl)|(refine az rfl ?_;refine aM _ T.ok rfl ?_;exact⟨_,rfl,aZ.refl _,congrArg Value.bool bR⟩)
   refine Dm [[2,8],[9],[10],[11,10],[12,10],[13,10],[14,10]] [.o 1] hs (by kernel_rfl) rfl ?_
   refine aw (ak (js:=[(15,41),(10,36)]) (by kernel_rfl) fun gd hf=>?_) ?_
   ·skip
    refine ai rfl ?_;refine ai rfl ?_
    apply aj
    first|(refine qX rfl ?_;exact rfl)|(refine az rfl ?_;refine aM _ T.ok rfl ?_;exact⟨_,rfl,aZ.refl _,congrArg Value.bool sq⟩)
   refine Dm [[10,16],[17],[18],[19,18],[20,18],[21,18],[18]] [.o 1,.o 0] hs (by kernel_rfl) rfl ?_
   refine aw (ak (js:=[(22,48),(23,49),(18,44),(18,44)]) (by kernel_rfl) fun gd hf=>?_) ?_
   ·have ib:=hs.dr.call hf
    refine ai rfl ?_;refine ai rfl ?_;refine ai rfl ?_;refine ai rfl ?_
    apply aj
    refine az rfl ?_
    refine yC (α:=cj) (fun _ _ r=>r= .bool (follows f.windows ⟨x0,y0,z0⟩)) (fun _ _ r=>r= .bool (follows f.windows ⟨x0,y0,z0⟩)) Df aI rfl rfl rfl rfl rfl ib 3 rfl (cO.win _ f.windows) (fun gf hle hw hr=>rh _ f.windows ⟨x0,y0,z0⟩ gf hr) (fun _ _ _ _ _ _ _ _ _ h=>h) fun g' v h1 h2=>⟨g',rfl,h1,?_⟩
    rw[h2];exact congrArg Value.bool KC
   refine Dx [[18,24]] (by kernel_rfl) rfl ?_
   refine aw (ak (js:=[(25,51)]) (by kernel_rfl) fun gd hf=>?_) ?_
   ·skip
    refine ai rfl ?_
    apply aj
    refine az rfl ?_
    exact cd fh aI rfl rfl rfl rfl rfl (dV true _) (fun g' v eO h=>⟨g',rfl,eO,trivial⟩) fun h=>(by cases h)
   exact fJ
  clear hs;intro g1 hs ah;obtain⟨aq,dL⟩:=cC ah aq dL
  have VG:f.windows.length<20:=by simp only[decide_eq_true_eq]at bR;omega
  have RW:=uC f.windows
  apply cf
  apply Bn aI rfl (Fact.eq _::Fact.eq _::Fact.eq _::Fact.eq _::Fact.eq _::Fact.eq _::(Fact.rs [(⟨x0,y0,z0⟩:cj)])::(N' g0 (fun v Pj=> .obj bx (.cells [.int .i64 x0,.int .i64 y0,.int .i64 z0].toArray 141 (0,0)):: .obj b (.cells [.int .i64 f.ck,.int .i64 f.cu,.slice sa f.steps.length sc,.slice wa f.windows.length wc].toArray 30 (0,0)):: .row 65 7 (.slice sa f.steps.length sc) f.steps.length vY:: .row 141 3 v (f.windows.length+1) Pj::L) (f.windows.length+1) (f.windows++[(⟨x0,y0,z0⟩:cj)]))::[]) 8 [(0,53),(7,60)] [] [1,2,3,4,5,6] 7 rfl (by kernel_rfl) (by kernel_rfl)
  case houts=>exact rfl
  case hsoft=>(repeat (first|exact Io|apply Ip|refine jX (sy _) ?_|refine jX (cr _) ?_|refine jX (CK _ _) ?_|refine jX (Ay _) ?_|refine jX (CL _) ?_|refine jX (y8 _) ?_|refine jX (Hs _) ?_|refine jX (Fj _) ?_|refine Iq (by exact rfl) ?_))
  ·refine h_ (ET (js:=[]) (by kernel_rfl) (by exact rfl) fun gd hf=>?_) ?_
   ·skip
    apply aj
    (refine az rfl ?_;refine aM _ T.ok rfl ?_;refine⟨_,rfl,aZ.refl _,?_⟩;exact rfl)
   refine h_ (mC (js:=[]) (by kernel_rfl) (by exact rfl) (by exact rfl) fun gd hf=>?_) ?_
   ·skip
    apply aj
    (refine az rfl ?_;refine aM _ T.ok rfl ?_;refine⟨_,rfl,aZ.refl _,?_⟩;exact rfl)
   refine h_ (mC (js:=[(1,54)]) (by kernel_rfl) (by exact rfl) (by exact rfl) fun gd hf=>?_) ?_
   ·skip
    refine ai rfl ?_
    apply aj
    (refine az rfl ?_;refine aM _ T.ok rfl ?_;refine⟨_,rfl,aZ.refl _,?_⟩;exact rfl)
   refine h_ (mC (js:=[(2,55)]) (by kernel_rfl) (by exact rfl) (by exact rfl) fun gd hf=>?_) ?_
   ·skip
    refine ai rfl ?_
    apply aj
    (refine az rfl ?_;refine aM _ T.ok rfl ?_;refine⟨_,rfl,aZ.refl _,?_⟩;exact rfl)
   refine h_ (mC (js:=[(3,56)]) (by kernel_rfl) (by exact rfl) (by exact rfl) fun gd hf=>?_) ?_
   ·have ib:=hs.dr.call hf
    refine ai rfl ?_
    apply aj
    (refine az rfl ?_;refine eS T.ok 1 rfl ib rfl rfl rfl ?_;refine⟨_,rfl,aZ.refl _,?_⟩;exact rfl)
   refine h_ (mC (js:=[]) (by kernel_rfl) (by exact rfl) (by exact rfl) fun gd hf=>?_) ?_
   ·have ib:=hs.dr.call hf
    apply aj
    (refine az rfl ?_;refine eS T.ok 0 rfl ib rfl rfl rfl ?_;refine⟨_,rfl,aZ.refl _,?_⟩;exact rfl)
   refine h_ (mC (js:=[(5,58)]) (by kernel_rfl) (by exact rfl) (by exact rfl) fun gd hf=>?_) ?_
   ·skip
    refine ai rfl ?_
    apply aj
    refine az rfl ?_
    refine bj T.ok rfl (St.start gd) (vs:=[(0,.agg #[.int .i64 x0,.int .i64 y0,.int .i64 z0])]) (cells:=[.int .i64 x0,.int .i64 y0,.int .i64 z0]) rfl rfl rfl rfl rfl rfl (by decide) (by decide) (by kernel_rfl) rfl ?_
    intro b2 g2 mK Ht
    obtain⟨g3,sq,Bh,yq,pP⟩:=mK.cL (α:=cj) (xs:=[⟨x0,y0,z0⟩]) (i:=0) rfl ⟨_,[],by rw[List.append_nil],rfl,rfl⟩
    exact⟨g3,sq,Bh.mS,pP⟩
   refine h_ (Iu (js:=[(4,57),(6,59)]) (by kernel_rfl) fun gd hf=>?_) ?_
   ·have ib:=hs.dr.call hf
    refine ai rfl ?_;refine aY fun v6 h6=>?_
    apply aj
    obtain⟨ax,cx,rfl⟩:=Rs.isSlice h6
    obtain⟨_,news,Fh,gn⟩:=Src.jq h6
    refine⟨rfl,?_⟩
    refine b_ T.ok 3 rfl ib rfl rfl rfl rfl rfl rfl rfl (by decide) rfl gn Fh.one (by show(f.windows.length+1)*24≤_;omega) (by unfold maxLen;show f.windows.length+1≤_;omega) ?_
    intro a' c' g8 qO yc
    exact⟨g8,rfl,yc,a',c',_,rfl,qO,cO.app (Fh.mono yc) (cO.win _ _)⟩
   exact It
  intro g1 aN;refine ai rfl ?_;refine aY fun v7 h7=>?_;apply aj
  have ah:=(G.bJ _).trans aN;obtain⟨aq,dL⟩:=cC ah aq dL
  obtain⟨Tg,Th,Pj,rfl,hs,VH⟩:=h7
  obtain rfl:=cO.BG VH
  refine Wp 2 rfl ?_
  refine bg rfl (aA T.ok 1 rfl hs rfl rfl rfl rfl rfl rfl rfl rfl rfl ?_);replace hs:=hs;rintro g1 hs ah;obtain⟨aq,dL⟩:=cC ah aq dL
  apply aD
  refine mv rfl (.inl (eu.intro aq ⟨rfl,_,GF,sa,sc,Tg,Th,vY,?_,dL⟩))
  have aU:=hs.drop 0
  show St g0 _ (.obj b _:: .row _ 7 _ _ _:: .row _ 3 (.slice Tg (f.windows++[_]).length Th) (f.windows++[_]).length _::L)
  rw[List.length_append]
  exact aU
 ·refine cM 11 (b':=false) (by simp;omega) rfl ?_
  refine an rfl rfl (cd fh aI rfl rfl rfl rfl rfl (dV false _) ?_ ?_)
  ·rintro g3 _ ff ⟨_,hc⟩
   cases hc
  ·intro _ g3 ff
   replace hs:=hs.call ff
   replace aq:=aq.trans ff.le
   (repeat (first|with_reducible refine f_ ?_|with_reducible refine gg ?_|with_reducible refine gh ?_))
   exact dt (.inr ⟨by unfold jk;rw[Hq (by rw[sO];exact h4)];rfl,eW.intro aq ⟨_,(hs.drop 1).drop 1⟩⟩)
end Go.Proofs.YtebobfdheanknaaGreatDoor
namespace Go.Proofs.YtebobfdheanknaaGreatDoor
open Go Go.K
set_option maxRecDepth 10000
attribute [local irreducible] W WL cT cn bX bA bB bD cW cG
set_option maxHeartbeats 2000000
def Kb(n:Nat):List (List UInt8):=[nB,dec n,lf,[],nC,[],rA,[],rB,[]]
def KN:List (List UInt8):=[[],[],[],[],[],[],[],[],[],[],qg,[],mx,[]]
theorem Kc{α:Type}{l:List α}(h:10≤l.length): ∃a0 a1 a2 a3 a4 a5 a6 a7 a8 a9 r,l=a0::a1::a2::a3::a4::a5::a6::a7::a8::a9::r:=by
 match l,h with
 |a0::a1::a2::a3::a4::a5::a6::a7::a8::a9::r,_=>exact⟨a0,a1,a2,a3,a4,a5,a6,a7,a8,a9,r,rfl⟩
theorem Hu{a3 a5 a7 a9:List UInt8}{bk:Option (Int×Int)}(h:fN a3=none):ji a3 a5 a7 a9 bk=none:=by
 unfold ji;split
 ·simp_all
 ·rfl
theorem Hv{a3 a5 a7 a9:List UInt8}{bk:Option (Int×Int)}(h:ou a5=none):ji a3 a5 a7 a9 bk=none:=by
 unfold ji;split
 ·simp_all
 ·rfl
theorem Hw{a3 a5 a7 a9:List UInt8}{bk:Option (Int×Int)}(h:qf a7=none):ji a3 a5 a7 a9 bk=none:=by
 unfold ji;split
 ·simp_all
 ·rfl
theorem Hx{a3 a5 a7 a9:List UInt8}{bk:Option (Int×Int)}(h:uo a9=none):ji a3 a5 a7 a9 bk=none:=by
 unfold ji;split
 ·simp_all
 ·rfl
theorem BI{a3 a5 a7 a9:List UInt8}:ji a3 a5 a7 a9 none=none:=by
 unfold ji;split
 ·rename_i h1;cases h1
 ·rfl
theorem BJ{a3 a5 a7 a9:List UInt8}{r:Nat}{t nx:List Nat}{m n:Nat}{bk lm:Int}(h3:fN a3=some r)(h5:ou a5=some t)(h7:qf a7=some (m,n))(h9:uo a9=some nx):
  ji a3 a5 a7 a9 (some (bk,lm))=some ⟨r,ints t,m,n,ints nx,bk,lm⟩:=by
 unfold ji;rw[h3,h5,h7,h9]
theorem CM{n:Nat}{line a0 a1 a2 a3 a4 a5 a6 a7 a8 a9:List UInt8}{r:List (List UInt8)}(h:cz 32 line=a0::a1::a2::a3::a4::a5::a6::a7::a8::a9::r):eZ n line=none∨ ∃bk,eZ n line=ji a3 a5 a7 a9 bk:=by
 unfold eZ
 rw[h]
 match r with
 |[]=>exact(Decidable.em (lC n a0 a1 a2 a4 a6 a8=true)).elim (fun hf=> .inr ⟨some (-1,0),if_pos hf⟩) (fun hf=> .inl (if_neg hf))
 |[b0,b1,b2,b3]=>exact(Decidable.em (lC n a0 a1 a2 a4 a6 a8=true∧b0=qg∧b2=mx)).elim (fun hf=> .inr ⟨vR b1 b3,if_pos hf⟩) (fun hf=> .inl (if_neg hf))
 |[_]=>exact .inl rfl
 |[_,_]=>exact .inl rfl
 |[_,_,_]=>exact .inl rfl
 |_::_::_::_::_::_=>exact .inl rfl
theorem CN{n:Nat}{line a0 a1 a2 a3 a4 a5 a6 a7 a8 a9:List UInt8}{r:List (List UInt8)}(h:cz 32 line=a0::a1::a2::a3::a4::a5::a6::a7::a8::a9::r)(hb: ∀bk,ji a3 a5 a7 a9 bk=none):eZ n line=none:=by
 rcases CM (n:=n) h with e|⟨bk,e⟩
 ·exact e
 ·rw[e,hb]
theorem CO{n:Nat}{a0 a1 a2 a3 a4 a5 a6 a7 a8 a9:List UInt8}{r:List (List UInt8)}(h:gZ (Kb n) (a0::a1::a2::a3::a4::a5::a6::a7::a8::a9::r)):lC n a0 a1 a2 a4 a6 a8=true:=by
 obtain rfl:=iB h 0 (w:=nB) rfl rfl (by decide)
 obtain rfl:=iB h 1 (w:=dec n) rfl rfl (uk n)
 obtain rfl:=iB h 2 (w:=lf) rfl rfl (by decide)
 obtain rfl:=iB h 4 (w:=nC) rfl rfl (by decide)
 obtain rfl:=iB h 6 (w:=rA) rfl rfl (by decide)
 obtain rfl:=iB h 8 (w:=rB) rfl rfl (by decide)
 unfold lC;simp
theorem vZ{n:Nat}{a0 a1 a2 a3 a4 a5 a6 a7 a8 a9:List UInt8}{r:List (List UInt8)}(h:lC n a0 a1 a2 a4 a6 a8=true):gZ (Kb n) (a0::a1::a2::a3::a4::a5::a6::a7::a8::a9::r):=by
 unfold lC at h
 simp only[Bool.and_eq_true,beq_iff_eq]at h
 obtain⟨⟨⟨⟨⟨rfl,rfl⟩,rfl⟩,rfl⟩,rfl⟩,rfl⟩:=h
 refine⟨by show 10≤_;simp only[List.length_cons];omega,fun i w hw=>?_⟩
 match i,hw with
 |0,hw=>exact .inr hw
 |1,hw=>exact .inr hw
 |2,hw=>exact .inr hw
 |3,hw=>exact .inl (Option.some.inj hw).symm
 |4,hw=>exact .inr hw
 |5,hw=>exact .inl (Option.some.inj hw).symm
 |6,hw=>exact .inr hw
 |7,hw=>exact .inl (Option.some.inj hw).symm
 |8,hw=>exact .inr hw
 |9,hw=>exact .inl (Option.some.inj hw).symm
 |_+10,hw=>cases hw
theorem CP{a0 a1 a2 a3 a4 a5 a6 a7 a8 a9 b1 b3:List UInt8}:gZ KN [a0,a1,a2,a3,a4,a5,a6,a7,a8,a9,qg,b1,mx,b3]:=by
 refine⟨Nat.le_refl _,fun i w hw=>?_⟩
 match i,hw with
 |0,hw=>exact .inl (Option.some.inj hw).symm
 |1,hw=>exact .inl (Option.some.inj hw).symm
 |2,hw=>exact .inl (Option.some.inj hw).symm
 |3,hw=>exact .inl (Option.some.inj hw).symm
 |4,hw=>exact .inl (Option.some.inj hw).symm
 |5,hw=>exact .inl (Option.some.inj hw).symm
 |6,hw=>exact .inl (Option.some.inj hw).symm
 |7,hw=>exact .inl (Option.some.inj hw).symm
 |8,hw=>exact .inl (Option.some.inj hw).symm
 |9,hw=>exact .inl (Option.some.inj hw).symm
 |10,hw=>exact .inr hw
 |11,hw=>exact .inl (Option.some.inj hw).symm
 |12,hw=>exact .inr hw
 |13,hw=>exact .inl (Option.some.inj hw).symm
 |_+14,hw=>cases hw
theorem Fk{n:Nat}{line:List UInt8}(h: ¬gZ (Kb n) (cz 32 line)):eZ n line=none:=by
 unfold eZ
 split
 ·rename_i he
  rw[he]at h
  rw[if_neg fun hf=>h (vZ hf)]
 ·rename_i he
  rw[he]at h
  rw[if_neg fun hf=>h (vZ hf.1)]
 ·rfl
theorem Az{n:Nat}{line a0 a1 a2 a3 a4 a5 a6 a7 a8 a9:List UInt8}(h:cz 32 line=[a0,a1,a2,a3,a4,a5,a6,a7,a8,a9])(hf:lC n a0 a1 a2 a4 a6 a8=true):eZ n line=ji a3 a5 a7 a9 (some (-1,0)):=by
 unfold eZ;rw[h];show(if _ then _ else _)=_;rw[if_pos hf]
theorem CQ{n:Nat}{line a0 a1 a2 a3 a4 a5 a6 a7 a8 a9 b0 b1 b2 b3:List UInt8}(h:cz 32 line=[a0,a1,a2,a3,a4,a5,a6,a7,a8,a9,b0,b1,b2,b3])(hf:lC n a0 a1 a2 a4 a6 a8=true)
  (hb:gZ KN [a0,a1,a2,a3,a4,a5,a6,a7,a8,a9,b0,b1,b2,b3]):eZ n line=ji a3 a5 a7 a9 (vR b1 b3):=by
 obtain rfl:=iB hb 10 (w:=qg) rfl rfl (by decide)
 obtain rfl:=iB hb 12 (w:=mx) rfl rfl (by decide)
 unfold eZ;rw[h];show(if _ then _ else _)=_;rw[if_pos ⟨hf,rfl,rfl⟩]
theorem CR{n:Nat}{line:List UInt8}(hl:10<(cz 32 line).length)(h: ¬gZ KN (cz 32 line)):eZ n line=none:=by
 unfold eZ
 split
 ·rename_i he
  rw[he]at hl;exact absurd hl (by simp)
 ·rename_i he
  rw[he]at h
  rw[if_neg]
  rintro⟨_,rfl,rfl⟩
  exact h CP
 ·rfl
theorem CS{n:Nat}{line:List UInt8}(hl:10<(cz 32 line).length)(h:(cz 32 line).length≠14):eZ n line=none:=by
 unfold eZ
 split
 ·rename_i he
  rw[he]at hl;exact absurd hl (by simp)
 ·rename_i he
  rw[he]at h;exact absurd rfl h
 ·rfl
def rJ(f:bV)(line:List UInt8):Option Step:=(eZ f.steps.length line).bind fun s=>if(cg s 40&&decide ((f.steps.length:Int)<40)&&decide ((f.windows.length:Int)=0))=true then some s else none
theorem gk{f:bV}{line:List UInt8}(h:eZ f.steps.length line=none):rJ f line=none:=by unfold rJ;rw[h];rfl
end Go.Proofs.YtebobfdheanknaaGreatDoor
