/- Parts of the proof, from: The walks through base.kinds: where the facts of each kind lie, and how they are ordered. -/
import Derived.Test.YtebobfdheanknaaGreatDoorYg
import Derived.Test.YtebobfdheanknaaGreatDoorYc
import Derived.Test.YtebobfdheanknaaGreatDoorYe
import Derived.Test.YtebobfdheanknaaGreatDoorYd
namespace Go.Proofs.YtebobfdheanknaaGreatDoor
open Go Go.K
set_option maxRecDepth 10000
attribute [local irreducible] W WL cT cn bX bA bB bD cW cG
set_option maxHeartbeats 4000000
def rU:Nat→Nat
 |0=>94
 |1=>96
 |2=>97
 |3=>98
 |4=>100
 |5=>102
 |6=>103
 |7=>104
 |8=>106
 |9=>107
 |10=>109
 |_=>0
def rk:Nat→Nat
 |0=>95
 |1=>95
 |2=>95
 |3=>99
 |4=>101
 |5=>95
 |6=>95
 |7=>105
 |8=>95
 |9=>108
 |10=>95
 |_=>0
def lj:Nat→bc→Int×Int
 |3,f=>(f.waf,f.time)
 |4,f=>(f.prod,0)
 |7,f=>(f.oth,f.par)
 |9,f=>(f.rcp,f.time)
 |_,f=>(f.idn,0)
abbrev Dv(p:Int×Int):Value:=.agg #[.int .i64 p.1,.int .i64 p.2]
def vj(i:Nat):Prop:=i=0∨i=1∨i=2∨i=3∨i=4∨i=5∨i=6∨i=7∨i=8∨i=9∨i=10
theorem ku{i:Nat}(h:i<11):vj i:=by unfold vj;omega
theorem H2{i:Nat}(hi:vj i)(b:Nat)(g:G):CallsIn Wd 0 Tryz.prog (rU i) #[.pointer (some ⟨b,0,none⟩)] g.w (cR g fun _ r=>r= .pointer (some ⟨b,i,none⟩)):=by
 rcases hi with rfl|rfl|rfl|rfl|rfl|rfl|rfl|rfl|rfl|rfl|rfl
 ·have hs:=St.start g
  refine enter Tryz.func94 rfl Tryz.ntmps94 rfl ?_
  refine aX rfl ?_;refine aX rfl ?_
  exact aF (aV rfl rfl (hs.ret rfl))
 ·have hs:=St.start g
  refine enter Tryz.func96 rfl Tryz.ntmps96 rfl ?_
  refine aX rfl ?_;refine aX rfl ?_
  exact aF (aV rfl rfl (hs.ret rfl))
 ·have hs:=St.start g
  refine enter Tryz.func97 rfl Tryz.ntmps97 rfl ?_
  refine aX rfl ?_;refine aX rfl ?_
  exact aF (aV rfl rfl (hs.ret rfl))
 ·have hs:=St.start g
  refine enter Tryz.func98 rfl Tryz.ntmps98 rfl ?_
  refine aX rfl ?_;refine aX rfl ?_
  exact aF (aV rfl rfl (hs.ret rfl))
 ·have hs:=St.start g
  refine enter Tryz.func100 rfl Tryz.ntmps100 rfl ?_
  refine aX rfl ?_;refine aX rfl ?_
  exact aF (aV rfl rfl (hs.ret rfl))
 ·have hs:=St.start g
  refine enter Tryz.func102 rfl Tryz.ntmps102 rfl ?_
  refine aX rfl ?_;refine aX rfl ?_
  exact aF (aV rfl rfl (hs.ret rfl))
 ·have hs:=St.start g
  refine enter Tryz.func103 rfl Tryz.ntmps103 rfl ?_
  refine aX rfl ?_;refine aX rfl ?_
  exact aF (aV rfl rfl (hs.ret rfl))
 ·have hs:=St.start g
  refine enter Tryz.func104 rfl Tryz.ntmps104 rfl ?_
  refine aX rfl ?_;refine aX rfl ?_
  exact aF (aV rfl rfl (hs.ret rfl))
 ·have hs:=St.start g
  refine enter Tryz.func106 rfl Tryz.ntmps106 rfl ?_
  refine aX rfl ?_;refine aX rfl ?_
  exact aF (aV rfl rfl (hs.ret rfl))
 ·have hs:=St.start g
  refine enter Tryz.func107 rfl Tryz.ntmps107 rfl ?_
  refine aX rfl ?_;refine aX rfl ?_
  exact aF (aV rfl rfl (hs.ret rfl))
 ·have hs:=St.start g
  refine enter Tryz.func109 rfl Tryz.ntmps109 rfl ?_
  refine aX rfl ?_;refine aX rfl ?_
  exact aF (aV rfl rfl (hs.ret rfl))
theorem Dw{i:Nat}(hi:vj i):ag Tryz.prog (rU i):=by
 rcases hi with rfl|rfl|rfl|rfl|rfl|rfl|rfl|rfl|rfl|rfl|rfl
 ·exact P2
 ·exact P3
 ·exact P4
 ·exact P5
 ·exact K9
 ·exact K'
 ·exact La
 ·exact Lb
 ·exact Ld
 ·exact Le
 ·exact Lg
theorem oE(f:bc)(g:G):CallsIn Wd 0 Tryz.prog 95 #[fv f] g.w (cR g fun _ r=>r=Dv (f.idn,0)):=by
 have hs:=St.start g
 refine enter Tryz.func95 rfl Tryz.ntmps95 rfl ?_
 apply c_
 refine an rfl rfl (aR rfl hs rfl rfl ?_);clear hs;rintro b1 g1 hs ah;skip
 refine an rfl rfl (aK T.ok rfl hs rfl rfl ?_);clear hs;rintro b1 g1 hs ah;skip
 apply cf;refine dx 2 [.o 1] hs rfl ?_
 refine an rfl rfl (iH T.ok rfl (vs:=[(0,.int .i64 (f.idn)),(1,.int .i64 (0))]) (cells:=[.int .i64 (f.idn),.int .i64 (0)]) rfl rfl rfl rfl rfl (by kernel_rfl) ?_)
 refine bg rfl (aA T.ok 0 rfl hs rfl rfl rfl rfl rfl rfl rfl rfl rfl ?_);replace hs:=hs;rintro g1 hs ah;skip
 apply cf
 exact aF (kJ T.ok 0 rfl hs rfl rfl rfl (hs.ret rfl))
theorem MX{i:Nat}(hi:vj i)(f:bc)(g:G):CallsIn Wd 0 Tryz.prog (rk i) #[fv f] g.w (cR g fun _ r=>r=Dv (lj i f)):=by
 rcases hi with rfl|rfl|rfl|rfl|rfl|rfl|rfl|rfl|rfl|rfl|rfl
 ·exact oE f g
 ·exact oE f g
 ·exact oE f g
 ·have hs:=St.start g
  refine enter Tryz.func99 rfl Tryz.ntmps99 rfl ?_
  apply c_
  refine an rfl rfl (aR rfl hs rfl rfl ?_);clear hs;rintro b1 g1 hs ah;skip
  refine an rfl rfl (aK T.ok rfl hs rfl rfl ?_);clear hs;rintro b1 g1 hs ah;skip
  apply cf;refine dx 4 [.o 1,.o 1] hs rfl ?_
  refine an rfl rfl (iH T.ok rfl (vs:=[(0,.int .i64 (f.waf)),(1,.int .i64 (f.time))]) (cells:=[.int .i64 (f.waf),.int .i64 (f.time)]) rfl rfl rfl rfl rfl (by kernel_rfl) ?_)
  refine bg rfl (aA T.ok 0 rfl hs rfl rfl rfl rfl rfl rfl rfl rfl rfl ?_);replace hs:=hs;rintro g1 hs ah;skip
  apply cf
  exact aF (kJ T.ok 0 rfl hs rfl rfl rfl (hs.ret rfl))
 ·have hs:=St.start g
  refine enter Tryz.func101 rfl Tryz.ntmps101 rfl ?_
  apply c_
  refine an rfl rfl (aR rfl hs rfl rfl ?_);clear hs;rintro b1 g1 hs ah;skip
  refine an rfl rfl (aK T.ok rfl hs rfl rfl ?_);clear hs;rintro b1 g1 hs ah;skip
  apply cf;refine dx 2 [.o 1] hs rfl ?_
  refine an rfl rfl (iH T.ok rfl (vs:=[(0,.int .i64 (f.prod)),(1,.int .i64 (0))]) (cells:=[.int .i64 (f.prod),.int .i64 (0)]) rfl rfl rfl rfl rfl (by kernel_rfl) ?_)
  refine bg rfl (aA T.ok 0 rfl hs rfl rfl rfl rfl rfl rfl rfl rfl rfl ?_);replace hs:=hs;rintro g1 hs ah;skip
  apply cf
  exact aF (kJ T.ok 0 rfl hs rfl rfl rfl (hs.ret rfl))
 ·exact oE f g
 ·exact oE f g
 ·have hs:=St.start g
  refine enter Tryz.func105 rfl Tryz.ntmps105 rfl ?_
  apply c_
  refine an rfl rfl (aR rfl hs rfl rfl ?_);clear hs;rintro b1 g1 hs ah;skip
  refine an rfl rfl (aK T.ok rfl hs rfl rfl ?_);clear hs;rintro b1 g1 hs ah;skip
  apply cf;refine dx 4 [.o 1,.o 1] hs rfl ?_
  refine an rfl rfl (iH T.ok rfl (vs:=[(0,.int .i64 (f.oth)),(1,.int .i64 (f.par))]) (cells:=[.int .i64 (f.oth),.int .i64 (f.par)]) rfl rfl rfl rfl rfl (by kernel_rfl) ?_)
  refine bg rfl (aA T.ok 0 rfl hs rfl rfl rfl rfl rfl rfl rfl rfl rfl ?_);replace hs:=hs;rintro g1 hs ah;skip
  apply cf
  exact aF (kJ T.ok 0 rfl hs rfl rfl rfl (hs.ret rfl))
 ·exact oE f g
 ·have hs:=St.start g
  refine enter Tryz.func108 rfl Tryz.ntmps108 rfl ?_
  apply c_
  refine an rfl rfl (aR rfl hs rfl rfl ?_);clear hs;rintro b1 g1 hs ah;skip
  refine an rfl rfl (aK T.ok rfl hs rfl rfl ?_);clear hs;rintro b1 g1 hs ah;skip
  apply cf;refine dx 4 [.o 1,.o 1] hs rfl ?_
  refine an rfl rfl (iH T.ok rfl (vs:=[(0,.int .i64 (f.rcp)),(1,.int .i64 (f.time))]) (cells:=[.int .i64 (f.rcp),.int .i64 (f.time)]) rfl rfl rfl rfl rfl (by kernel_rfl) ?_)
  refine bg rfl (aA T.ok 0 rfl hs rfl rfl rfl rfl rfl rfl rfl rfl rfl ?_);replace hs:=hs;rintro g1 hs ah;skip
  apply cf
  exact aF (kJ T.ok 0 rfl hs rfl rfl rfl (hs.ret rfl))
 ·exact oE f g
theorem I5{i:Nat}(hi:vj i):ag Tryz.prog (rk i):=by
 rcases hi with rfl|rfl|rfl|rfl|rfl|rfl|rfl|rfl|rfl|rfl|rfl
 ·exact zv
 ·exact zv
 ·exact zv
 ·exact P6
 ·exact K_
 ·exact zv
 ·exact zv
 ·exact Lc
 ·exact zv
 ·exact Lf
 ·exact zv
def pv(i:Nat):Value:=.agg #[.func (.func (rU i)) #[] #[],.func (.func (rk i)) #[] #[]]
def kx:List (Int×Value):=[(1,pv 0),(2,pv 1),(3,pv 2),(4,pv 3),(5,pv 4),(6,pv 5),(7,pv 6),(8,pv 7),(9,pv 8),(10,pv 9),(11,pv 10)]
theorem BU{k:Int}(h1:1≤k)(h2:k≤11):ij k kx=some (pv (k-1).toNat):=by
 have:k=1∨k=2∨k=3∨k=4∨k=5∨k=6∨k=7∨k=8∨k=9∨k=10∨k=11:=by omega
 rcases this with rfl|rfl|rfl|rfl|rfl|rfl|rfl|rfl|rfl|rfl|rfl<;>rfl
theorem F_(g:G):CallsIn Wd 0 Tryz.prog 42 #[] g.w (cR g fun g' r=> ∃b,r= .map (some b)∧g'.im b∧g'.w.heap[b]? =some (ct kx)):=by
 have hs:=St.start g
 have hT:qJ Int Tryz.prog 82 _:=zw T.ok rfl rfl rfl rfl rfl
 refine enter Tryz.func42 rfl Tryz.ntmps42 rfl ?_
 refine aX rfl ?_;apply c_
 refine an rfl rfl (jH (κ:=Int) rfl hs ?_)
 clear hs;intro bm g1 hs ah
 refine an rfl rfl (aQ T.ok rfl (vs:=[(0,.func (.func (rU 0)) #[] #[]),(1,.func (.func (rk 0)) #[] #[])]) (cells:=[.func (.func (rU 0)) #[] #[],.func (.func (rk 0)) #[] #[]]) rfl rfl rfl rfl [(0,1),(1,1)] rfl (by kernel_rfl) ?_)
 refine bg rfl (dC (κ:=Int) hT 0 (.inr rfl) hs rfl rfl (a:=1) rfl rfl ?_)
 clear hs;intro g1 hs ah
 refine an rfl rfl (aQ T.ok rfl (vs:=[(0,.func (.func (rU 1)) #[] #[]),(1,.func (.func (rk 1)) #[] #[])]) (cells:=[.func (.func (rU 1)) #[] #[],.func (.func (rk 1)) #[] #[]]) rfl rfl rfl rfl [(0,1),(1,1)] rfl (by kernel_rfl) ?_)
 refine bg rfl (dC (κ:=Int) hT 0 (.inr rfl) hs rfl rfl (a:=2) rfl rfl ?_)
 clear hs;intro g1 hs ah
 refine an rfl rfl (aQ T.ok rfl (vs:=[(0,.func (.func (rU 2)) #[] #[]),(1,.func (.func (rk 2)) #[] #[])]) (cells:=[.func (.func (rU 2)) #[] #[],.func (.func (rk 2)) #[] #[]]) rfl rfl rfl rfl [(0,1),(1,1)] rfl (by kernel_rfl) ?_)
 refine bg rfl (dC (κ:=Int) hT 0 (.inr rfl) hs rfl rfl (a:=3) rfl rfl ?_)
 clear hs;intro g1 hs ah
 refine an rfl rfl (aQ T.ok rfl (vs:=[(0,.func (.func (rU 3)) #[] #[]),(1,.func (.func (rk 3)) #[] #[])]) (cells:=[.func (.func (rU 3)) #[] #[],.func (.func (rk 3)) #[] #[]]) rfl rfl rfl rfl [(0,1),(1,1)] rfl (by kernel_rfl) ?_)
 refine bg rfl (dC (κ:=Int) hT 0 (.inr rfl) hs rfl rfl (a:=4) rfl rfl ?_)
 clear hs;intro g1 hs ah
 refine an rfl rfl (aQ T.ok rfl (vs:=[(0,.func (.func (rU 4)) #[] #[]),(1,.func (.func (rk 4)) #[] #[])]) (cells:=[.func (.func (rU 4)) #[] #[],.func (.func (rk 4)) #[] #[]]) rfl rfl rfl rfl [(0,1),(1,1)] rfl (by kernel_rfl) ?_)
 refine bg rfl (dC (κ:=Int) hT 0 (.inr rfl) hs rfl rfl (a:=5) rfl rfl ?_)
 clear hs;intro g1 hs ah
 refine an rfl rfl (aQ T.ok rfl (vs:=[(0,.func (.func (rU 5)) #[] #[]),(1,.func (.func (rk 5)) #[] #[])]) (cells:=[.func (.func (rU 5)) #[] #[],.func (.func (rk 5)) #[] #[]]) rfl rfl rfl rfl [(0,1),(1,1)] rfl (by kernel_rfl) ?_)
 refine bg rfl (dC (κ:=Int) hT 0 (.inr rfl) hs rfl rfl (a:=6) rfl rfl ?_)
 clear hs;intro g1 hs ah
 refine an rfl rfl (aQ T.ok rfl (vs:=[(0,.func (.func (rU 6)) #[] #[]),(1,.func (.func (rk 6)) #[] #[])]) (cells:=[.func (.func (rU 6)) #[] #[],.func (.func (rk 6)) #[] #[]]) rfl rfl rfl rfl [(0,1),(1,1)] rfl (by kernel_rfl) ?_)
 refine bg rfl (dC (κ:=Int) hT 0 (.inr rfl) hs rfl rfl (a:=7) rfl rfl ?_)
 clear hs;intro g1 hs ah
 refine an rfl rfl (aQ T.ok rfl (vs:=[(0,.func (.func (rU 7)) #[] #[]),(1,.func (.func (rk 7)) #[] #[])]) (cells:=[.func (.func (rU 7)) #[] #[],.func (.func (rk 7)) #[] #[]]) rfl rfl rfl rfl [(0,1),(1,1)] rfl (by kernel_rfl) ?_)
 refine bg rfl (dC (κ:=Int) hT 0 (.inr rfl) hs rfl rfl (a:=8) rfl rfl ?_)
 clear hs;intro g1 hs ah
 refine an rfl rfl (aQ T.ok rfl (vs:=[(0,.func (.func (rU 8)) #[] #[]),(1,.func (.func (rk 8)) #[] #[])]) (cells:=[.func (.func (rU 8)) #[] #[],.func (.func (rk 8)) #[] #[]]) rfl rfl rfl rfl [(0,1),(1,1)] rfl (by kernel_rfl) ?_)
 refine bg rfl (dC (κ:=Int) hT 0 (.inr rfl) hs rfl rfl (a:=9) rfl rfl ?_)
 clear hs;intro g1 hs ah
 refine an rfl rfl (aQ T.ok rfl (vs:=[(0,.func (.func (rU 9)) #[] #[]),(1,.func (.func (rk 9)) #[] #[])]) (cells:=[.func (.func (rU 9)) #[] #[],.func (.func (rk 9)) #[] #[]]) rfl rfl rfl rfl [(0,1),(1,1)] rfl (by kernel_rfl) ?_)
 refine bg rfl (dC (κ:=Int) hT 0 (.inr rfl) hs rfl rfl (a:=10) rfl rfl ?_)
 clear hs;intro g1 hs ah
 refine an rfl rfl (aQ T.ok rfl (vs:=[(0,.func (.func (rU 10)) #[] #[]),(1,.func (.func (rk 10)) #[] #[])]) (cells:=[.func (.func (rU 10)) #[] #[],.func (.func (rk 10)) #[] #[]]) rfl rfl rfl rfl [(0,1),(1,1)] rfl (by kernel_rfl) ?_)
 refine bg rfl (dC (κ:=Int) hT 0 (.inr rfl) hs rfl rfl (a:=11) rfl rfl ?_)
 clear hs;intro g1 hs ah
 refine ba rfl ?_
 have aU:=hs.fz (i:=0) rfl
 have hh:=(hs.own 0 _ rfl).2.1
 refine aF (aV rfl rfl (aU.ret ⟨bm,rfl,.inr rfl,hh⟩))
end Go.Proofs.YtebobfdheanknaaGreatDoor
namespace Go.Proofs.YtebobfdheanknaaGreatDoor
variable {α:Type}
def kl(k:α→Int×Int)(x y:α):Bool:=decide ((k x).1<(k y).1∨((k x).1=(k y).1∧(k x).2<(k y).2))
variable {k:α→Int×Int}
theorem qt{x y:α}:kl k x y=true↔(k x).1<(k y).1∨((k x).1=(k y).1∧(k x).2<(k y).2):=by unfold kl;simp
theorem iC{x y:α}:kl k x y=false↔ ¬((k x).1<(k y).1∨((k x).1=(k y).1∧(k x).2<(k y).2)):=by unfold kl;simp
theorem C8{x y z:α}(h1:kl k x y=true)(h2:kl k y z=true):kl k x z=true:=by rw[qt]at*;omega
theorem qu{x y z:α}(h1:kl k x y=false)(h2:kl k y z=false):kl k x z=false:=by rw[iC]at*;omega
def C9(k:α→Int×Int)(x:α)(f:List α→List α)(xl:List α):List α→List α
 |[]=>xl
 |y::r=>if kl k y x=true then y::C9 k x f xl r else x::f (y::r)
def lE(k:α→Int×Int):List α→List α→List α
 |[],r=>r
 |x::l,r=>C9 k x (lE k l) (x::l) r
theorem gC(l:List α):lE k l []=l:=by cases l<;>rfl
theorem dQ(x y:α)(l r:List α):lE k (x::l) (y::r)=if kl k y x=true then y::lE k (x::l) r else x::lE k l (y::r):=rfl
theorem BP: ∀(n:Nat) (a b c:List α),a.length+b.length+c.length=n→lE k (lE k a b) c=lE k a (lE k b c):=by
 intro n
 induction n using Nat.strongRecOn with
 |_ n ih=>
  intro a b c hn
  match a,b,c with
  |[],b,c=>rfl
  |x::a,[],c=>rw[gC];rfl
  |x::a,y::b,[]=>rw[gC,gC]
  |x::a,y::b,z::c=>
   simp only[List.length_cons]at hn
   rw[dQ x y,dQ y z]
   by_cases h1:kl k y x=true
   ·rw[if_pos h1]
    by_cases h2:kl k z y=true
    ·rw[if_pos h2,dQ,if_pos h2,dQ,if_pos (C8 h2 h1)]
     congr 1
     have e:y::lE k (x::a) b=lE k (x::a) (y::b):=by rw[dQ,if_pos h1]
     rw[e]
     exact ih (n-1) (by omega) (x::a) (y::b) c (by simp only[List.length_cons];omega)
    ·rw[if_neg h2,dQ,if_neg h2,dQ,if_pos h1]
     congr 1
     exact ih (n-1) (by omega) (x::a) b (z::c) (by simp only[List.length_cons];omega)
   ·rw[if_neg h1]
    by_cases h2:kl k z y=true
    ·rw[if_pos h2,dQ,dQ]
     by_cases h3:kl k z x=true
     ·rw[if_pos h3,if_pos h3]
      congr 1
      have e:x::lE k a (y::b)=lE k (x::a) (y::b):=by rw[dQ,if_neg h1]
      rw[e]
      exact ih (n-1) (by omega) (x::a) (y::b) c (by simp only[List.length_cons];omega)
     ·rw[if_neg h3,if_neg h3]
      congr 1
      have e:z::lE k (y::b) c=lE k (y::b) (z::c):=by rw[dQ,if_pos h2]
      rw[e]
      exact ih (n-1) (by omega) a (y::b) (z::c) (by simp only[List.length_cons];omega)
    ·have h3: ¬kl k z x=true:=by
      have:=qu (Bool.eq_false_iff.2 h2) (Bool.eq_false_iff.2 h1)
      rw[this];simp
     rw[if_neg h2,dQ,if_neg h3,dQ,if_neg h1]
     congr 1
     have e:y::lE k b (z::c)=lE k (y::b) (z::c):=by rw[dQ,if_neg h2]
     rw[e]
     exact ih (n-1) (by omega) a (y::b) (z::c) (by simp only[List.length_cons];omega)
theorem gQ: ∀(a1 b1:List α) {a2 b2:List α},(∀x∈a1,∀y∈b2,kl k y x=false)→(∀y∈b1,∀x∈a2,kl k y x=true)→lE k (a1++a2) (b1++b2)=lE k a1 b1++lE k a2 b2
 |[],[],_,_,_,_=>rfl
 |[],y::b1,a2,b2,h1,h2=>by
  have ih:=gQ [] b1 (a2:=a2) (b2:=b2) (by simp) (fun z hz=>h2 z (List.mem_cons_of_mem _ hz))
  cases a2 with
  |nil=>rfl
  |cons x a2=>
   simp only[List.nil_append,List.cons_append]at ih⊢
   rw[dQ,if_pos (h2 y (List.mem_cons_self ..) x (List.mem_cons_self ..)),ih];rfl
 |x::a1,[],a2,b2,h1,h2=>by
  have ih:=gQ a1 [] (a2:=a2) (b2:=b2) (fun z hz=>h1 z (List.mem_cons_of_mem _ hz)) (by simp)
  rw[gC]at ih⊢
  cases b2 with
  |nil=>rw[List.append_nil,gC,gC]
  |cons y b2=>
   simp only[List.nil_append,List.cons_append]at ih⊢
   rw[dQ,if_neg (by rw[h1 x (List.mem_cons_self ..) y (List.mem_cons_self ..)];simp),ih]
 |x::a1,y::b1,a2,b2,h1,h2=>by
  have Se:=gQ (x::a1) b1 (a2:=a2) (b2:=b2) h1 (fun z hz=>h2 z (List.mem_cons_of_mem _ hz))
  have Sf:=gQ a1 (y::b1) (a2:=a2) (b2:=b2) (fun z hz=>h1 z (List.mem_cons_of_mem _ hz)) h2
  simp only[List.cons_append]at Se Sf⊢
  rw[dQ,dQ]
  split
  ·rw[Se];rfl
  ·rw[Sf];rfl
def dK(k:α→Int×Int):List α→List α
 |[]=>[]
 |x::l=>lE k [x] (dK k l)
theorem pb: ∀(l r:List α),dK k (l++r)=lE k (dK k l) (dK k r)
 |[],r=>rfl
 |x::l,r=>by
  show lE k [x] (dK k (l++r))=lE k (lE k [x] (dK k l)) (dK k r)
  rw[pb l r,BP _ _ _ _ rfl]
theorem mP: ∀(l r:List α),(lE k l r).Perm (l++r)
 |[],r=>List.Perm.refl _
 |x::l,r=>by
  have aux: ∀r:List α,(lE k (x::l) r).Perm (x::l++r):=by
   intro r
   induction r with
   |nil=>rw[gC,List.append_nil]
   |cons y r ih=>
    rw[dQ]
    split
    ·exact(ih.cons y).trans List.perm_middle.symm
    ·exact((mP l (y::r)).cons x)
  exact aux r
theorem iM: ∀l:List α,(dK k l).Perm l
 |[]=>List.Perm.refl _
 |x::l=>(mP [x] (dK k l)).trans ((iM l).cons x)
def zj(k:α→Int×Int)(l:List α):Prop:=l.Pairwise fun x y=>kl k y x=false
theorem AJ: ∀(l r:List α),zj k l→zj k r→zj k (lE k l r)
 |[],r,_,h=>h
 |x::l,r,hl,hr=>by
  have aux: ∀r:List α,zj k r→zj k (lE k (x::l) r):=by
   intro r
   induction r with
   |nil=>intro _;rw[gC];exact hl
   |cons y r ih=>
    intro hr
    rw[dQ]
    have CV:=List.pairwise_cons.1 hl
    have HA:=List.pairwise_cons.1 hr
    split
    ·rename_i h
     refine List.pairwise_cons.2 ⟨fun z hz=>?_,ih HA.2⟩
     have hz:=(mP (x::l) r).mem_iff.1 hz
     simp only[List.cons_append,List.mem_cons,List.mem_append]at hz
     rcases hz with rfl|hz|hz
     ·rw[qt]at h;rw[iC];omega
     ·have:=CV.1 z hz;rw[qt]at h;rw[iC]at this⊢;omega
     ·exact HA.1 z hz
    ·rename_i h
     have h:=Bool.eq_false_iff.2 h
     refine List.pairwise_cons.2 ⟨fun z hz=>?_,AJ l (y::r) CV.2 hr⟩
     have hz:=(mP l (y::r)).mem_iff.1 hz
     simp only[List.mem_append,List.mem_cons]at hz
     rcases hz with hz|rfl|hz
     ·exact CV.1 z hz
     ·exact h
     ·exact qu (HA.1 z hz) h
  exact aux r hr
theorem jG: ∀l:List α,zj k (dK k l)
 |[]=>List.Pairwise.nil
 |x::l=>AJ [x] _ (List.pairwise_singleton _ _) (jG l)
theorem ox: ∀{l r:List α},l.Perm r→zj k l→zj k r→(∀x∈l,∀y∈l,k x=k y→x=y)→l=r
 |[],r,hp,_,_,_=>(List.nil_perm.1 hp).symm
 |x::l,[],hp,_,_,_=>(List.Perm.nil_eq hp.symm).symm
 |x::l,y::r,hp,hl,hr,hd=>by
  have CV:=List.pairwise_cons.1 hl
  have HA:=List.pairwise_cons.1 hr
  have Kl:x=y:=by
   have hx:=hp.mem_iff.1 (List.mem_cons_self (a:=x) (l:=l))
   have hy:=hp.mem_iff.2 (List.mem_cons_self (a:=y) (l:=r))
   rcases List.mem_cons.1 hx with h|h
   ·exact h
   rcases List.mem_cons.1 hy with h2|h2
   ·exact h2.symm
   have e1:=HA.1 x h
   have e2:=CV.1 y h2
   refine hd x (List.mem_cons_self ..) y (List.mem_cons_of_mem _ h2) (Prod.ext ?_ ?_)<;>(rw[iC]at e1 e2;omega)
  subst Kl
  rw[ox (hp.cons_inv) CV.2 HA.2 fun a ha b hb=>hd a (List.mem_cons_of_mem _ ha) b (List.mem_cons_of_mem _ hb)]
end Go.Proofs.YtebobfdheanknaaGreatDoor
namespace Go.Proofs.YtebobfdheanknaaGreatDoor
open Go Go.K
set_option maxRecDepth 10000
attribute [local irreducible] W WL cT cn bX bA bB bD cW cG
abbrev KF:=List (List UInt8×bc)
def zt(a:List UInt8):KF→Option bc
 |[]=>none
 |(k,v)::r=>if a=k then some v else zt a r
def mE(a:List UInt8)(x:bc):KF→KF
 |[]=>[(a,x)]
 |(k,v)::r=>if a=k then(k,x)::r else(k,v)::mE a x r
def cq(m:KF):List (List UInt8×Value):=m.map fun p=>(p.1,fv p.2)
theorem AK(a:List UInt8): ∀m:KF,ij a (cq m)=(zt a m).map fv
 |[]=>rfl
 |(k,v)::r=>by
  show(if a=k then some (fv v)else ij a (cq r))=(if a=k then some v else zt a r).map fv
  split
  ·rfl
  ·exact AK a r
theorem wg(a:List UInt8)(x:bc): ∀m:KF,iX a (fv x) (cq m)=cq (mE a x m)
 |[]=>rfl
 |(k,v)::r=>by
  show(if a=k then(k,fv x)::cq r else(k,fv v)::iX a (fv x) (cq r))=cq (if a=k then(k,x)::r else(k,v)::mE a x r)
  split
  ·rfl
  ·rw[wg a x r];rfl
theorem F0(m:KF):(cq m).length=m.length:=List.length_map ..
theorem IM{m:KF}{j:Nat}{q:List UInt8×Value}(h:(cq m)[j]? =some q): ∃p,m[j]? =some p∧q=(p.1,fv p.2):=by
 unfold cq at h
 rw[List.getElem?_map]at h
 cases hm:m[j]? with
 |none=>rw[hm]at h;cases h
 |some p=>rw[hm]at h;exact⟨p,rfl,(Option.some.inj h).symm⟩
def iD(day:Int)(m:KF)(f:bc):KF:=
 if fp f=[]∨day<f.day then m
 else if(match zt (fp f) m with|none=>true|some o=>oa f o)=true then mE (fp f) f m else m
def jU(day:Int)(l:List bc):KF:=l.foldl (iD day) []
def gH(m:KF)(i:Nat):List bc:=(m.filter fun p=> !p.2.gone&&decide (p.2.kind=(i:Int)+1)).map (·.2)
def ofM(l:List bc)(day:Int):fX:=⟨fun i=>dK (lj i) (gH (jU day l) i)⟩
theorem va{a:List UInt8}{x:bc}: ∀{m:KF} (k:List UInt8),k∈(mE a x m).map (·.1)→k=a∨k∈m.map (·.1)
 |[],k,h=>by simp[mE]at h;exact .inl h
 |(b,v)::r,k,h=>by
  unfold mE at h
  split at h
  ·exact .inr (by simpa using h)
  ·simp only[List.map_cons,List.mem_cons]at h⊢
   rcases h with h|h
   ·exact .inr (.inl h)
   ·rcases va k h with h|h
    ·exact .inl h
    ·exact .inr (.inr h)
theorem sF{a:List UInt8}{x:bc}: ∀{m:KF},(m.map (·.1)).Nodup→((mE a x m).map (·.1)).Nodup
 |[],_=>by simp[mE]
 |(b,v)::r,h=>by
  unfold mE
  split
  ·simpa using h
  ·rename_i fu
   simp only[List.map_cons,List.nodup_cons]at h⊢
   refine⟨fun hb=>?_,sF h.2⟩
   rcases va b hb with e|e
   ·exact fu e.symm
   ·exact h.1 e
theorem xH{a:List UInt8}{x:bc}: ∀{m:KF} {p},p∈mE a x m→p=(a,x)∨p∈m
 |[],p,h=>by simp[mE]at h;exact .inl h
 |(b,v)::r,p,h=>by
  unfold mE at h
  split at h
  ·rename_i e
   rcases List.mem_cons.1 h with h|h
   ·subst e;exact .inl h
   ·exact .inr (List.mem_cons_of_mem _ h)
  ·rcases List.mem_cons.1 h with h|h
   ·exact .inr (h▸List.mem_cons_self ..)
   ·rcases xH h with h|h
    ·exact .inl h
    ·exact .inr (List.mem_cons_of_mem _ h)
theorem xI{a:List UInt8}{x:bc}: ∀m:KF,(mE a x m).length≤m.length+1
 |[]=>Nat.le_refl _
 |(b,v)::r=>by
  unfold mE
  split
  ·simp
  ·simp only[List.length_cons];have:=xI (a:=a) (x:=x) r;omega
def FF(m:KF):Prop:=(m.map (·.1)).Nodup∧ ∀p∈m,p.1=fp p.2∧p.1≠[]
theorem FF.put{m:KF}{f:bc}(h:FF m)(hk:fp f≠[]):FF (mE (fp f) f m):=
 ⟨sF h.1,fun p hp=>(xH hp).elim (fun e=>by subst e;exact⟨rfl,hk⟩) (h.2 p)⟩
theorem AL(day:Int)(m:KF)(f:bc):iD day m f=m∨(fp f≠[]∧iD day m f=mE (fp f) f m):=by
 unfold iD
 by_cases hc:fp f=[]∨day<f.day
 ·exact .inl (if_pos hc)
 ·rw[if_neg hc]
  generalize(match zt (fp f) m with|none=>true|some o=>oa f o)=b
  cases b
  ·exact .inl rfl
  ·exact .inr ⟨fun e=>hc (.inl e),rfl⟩
theorem FF.step{day:Int}{m:KF}{f:bc}(h:FF m):FF (iD day m f):=by
 rcases AL day m f with e|⟨hk,e⟩<;>rw[e]
 ·exact h
 ·exact h.put hk
theorem C_(day:Int)(l:List bc)(f:bc):jU day (l++[f])=iD day (jU day l) f:=by
 unfold jU;rw[List.foldl_append];rfl
theorem xJ{P:KF→List bc→Prop}{day:Int}(h0:P [] [])(h1: ∀m l f,P m l→P (iD day m f) (l++[f]))(l:List bc):P (jU day l) l:=by
 unfold jU
 suffices h: ∀(l2 l1:List bc) m,P m l1→P (l2.foldl (iD day) m) (l1++l2) by simpa using h l [] [] h0
 intro l2
 induction l2 with
 |nil=>intro l1 m h;simpa using h
 |cons f l2 ih=>intro l1 m h;have:=ih (l1++[f]) _ (h1 m l1 f h);simpa using this
theorem AM(day:Int)(l:List bc):FF (jU day l):=xJ (P:=fun m _=>FF m) ⟨by simp,by simp⟩ (fun m l f h=>h.step) l
theorem xK(day:Int)(l:List bc):(jU day l).length≤l.length:=
 xJ (P:=fun m l=>m.length≤l.length) (Nat.le_refl _) (fun m l f h=>by
  have:=xI (a:=fp f) (x:=f) m
  rw[List.length_append,List.length_singleton]
  rcases AL day m f with e|⟨_,e⟩<;>rw[e]<;>omega) l
theorem PA{f h:bc}(hf:fp f≠[])(hh:fp h≠[])(hk:f.kind=h.kind)(ho:lj (f.kind-1).toNat f=lj (f.kind-1).toNat h):fp f=fp h:=by
 have v1:fm f=true:=by cases e:fm f with|true=>rfl|false=>exact absurd (by unfold fp;rw[e];rfl) hf
 have v2:fm h=true:=by cases e:fm h with|true=>rfl|false=>exact absurd (by unfold fp;rw[e];rfl) hh
 obtain⟨s,hs,_⟩:=kQ v1
 obtain⟨_,_,_,_,_,_,h1,h2⟩:=mO hs
 unfold fp
 rw[v1,v2,if_pos rfl,if_pos rfl,←hk]
 congr 1
 have:f.kind=1∨f.kind=2∨f.kind=3∨f.kind=4∨f.kind=5∨f.kind=6∨f.kind=7∨f.kind=8∨f.kind=9∨f.kind=10∨f.kind=11:=by omega
 rcases this with e|e|e|e|e|e|e|e|e|e|e<;>rw[e]at ho⊢ <;>(
  simp only[lj,Prod.mk.injEq,show((1:Int)-1).toNat=0 from rfl,show((2:Int)-1).toNat=1 from rfl,show((3:Int)-1).toNat=2 from rfl,show((4:Int)-1).toNat=3 from rfl,show((5:Int)-1).toNat=4 from rfl,show((6:Int)-1).toNat=5 from rfl,show((7:Int)-1).toNat=6 from rfl,show((8:Int)-1).toNat=7 from rfl,show((9:Int)-1).toNat=8 from rfl,show((10:Int)-1).toNat=9 from rfl,show((11:Int)-1).toNat=10 from rfl]at ho
  simp[dM,lU,sD,lT,eD,ez,qq,bc.num,ho.1,ho.2])
theorem sG{m:KF}{i:Nat}{f:bc}(h:f∈gH m i): ∃k,(k,f)∈m∧f.kind=(i:Int)+1:=by
 unfold gH at h
 obtain⟨p,hp,rfl⟩:=List.mem_map.1 h
 obtain⟨h1,h2⟩:=List.mem_filter.1 hp
 simp only[Bool.and_eq_true,decide_eq_true_eq]at h2
 exact⟨p.1,h1,h2.2⟩
theorem Da{m:KF}(hm:FF m){i:Nat}{f h:bc}(hf:f∈gH m i)(hh:h∈gH m i)(ho:lj i f=lj i h):f=h:=by
 obtain⟨k1,m1,e1⟩:=sG hf
 obtain⟨k2,m2,e2⟩:=sG hh
 obtain⟨a1,b1⟩:=hm.2 _ m1
 obtain⟨a2,b2⟩:=hm.2 _ m2
 simp only at a1 b1 a2 b2
 subst a1;subst a2
 have hi:(f.kind-1).toNat=i:=by omega
 have e:=PA b1 b2 (by omega) (by rw[hi];exact ho)
 have AN:=hm.1
 obtain⟨x,hx,ex⟩:=List.mem_iff_getElem.1 m1
 obtain⟨y,hy,ey⟩:=List.mem_iff_getElem.1 m2
 have Kl:x=y:=(List.getElem_inj (xs:=m.map (·.1)) (i:=x) (j:=y) (h₀:=by simpa using hx) (h₁:=by simpa using hy) AN).1 (by simp only[List.getElem_map];rw[ex,ey];exact e)
 subst Kl
 rw[ex]at ey
 exact congrArg Prod.snd ey
theorem zu{m:KF}(hm:FF m){i:Nat}{ys:List bc}(hp:ys.Perm (gH m i)):dK (lj i) ys=dK (lj i) (gH m i):=by
 refine ox (((iM ys).trans hp).trans (iM _).symm) (jG _) (jG _) fun x hx y hy h=>?_
 exact Da hm (hp.mem_iff.1 ((iM ys).mem_iff.1 hx)) (hp.mem_iff.1 ((iM ys).mem_iff.1 hy)) h
def qw{α:Type}(m:List α)(js:List Nat):List α:=js.filterMap fun j=>m[j]?
theorem sH{α:Type}{m:List α}{js:List Nat}{j:Nat}{p:α}(h:m[j]? =some p):qw m (js++[j])=qw m js++[p]:=by
 unfold qw;rw[List.filterMap_append];simp[h]
theorem Db(m r:KF)(i:Nat):gH (m++r) i=gH m i++gH r i:=by unfold gH;rw[List.filter_append,List.map_append]
theorem BQ{m r:KF}(h:m.Perm r)(i:Nat):(gH m i).Perm (gH r i):=(h.filter _).map _
theorem sI(m:KF)(i:Nat):(gH m i).length≤m.length:=by unfold gH;rw[List.length_map];exact List.length_filter_le ..
theorem BR{α:Type}(m:List α):qw m (List.range m.length)=m:=by
 unfold qw
 induction m with
 |nil=>rfl
 |cons p m ih=>
  rw[List.length_cons,List.range_succ_eq_map,List.filterMap_cons]
  simp only[List.getElem?_cons_zero]
  rw[List.filterMap_map]
  congr 1
theorem AO{α:Type}{m:List α}{js:List Nat}(hn:js.Nodup)(h1: ∀j∈js,j<m.length)(h2: ∀j,j<m.length→j∈js):(qw m js).Perm m:=by
 have hp:js.Perm (List.range m.length):=(List.perm_ext_iff_of_nodup hn List.nodup_range).2 fun a=>by rw[List.mem_range];exact⟨h1 a,h2 a⟩
 have:=hp.filterMap (fun j=>m[j]?)
 rw[show(List.range m.length).filterMap (fun j=>m[j]?)=m from BR m]at this
 exact this
theorem wh{α:Type}(m:List α)(js:List Nat):(qw m js).length≤js.length:=List.length_filterMap_le ..
end Go.Proofs.YtebobfdheanknaaGreatDoor
namespace Go.Proofs.YtebobfdheanknaaGreatDoor
open Go Go.K
set_option maxRecDepth 10000
attribute [local irreducible] W WL cT cn bX bA bB bD cW cG
set_option maxHeartbeats 2000000
def jx(a b:Int):Int:=if a<b then -1 else if b<a then 1 else 0
def FU:List Int→Int
 |[]=>0
 |n::r=>if n=0 then FU r else n
def qK(p q:Int×Int):Int:=FU [jx p.1 q.1,jx p.2 q.2]
theorem kT{α:Type}(k:α→Int×Int)(x y:α):decide (qK (k x) (k y)<0)=kl k x y:=by
 unfold qK kl jx FU FU FU
 by_cases h1:(k x).1<(k y).1
 ·simp[h1]
 ·by_cases h2:(k y).1<(k x).1
  ·have:(k x).1≠(k y).1:=by omega
   simp[h1,h2,this]
  ·have:(k x).1=(k y).1:=by omega
   by_cases h3:(k x).2<(k y).2
   ·simp[this,h3]
   ·by_cases h4:(k y).2<(k x).2<;>simp[this,h3,h4]
theorem Bl(n:Int)(g:G):CallsIn Wd 0 Tryz.prog 194 #[.int .i64 n] g.w (cR g fun _ r=>r= .bool false):=by
 have hs:=St.start g
 refine enter Tryz.func194 rfl Tryz.ntmps194 rfl ?_
 refine aX rfl ?_;refine aX rfl ?_
 exact aF (aV rfl rfl (hs.ret (by simp)))
theorem wu(m n:Int)(g:G):CallsIn Wd 0 Tryz.prog 113 #[.int .i64 m,.int .i64 n] g.w (cR g fun _ r=>r= .int .i64 (jx m n)):=by
 have hs:=St.start g
 refine enter Tryz.func113 rfl Tryz.ntmps113 rfl ?_
 refine aX rfl ?_;refine cP 1 rfl ?_
 refine an rfl rfl (ay HM aI rfl rfl rfl rfl rfl (Bl _ _) ?_);rintro g1 _ aN rfl;replace hs:=hs.call aN;have ah:=aN.le;skip
 refine ba rfl ?_;refine cP 1 rfl ?_
 refine an rfl rfl (ay HM aI rfl rfl rfl rfl rfl (Bl _ _) ?_);rintro g1 _ aN rfl;replace hs:=hs.call aN;have ah:=aN.le;skip
 refine ba rfl ?_;apply aB;refine aX rfl ?_
 refine aS rfl rfl ?_
 apply aE;apply au;apply aB;refine aX rfl ?_
 refine aS rfl rfl ?_
 apply aE;apply au;apply aB;refine aX rfl ?_
 by_cases h1:m<n
 ·refine aJ (b:=decide (m<n)) (by simp[h1]) rfl ?_
  refine aX rfl ?_
  exact aF (aV rfl rfl (hs.ret (by simp[jx,h1])))
 ·refine aS (b:=decide (m<n)) (by simp[h1]) rfl ?_
  apply aE;apply au;apply aB;refine aX rfl ?_
  by_cases h2:n<m
  ·refine aJ (b:=decide (n<m)) (by simp[h2]) rfl ?_
   refine aX rfl ?_
   exact aF (aV rfl rfl (hs.ret (by simp[jx,h1,h2])))
  ·refine aS (b:=decide (n<m)) (by simp[h2]) rfl ?_
   apply aE;apply au;refine aX rfl ?_
   exact aF (aV rfl rfl (hs.ret (by simp[jx,h1,h2])))
theorem MY(v:Value)(l:List Int)(g:G)(aH:Rs g v l):CallsIn Wd 0 Tryz.prog 112 #[v] g.w (cR g fun _ r=>r= .int .i64 (FU l)):=by
 obtain⟨a,c,rfl⟩:=aH.isSlice
 have hlen:=aH.dU
 unfold maxLen at hlen
 have hs:=St.start g
 refine enter Tryz.func112 rfl Tryz.ntmps112 rfl ?_
 refine aX rfl ?_;refine aX rfl ?_;apply aB;refine aX rfl ?_;apply aG
 refine bS (fun m a' w=> ∃(k:Nat),w=g.w∧k≤l.length∧m=l.length-k∧FU (l.drop k)=FU l∧
  Fr 18 [] [(3,.int .i64 0),(6,.slice a l.length c),(7,.int .i64 l.length),(8,.int .i64 k)] a') l.length (fun a' ha=>⟨0,rfl,Nat.zero_le _,rfl,rfl,ha.keep (by(repeat (first|exact trivial|refine⟨rfl,?_⟩)))⟩) ?_
 rintro m a' _ ⟨k,rfl,hk,rfl,dy,eI⟩
 revert a'
 apply cQ;refine aX rfl ?_;apply aB
 by_cases bh:k<l.length
 ·refine aJ (b:=decide ((k:Int)<(l.length:Int))) (by simp;omega) rfl ?_
  rw[List.drop_eq_getElem_cons bh,FU]at dy
  apply aE;apply au;apply aB;apply aG;apply c_
  refine an rfl rfl (aW T.ok rfl aH (y:=l[k]) (by simp[dA,bh]) rfl rfl rfl rfl rfl rfl ?_)
  rintro b p ys aL rfl
  refine Wm 1 [.e aL 0] (St.start _) rfl ?_
  refine ba rfl ?_;refine aX rfl ?_
  by_cases hz:l[k]=0
  ·refine aS (b:=l[k] !=0) (by simp[hz]) rfl ?_
   rw[if_pos hz]at dy
   apply aE;apply bU;apply au;apply ar;refine Wp 2 rfl ?_;apply aD
   exact fun a ha=>⟨l.length-(k+1),by omega,k+1,rfl,by omega,rfl,dy,ha.keep ⟨rfl,rfl,rfl,kI rfl (by rw[wr (by omega) (by omega)];omega),trivial⟩⟩
  ·refine aJ (b:=l[k] !=0) (by simp[hz]) rfl ?_
   rw[if_neg hz]at dy
   refine aX rfl ?_
   exact aF (aV rfl rfl (hs.ret (by rw[dy])))
 ·refine aS (b:=decide ((k:Int)<(l.length:Int))) (by simp;omega) rfl ?_
  obtain rfl:k=l.length:=by omega
  apply bE;apply bK;apply bK;apply dc;apply au;refine aX rfl ?_
  rw[List.drop_length,FU]at dy
  exact aF (aV rfl rfl (hs.ret (by rw[←dy])))
end Go.Proofs.YtebobfdheanknaaGreatDoor
namespace Go.Proofs.YtebobfdheanknaaGreatDoor
open Go Go.K
set_option maxRecDepth 10000
attribute [local irreducible] W WL cT cn bX bA bB bD cW cG
set_option maxHeartbeats 8000000
abbrev AZ(b:Nat):cV:=.obj b (.cells [.int .i64 0,.int .i64 0].toArray 165 (0,0))
def kY(g0:G)(i j:Nat)(ρ:Nat→Option Value)(g:G):Prop:=
 match ρ i,ρ j with
 |none,none=>St g0 g []
 |some v,none=> ∃b,v= .pointer (some ⟨b,0,none⟩)∧St g0 g [AZ b]
 |none,some u=> ∃c,u= .pointer (some ⟨c,0,none⟩)∧St g0 g [AZ c]
 |some v,some u=> ∃b c,v= .pointer (some ⟨b,0,none⟩)∧u= .pointer (some ⟨c,0,none⟩)∧St g0 g [AZ b,AZ c]
theorem BV{g0:G}{i j:Nat}(ρ:Nat→Option Value)(g g':G)(hf:aZ g g')(h:kY g0 i j ρ g):kY g0 i j ρ g':=by
 unfold kY at h⊢
 split at h
 ·exact h.call hf
 ·obtain⟨b,e,h⟩:=h;exact⟨b,e,h.call hf⟩
 ·obtain⟨b,e,h⟩:=h;exact⟨b,e,h.call hf⟩
 ·obtain⟨b,c,e1,e2,h⟩:=h;exact⟨b,c,e1,e2,h.call hf⟩
theorem DA{g0 g:G}{F:Fence}{N:Nat}{ds:List Deferred}{Q:Exit→Act→World→Prop}{l:Env}{o:Oper}{i j:Nat}{ρ:Nat→Option Value}(fu:Nat.beq j i=false)(h1:ρ i=none)(hJ:kY g0 i j ρ g)(ho:o.op= .alloc 165):
  cT F Tryz.prog N ds o l g.w Q fun v w'=> ∃dP,dP.w=w'∧(g.le dP∧kY g0 i j (o5 ρ i v) dP)∧Fact.any.p v dP:=by
 have hn: ¬j=i:=fun e=>by subst e;simp at fu
 unfold kY at hJ
 rw[h1]at hJ
 cases h2:ρ j with
 |none=>
  rw[h2]at hJ
  refine aK T.ok ho hJ rfl rfl fun b g' hs hle=>⟨g',rfl,⟨hle,?_⟩,trivial⟩
  unfold kY o5
  rw[if_pos rfl,if_neg hn,h2]
  exact⟨b,rfl,hs⟩
 |some u=>
  rw[h2]at hJ
  obtain⟨c,e,hJ⟩:=hJ
  refine aK T.ok ho hJ rfl rfl fun b g' hs hle=>⟨g',rfl,⟨hle,?_⟩,trivial⟩
  unfold kY o5
  rw[if_pos rfl,if_neg hn,h2]
  exact⟨b,c,rfl,e,hs⟩
theorem DB{g0 g:G}{F:Fence}{N:Nat}{ds:List Deferred}{Q:Exit→Act→World→Prop}{l:Env}{o:Oper}{i j:Nat}{ρ:Nat→Option Value}(fu:Nat.beq j i=false)(h1:ρ j=none)(hJ:kY g0 i j ρ g)(ho:o.op= .alloc 165):
  cT F Tryz.prog N ds o l g.w Q fun v w'=> ∃dP,dP.w=w'∧(g.le dP∧kY g0 i j (o5 ρ j v) dP)∧Fact.any.p v dP:=by
 have hn: ¬i=j:=fun e=>by subst e;simp at fu
 unfold kY at hJ
 cases h2:ρ i with
 |none=>
  rw[h2,h1]at hJ
  refine aK T.ok ho hJ rfl rfl fun b g' hs hle=>⟨g',rfl,⟨hle,?_⟩,trivial⟩
  unfold kY o5
  rw[if_neg hn,if_pos rfl,h2]
  exact⟨b,rfl,hs⟩
 |some u=>
  rw[h2,h1]at hJ
  obtain⟨c,e,hJ⟩:=hJ
  refine aK T.ok ho hJ rfl rfl fun b g' hs hle=>⟨g',rfl,⟨hle,?_⟩,trivial⟩
  unfold kY o5
  rw[if_neg hn,if_pos rfl,h2]
  exact⟨c,b,e,rfl,hs.perm (List.Perm.swap _ _ [])⟩
def DC(fo:Value)(k:bc→Int×Int)(g:G):Prop:=∀g',g.le g'→ ∀f,ir Tryz.prog fo [fv f] g'.w (cR g' fun _ r=>r=Dv (k f))
theorem DC.mono{fo:Value}{k:bc→Int×Int}{g g':G}(hle:g.le g')(h:DC fo k g):DC fo k g':=fun g1 h1=>h g1 (hle.trans h1)
theorem DD{fo:Value}{k:bc→Int×Int}{bp:Nat}(x y:bc)(g:G)(aC:EP g bp 0 [fo])(hk:DC fo k g):
  CallsIn Wd 0 Tryz.prog 111 #[fv x,fv y,.pointer (some ⟨bp,0,none⟩)] g.w (cR g fun _ r=>r= .int .i64 (qK (k x) (k y))):=by
 have hs:=St.start g
 have aq:=G.le.refl g
 refine enter Tryz.func111 rfl Tryz.ntmps111 rfl ?_
 apply c_
 refine an rfl rfl (aR rfl hs rfl rfl ?_);clear hs;rintro b1 g1 hs ah;obtain⟨aq,aC⟩:=cC ah aq aC
 obtain⟨g2,bR,aU,ah,aL⟩:=hs.a_ (i:=0) rfl;replace hs:=aU;clear aU;rw[←bR];obtain⟨aq,aC⟩:=cC ah aq aC
 have aP:=aL;clear aL
 skip
 refine an rfl rfl (aR rfl hs rfl rfl ?_);clear hs;rintro b2 g1 hs ah;obtain⟨aq,aC,aP⟩:=ef ah aq aC aP
 obtain⟨g2,bR,aU,ah,aL⟩:=hs.a_ (i:=0) rfl;replace hs:=aU;clear aU;rw[←bR];obtain⟨aq,aC,aP⟩:=ef ah aq aC aP
 have dO:=aL;clear aL
 refine ba rfl ?_;apply aB
 apply lJ (gE (eJ (.f Fact.any:: .f Fact.any::[]))) 8 [(2,10),(5,13),(6,6),(7,7)] [6,7] [[],[]] (kY g 6 7) BV (by unfold kY;exact hs.dr) (by kernel_rfl) ⟨cY,cY,trivial⟩
 ·refine Um [[],[]] [.z aC,.z aP] (by kernel_rfl) rfl ?_
  refine bC (cH (js:=[(0,8),(1,9)]) (by kernel_rfl) rfl fun _ g2 _ _ hf _=>cI rfl (cI rfl (bd (az rfl (eA rfl rfl rfl rfl rfl rfl (hk g2 (aq.trans ((G.bJ _).trans hf)) x) fun g' v h1 h2=>⟨g',rfl,h1,h2⟩))))) ?_
  refine Um [[],[]] [.z aC,.z dO] (by kernel_rfl) rfl ?_
  refine bC (cH (js:=[(3,11),(4,12)]) (by kernel_rfl) rfl fun _ g2 _ _ hf _=>cI rfl (cI rfl (bd (az rfl (eA rfl rfl rfl rfl rfl rfl (hk g2 (aq.trans ((G.bJ _).trans hf)) y) fun g' v h1 h2=>⟨g',rfl,h1,h2⟩))))) ?_
  refine bC (il (js:=[]) (by kernel_rfl) rfl fun ρ g2 h1 _ h3 _ hJ=>bd ⟨rfl,DA rfl h3 hJ rfl⟩) ?_
  refine bC (il (js:=[]) (by kernel_rfl) rfl fun ρ g2 h1 _ h3 _ hJ=>bd ⟨rfl,DB rfl h3 hJ rfl⟩) ?_
  exact vc
 intro ρ g3 hle hJ dh
 refine cI rfl (cI rfl (fH rfl fun v6 _ r6=>fH rfl fun v7 _ r7=>bd ?_))
 unfold kY at hJ
 rw[r6,r7]at hJ
 obtain⟨b,c,rfl,rfl,hs⟩:=hJ
 have ah:=(G.bJ _).trans hle;obtain⟨aP,dO⟩:=cC ah aP dO
 clear hle dh r6 r7 ρ
 clear aP dO
 refine bg rfl (aA T.ok 0 rfl hs rfl rfl rfl rfl rfl rfl rfl rfl rfl ?_);replace hs:=hs;rintro g1 hs ah
 refine bg rfl (aA T.ok 1 rfl hs rfl rfl rfl rfl rfl rfl rfl rfl rfl ?_);replace hs:=hs;rintro g1 hs ah
 obtain⟨g2,bR,aU,ah,aL⟩:=hs.a_ (i:=0) rfl;replace hs:=aU;clear aU;rw[←bR]
 have aP:=aL;clear aL
 obtain⟨g2,bR,aU,ah,aL⟩:=hs.a_ (i:=0) rfl;replace hs:=aU;clear aU;rw[←bR];replace aP:=aP.mono ah
 have dO:=aL;clear aL
 replace hs:St g _ []:=hs
 apply cf;apply aB
 apply bO hs (fj (eJ (.f (Fact.rs [jx (k x).1 (k y).1,jx (k x).2 (k y).2])::fe []))) 12 [(11,25)] (by kernel_rfl) rfl
 ·refine aw (ak (js:=[]) (by kernel_rfl) fun gd hf=>aj (az rfl (df T.ok (q:=0) rfl rfl rfl rfl rfl rfl (by decide) ⟨gd,rfl,aZ.refl _,rfl⟩))) ?_
  refine Dm [[0]] [.z aP] hs (by kernel_rfl) rfl ?_
  refine aw (ak (js:=[]) (by kernel_rfl) fun gd hf=>aj (az rfl (df T.ok (q:=0) rfl rfl rfl rfl rfl rfl (by decide) ⟨gd,rfl,aZ.refl _,rfl⟩))) ?_
  refine Dm [[2],[1,3]] [.z dO,.c AP fun g _=>wu (k x).1 (k y).1 g] hs (by kernel_rfl) rfl ?_
  refine aw (ak (js:=[]) (by kernel_rfl) fun gd hf=>aj (az rfl (df T.ok (q:=1) rfl rfl rfl rfl rfl rfl (by decide) ⟨gd,rfl,aZ.refl _,rfl⟩))) ?_
  refine Dm [[5]] [.z aP] hs (by kernel_rfl) rfl ?_
  refine aw (ak (js:=[]) (by kernel_rfl) fun gd hf=>aj (az rfl (df T.ok (q:=1) rfl rfl rfl rfl rfl rfl (by decide) ⟨gd,rfl,aZ.refl _,rfl⟩))) ?_
  refine Dm [[7],[6,8]] [.z dO,.c AP fun g _=>wu (k x).2 (k y).2 g] hs (by kernel_rfl) rfl ?_
  refine aw (ak (js:=[(4,18),(9,23)]) (by kernel_rfl) fun gd hf=>ai rfl (ai rfl (aj (az rfl (bj T.ok rfl (St.start gd) (vs:=[(0,.int .i64 (jx (k x).1 (k y).1)),(1,.int .i64 (jx (k x).2 (k y).2))]) (cells:=[jx (k x).1 (k y).1,jx (k x).2 (k y).2].map (Value.int .i64)) rfl rfl rfl rfl rfl rfl (by decide) (by decide) (by kernel_rfl) rfl fun b g' iS _=>?_))))) ?_
  ·obtain⟨g2,e1,e2,e3⟩:=kj (α:=Int) iS (cO.ints g' [jx (k x).1 (k y).1,jx (k x).2 (k y).2])
   exact⟨g2,e1,e2,e3⟩
  refine aw (ak (js:=[(10,24)]) (by kernel_rfl) fun gd hf=>aY fun v h=>aj (az rfl (ay HB aI rfl rfl rfl rfl rfl (MY v [jx (k x).1 (k y).1,jx (k x).2 (k y).2] _ h) fun g' v h1 h2=>⟨g',rfl,h1,h2⟩))) ?_
  exact fJ
 clear hs;intro g6 hs ah
 refine ba rfl ?_
 exact aF (aV rfl rfl (hs.ret rfl))
end Go.Proofs.YtebobfdheanknaaGreatDoor
namespace Go.K
open Go Go.RowKit
class iN(α:Type) where
 k:Nat
 enc:α→List Value
 len: ∀x,(enc x).length=k
 one: ∀x,(enc x).all Value.oneCell'=true
 pos:0<k
variable {α:Type} [iN α]
def fl(xs:List α):List Value:=xs.flatMap iN.enc
theorem sk(x:α)(xs:List α):fl (x::xs)=iN.enc x++fl xs:=by unfold fl;rw[List.flatMap_cons]
theorem lr(xs ys:List α):fl (xs++ys)=fl xs++fl ys:=by unfold fl;rw[List.flatMap_append]
theorem mc: ∀xs:List α,(fl xs).length=xs.length*iN.k α
 |[]=>by simp[fl]
 |x::xs=>by rw[sk,List.length_append,iN.len,mc xs,List.length_cons,Nat.succ_mul];omega
theorem lR(xs:List α){i:Nat}(h:i<xs.length):fl xs=fl (xs.take i)++(iN.enc xs[i]++fl (xs.drop (i+1))):=by
 conv=>lhs;rw[←List.take_append_drop i xs]
 rw[List.drop_eq_getElem_cons h,lr,sk]
theorem Oo(xs:List α){i:Nat}(h:i<xs.length):((fl xs).drop (i*iN.k α)).take (iN.k α)=iN.enc xs[i]:=by
 have e:(fl (xs.take i)).length=i*iN.k α:=by rw[mc,List.length_take,Nat.min_eq_left (by omega)]
 rw[lR xs h,←e,List.drop_left,←iN.len xs[i],List.take_left]
theorem J5(xs:List α){i:Nat}(h:i<xs.length)(y:α):lF (fl xs) (i*iN.k α) (iN.enc y)=fl (xs.set i y):=by
 have e:(fl (xs.take i)).length=i*iN.k α:=by rw[mc,List.length_take,Nat.min_eq_left (by omega)]
 unfold lF
 rw[lR xs h]
 rw[←e,List.take_left,←List.drop_drop,List.drop_left,iN.len,←iN.len xs[i],List.drop_left]
 rw[lR (xs.set i y) (i:=i) (by rw[List.length_set];exact h),List.getElem_set_self,List.take_set_of_le (Nat.le_refl _),List.drop_set_of_lt (by omega),List.append_assoc]
theorem As(xs:List α){i:Nat}(h:i<xs.length):i*iN.k α+iN.k α≤(fl xs).length:=by
 rw[mc,←Nat.succ_mul];exact Nat.mul_le_mul_right _ h
variable {F:Fence} {P:Program} {N:Nat} {ds:List Deferred} {l:Env} {w:World} {Q:Exit→Act→World→Prop} {o:Oper} {g0 g:G} {L:List cV} {K:Value→World→Prop}
theorem dR[dN P](i:Nat){t:Nat}{ti:TI}{x:Operand}{e:TypeId}{b p c n m j:Nat}{xs:List α}(ho:o.op= .load t x)(hs:St g0 g L)
  (hi:L[i]? =some (.row e (iN.k α) (.slice (some ⟨b,p,none⟩) n c) m (fl xs))) (hx:ev l x=some (.pointer (some ⟨b,p+j*iN.k α,none⟩))) {y:α} (hj:xs[j]? =some y)
  (ht:tl (dN.tb P) t=some ti) (ha:rO ti.desc=true) (hk:ti.size=iN.k α) (k:K (.agg (iN.enc y).toArray) g.w):cT F P N ds o l g.w Q K:=by
 obtain⟨tN,rfl⟩:=List.getElem?_eq_some_iff.1 hj
 refine iP dN.ok (j*iN.k α) ho (hs.own i _ hi).1 hx ?_ k
 unfold ve
 rw[ht]
 simp only[ha,cond_true]
 rw[hk,show Nat.ble (j*iN.k α+iN.k α) (fl xs).length=true from Nat.ble_eq_true_of_le (As xs tN),cond_true,Oo xs tN]
theorem fZ[dN P](i:Nat){t:Nat}{ti:TI}{x y:Operand}{e:TypeId}{b p c n m j:Nat}{xs:List α}{v:α}(ho:o.op= .store t x y)(hs:St g0 g L)
  (hi:L[i]? =some (.row e (iN.k α) (.slice (some ⟨b,p,none⟩) n c) m (fl xs))) (hx:ev l x=some (.pointer (some ⟨b,p+j*iN.k α,none⟩))) (hy:ev l y=some (.agg (iN.enc v).toArray)) (hj:j<xs.length)
  (ht:tl (dN.tb P) t=some ti) (hk:ti.size=iN.k α)
  (kk: ∀g',St g0 g' (L.set i (.row e (iN.k α) (.slice (some ⟨b,p,none⟩) n c) m (fl (xs.set j v))))→g.le g'→K undef g'.w):cT F P N ds o l g.w Q K:=
 kD dN.ok i (j*iN.k α) ho hs hi hx hy ht rfl (by rw[iN.len,hk]) (iN.one v) (by rw[iN.len];exact iN.pos) (by rw[iN.len];exact As xs hj) (J5 xs hj v) kk
theorem cZ[dN P](i:Nat){t e:Nat}{ti tj:TI}{x ix:Operand}{ad:Option Addr}{c n m:Nat}{kk:IntKind}{z:Int}{xs:List α}(ho:o.op= .indexAddr t x ix)(hs:St g0 g L)
  (hi:L[i]? =some (.row e (iN.k α) (.slice ad n c) m (fl xs))) (h0:0≤z) (bh:z.toNat<n) (hx:ev l x=some (.slice ad n c)) (G_:ev l ix=some (.int kk z)) (ht:tl (dN.tb P) t=some ti) (hd:ti.desc= .slice e) (hj:tl (dN.tb P) e=some tj) (hk:tj.size=iN.k α)
  (k: ∀b p,ad=some ⟨b,p,none⟩→K (.pointer (some ⟨b,p+z.toNat*iN.k α,none⟩)) g.w):cT F P N ds o l g.w Q K:=
 iy dN.ok ho (hs.own i _ hi).1 h0 bh hx G_ ht hd hj hk k
end Go.K
namespace Go.Proofs.YtebobfdheanknaaGreatDoor
open Go Go.K
set_option maxRecDepth 10000
attribute [local irreducible] W WL cT cn bX bA bB bD cW cG
set_option maxHeartbeats 8000000
instance:iN bc where
 k:=19
 enc:=bW
 len _:=rfl
 one f:=by simp[bW,Value.oneCell']
 pos:=by decide
def zG(fo:Value)(k:bc→Int×Int)(g:G):Prop:=∀g',g.le g'→ ∀x y,ir Tryz.prog fo [fv x,fv y] g'.w (cR g' fun _ r=>r= .int .i64 (qK (k x) (k y)))
theorem zG.mono{fo:Value}{k:bc→Int×Int}{g g':G}(hle:g.le g')(h:zG fo k g):zG fo k g':=fun g1 h1=>h g1 (hle.trans h1)
theorem wv{α:Type}{k:α→Int×Int}{A B:List α}{x:α}(h1: ∀a∈A,kl k x a=false)(h2: ∀b∈B,kl k x b=true):lE k (A++B) [x]=A++x::B:=by
 have e:=gQ (k:=k) A [] (a2:=B) (b2:=[x]) (fun a ha y hy=>by rw[List.mem_singleton.1 hy];exact h1 a ha) (by simp)
 have e2:=gQ (k:=k) [] [x] (a2:=B) (b2:=[]) (by simp) (fun y hy b hb=>by rw[List.mem_singleton.1 hy];exact h2 b hb)
 simp only[List.nil_append,List.append_nil]at e e2
 rw[e,e2,gC,gC];rfl
theorem DE{α:Type}{k:α→Int×Int}{A:List α}{x y:α}(hs:zj k (A++[y]))(h:kl k x y=false): ∀a∈A++[y],kl k x a=false:=by
 intro a ha
 rcases List.mem_append.1 ha with ha|ha
 ·exact qu h ((List.pairwise_append.1 hs).2.2 a ha y (by simp))
 ·rw[List.mem_singleton.1 ha];exact h
theorem xS{α:Type}(X Y:List α)(y x:α):((X++y::x::Y).set (X.length+1) y).set X.length x=X++x::y::Y:=by
 rw[List.set_append_right _ _ (by omega),List.set_append_right _ _ (by omega)]
 simp
def ll:Bool→Nat
 |false=>54
 |true=>224
def MZ:Bool→Nat
 |false=>262
 |true=>292
theorem M3(tw:Bool):ag Tryz.prog (MZ tw):=by
 cases tw
 ·exact MC
 ·exact ML
def M4:Bool→Nat
 |false=>304
 |true=>317
theorem I6(tw:Bool):ag Tryz.prog (M4 tw):=by
 cases tw
 ·exact MN
 ·exact MQ
def M5:Bool→Nat
 |false=>291
 |true=>305
theorem Ql(tw:Bool):ag Tryz.prog (M5 tw):=by
 cases tw
 ·exact MK
 ·exact MO
def M6:Bool→Nat
 |false=>263
 |true=>293
theorem Ga(tw:Bool):ag Tryz.prog (M6 tw):=by
 cases tw
 ·exact MD
 ·exact MM
def M7:Bool→Nat
 |false=>193
 |true=>264
theorem Qm(tw:Bool):ag Tryz.prog (M7 tw):=by
 cases tw
 ·exact L8
 ·exact ME
def M8:Bool→Nat
 |false=>110
 |true=>199
theorem M9(tw:Bool):ag Tryz.prog (M8 tw):=by
 cases tw
 ·exact Lh
 ·exact Mc
abbrev eP(e:Nat)(ad:Option Addr)(n c:Nat)(xs:List bc):cV:=.row e 19 (.slice ad n c) n (fl xs)
theorem H3(tw:Bool){fo:Value}{kf:bc→Int×Int}{ad:Option Addr}{n c:Nat}{L:List cV}(U S V:List bc){g0 g:G}(hn:n=U.length+S.length+V.length)(hm:n≤1000000000)(hk:zG fo kf g)(hs:St g0 g (eP (ll tw) ad n c (U++S++V)::L)):
  CallsIn Wd 0 Tryz.prog (MZ tw) #[.slice ad n c,.int .i64 (U.length:Nat),.int .i64 (U.length+S.length:Nat),fo] g.w (eu g fun g' r=>r= .tuple #[]∧St g0 g' (eP (ll tw) ad n c (U++dK kf S++V)::L)):=by
 cases tw
 case' false=>let tw:=false
 case' true=>let tw:=true
 all_goals
  have aq:=G.le.refl g
  first|refine enter Tryz.func262 rfl Tryz.ntmps262 rfl ?_|refine enter Tryz.func292 rfl Tryz.ntmps292 rfl ?_
  refine aX rfl ?_;apply aG
  refine bS (fun m a' w=> ∃(d:Nat) (g':G),w=g'.w∧St g0 g' (eP (ll tw) ad n c (U++dK kf (S.take d)++(S.drop d++V))::L)∧G.le g g'∧1≤d∧(d≤S.length∨d=1)∧m=S.length+1-d∧
    Fr 53 [] [(0,.slice ad n c),(1,.int .i64 (U.length:Nat)),(2,.int .i64 (U.length+S.length:Nat)),(3,fo),(8,.int .i64 (U.length+d:Nat))] a') S.length
   (fun a' ha=>⟨1,g,rfl,?_,aq,Nat.le_refl _,.inr rfl,rfl,ha.keep ⟨rfl,rfl,rfl,rfl,kI rfl (by rw[wr (by omega) (by omega)];simp),trivial⟩⟩) ?_
  ·have e:U++dK kf (S.take 1)++(S.drop 1++V)=U++S++V:=by
    cases S with
    |nil=>simp[dK]
    |cons s S=>simp[dK,gC]
   rw[e];exact hs
  clear hs aq
  rintro m a' _ ⟨d,g',rfl,hs,aq,hd,T7,rfl,eI⟩
  revert a'
  apply cQ;apply aB;refine aX rfl ?_
  by_cases bh:d<S.length
  ·refine aJ (b:=decide (((U.length+d:Nat):Int)<((U.length+S.length:Nat):Int))) (by simp;omega) rfl ?_
   apply aE;apply au;apply aB;apply aG;refine aX rfl ?_;apply aG
   have e0:U++dK kf (S.take d)++(S.drop d++V)=(U++dK kf (S.take d))++S[d]::([]++(S.drop (d+1)++V)):=by
    rw[List.drop_eq_getElem_cons bh];simp only[List.append_assoc,List.cons_append,List.nil_append]
   rw[e0]at hs
   generalize hW:S.drop (d+1)++V=W0 at hs
   generalize hx:S[d]=x at hs
   have jr:(dK kf (S.take d)).length=d:=by rw[(iM _).length_eq,List.length_take];omega
   have T_:W0.length+d+1+U.length=n:=by rw[←hW,List.length_append,List.length_drop];omega
   have Qn:=jG (k:=kf) (S.take d)
   have e1:dK kf (S.take (d+1))=lE kf (dK kf (S.take d)) [x]:=by
    rw[←hx,List.take_succ_eq_append_getElem bh,pb];rfl
   generalize hq:dK kf (S.take d)=q at hs Qn jr e1
   have j_:=G.le.refl g'
   refine bS (fun m a' w=> ∃(A B:List bc) (g2:G),w=g2.w∧St g0 g2 (eP (ll tw) ad n c (U++A++x::(B++W0))::L)∧G.le g' g2∧q=A++B∧(∀b∈B,kl kf x b=true)∧m=A.length∧
     Fr 53 [] [(0,.slice ad n c),(1,.int .i64 (U.length:Nat)),(2,.int .i64 (U.length+S.length:Nat)),(3,fo),(8,.int .i64 (U.length+d:Nat)),(9,.int .i64 (U.length+A.length:Nat))] a') d
    (fun a' ha=>⟨q,[],g',rfl,hs,j_,by simp,by simp,jr.symm,ha.keep ⟨rfl,rfl,rfl,rfl,rfl,kI rfl (by rw[jr]),trivial⟩⟩) ?_
   clear hs j_
   rintro m a' _ ⟨A,B,g2,rfl,hs,j_,zm,hB,rfl,eI⟩
   have sP:A.length+B.length=d:=by rw[←List.length_append,←zm,jr]
   have aq:=aq.trans j_
   revert a'
   rcases List.eq_nil_or_concat A with rfl|⟨A,y,rfl⟩
   ·apply cQ;apply aB;apply aB
    apply bO hs (eJ (.e (.bool false)::fj (gE (eJ [])))) 17 [(16,34)] (by kernel_rfl) rfl
    ·refine Dm [[],[]] [] hs (by kernel_rfl) rfl ?_
     refine aw (ak (js:=[(0,18),(1,19)]) (by kernel_rfl) fun gd hf=>ai rfl (ai rfl (aj (az rfl (aM _ T.ok rfl ⟨gd,rfl,aZ.refl _,?_⟩))))) ?_
     ·exact congrArg Value.bool (by simp)
     exact Dz [[2],[3],[3],[3],[5,6,3],[7,3],[3],[3],[10,3],[9,11,3],[12,3],[4,8,13,3,3],[14,3],[3,15]] [] hs (by kernel_rfl) rfl
    clear hs;intro g5 hs ah;obtain⟨aq,j_⟩:=cC ah aq j_
    apply cf
    refine aS rfl rfl ?_
    apply bE;apply bK;apply bK;apply dc;apply bU;apply au;apply ar;refine Wp 3 rfl ?_;apply aD
    refine fun a ha=>⟨S.length+1-(d+1),by omega,d+1,g5,rfl,?_,aq,by omega,by omega,rfl,ha.keep ⟨rfl,rfl,rfl,rfl,kI rfl (by rw[wr (by omega) (by omega)];omega),trivial⟩⟩
    have e2:=wv (A:=[]) (x:=x) (by simp) hB
    rw[e1,zm,hW]
    simp only[List.nil_append]at e2⊢
    rw[e2]
    simpa using hs
   ·rw[List.concat_eq_append]at*
    obtain⟨b0,p0,rfl⟩: ∃b p,ad=some ⟨b,p,none⟩:=by
     rcases(hs.own 0 _ rfl).1.2 with⟨h0,_⟩|⟨b,off,cap,cur,hv,_⟩
     ·omega
     ·simp only[Value.slice.injEq]at hv;exact⟨b,off,hv.1⟩
    generalize hX:U++A=X
    have Gb:X.length=U.length+A.length:=by rw[←hX,List.length_append]
    have ej:U.length+(A++[y]).length=X.length+1:=by rw[Gb,List.length_append];rfl
    rw[ej]
    have er:U++(A++[y])++x::(B++W0)=X++y::x::(B++W0):=by rw[←hX];simp
    rw[er]at hs
    have Sm:X.length+1<n:=by simp only[List.length_append,List.length_singleton]at sP;omega
    have gy:(X++y::x::(B++W0))[X.length]? =some y:=by simp
    have gx:(X++y::x::(B++W0))[X.length+1]? =some x:=by rw[List.getElem?_append_right (by omega)];simp
    apply cQ;apply aB;apply aB
    apply bO hs (eJ (.e (.bool true)::fj (.e (.int .i64 (X.length:Nat))::gE (fe [])))) 17 [(16,34)] (by kernel_rfl) rfl
    ·refine Dm [[],[]] [] hs (by kernel_rfl) rfl ?_
     refine aw (ak (js:=[(0,18),(1,19)]) (by kernel_rfl) fun gd hf=>ai rfl (ai rfl (aj (az rfl (aM _ T.ok rfl ⟨gd,rfl,aZ.refl _,?_⟩))))) ?_
     ·exact congrArg Value.bool (by simp;omega)
     refine Dm [[2],[3],[3],[3]] [] hs (by kernel_rfl) rfl ?_
     refine aw (ak (js:=[(5,23),(6,24),(3,21)]) (by kernel_rfl) fun gd hf=>ai rfl (ai rfl (ai rfl (aj (az rfl (cZ (α:=bc) 0 rfl (hs.dr.call hf) rfl (by omega) (by omega) rfl rfl rfl rfl rfl rfl fun b p hb=>⟨gd,rfl,aZ.refl _,?_⟩)))))) ?_
     ·obtain⟨rfl,rfl⟩:b0=b∧p0=p:=by simpa using hb
      rfl
     refine aw (ak (js:=[(7,25),(3,21)]) (by kernel_rfl) fun gd hf=>ai rfl (ai rfl (aj (az rfl (dR (α:=bc) 0 rfl (hs.dr.call hf) rfl rfl (j:=X.length+1) gx rfl rfl rfl ⟨gd,rfl,aZ.refl _,rfl⟩))))) ?_
     refine Dm [[3],[3]] [] hs (by kernel_rfl) rfl ?_
     refine aw (ak (js:=[(10,28),(3,21)]) (by kernel_rfl) fun gd hf=>ai rfl (ai rfl (aj (az rfl (aM _ T.ok rfl ⟨gd,rfl,aZ.refl _,?_⟩))))) ?_
     ·exact congrArg (Value.int .i64) (by rw[wr (by omega) (by omega)];omega)
     refine aw (ak (js:=[(9,27),(11,29),(3,21)]) (by kernel_rfl) fun gd hf=>ai rfl (ai rfl (ai rfl (aj (az rfl (cZ (α:=bc) 0 rfl (hs.dr.call hf) rfl (by omega) (by omega) rfl rfl rfl rfl rfl rfl fun b p hb=>⟨gd,rfl,aZ.refl _,?_⟩)))))) ?_
     ·obtain⟨rfl,rfl⟩:b0=b∧p0=p:=by simpa using hb
      rfl
     refine aw (ak (js:=[(12,30),(3,21)]) (by kernel_rfl) fun gd hf=>ai rfl (ai rfl (aj (az rfl (dR (α:=bc) 0 rfl (hs.dr.call hf) rfl rfl (j:=X.length) gy rfl rfl rfl ⟨gd,rfl,aZ.refl _,rfl⟩))))) ?_
     refine aw (ak (js:=[(4,22),(8,26),(13,31),(3,21),(3,21)]) (by kernel_rfl) fun gd hf=>ai rfl (ai rfl (ai rfl (ai rfl (ai rfl (aj (az rfl (eA rfl rfl rfl rfl rfl rfl (hk gd (aq.trans ((G.bJ _).trans hf.le)) x y) fun g' v h1 h2=>⟨g',rfl,h1,h2⟩)))))))) ?_
     exact Dz [[14,3],[3,15]] [] hs (by kernel_rfl) rfl
    clear hs;intro g5 hs ah;obtain⟨aq,j_⟩:=cC ah aq j_
    apply cf
    cases j9:kl kf x y with
    |true=>
     refine aJ (b:=decide (qK (kf x) (kf y)<0)) (by rw[kT];exact j9) rfl ?_
     apply aE;apply au;apply aB;apply aG
     have lG:(X++y::x::(B++W0)).length=n:=by rw[List.length_append,Gb];simp only[List.length_append,List.length_cons,List.length_nil]at sP⊢;omega
     apply pw (gE (.e (.int .i64 (X.length:Nat))::eJ (.e (.int .i64 (X.length:Nat))::gE (eJ (fe [.f Fact.any]))))) 16 [(2,39),(4,41),(13,50)] [15] [[0,1,5,6,7,8,9,10,11,12,13,14]]
      (fun s=>match s with|0=>eP (ll tw) (some ⟨b0,p0,none⟩) n c (X++y::x::(B++W0))::L|_+1=>eP (ll tw) (some ⟨b0,p0,none⟩) n c ((X++y::x::(B++W0)).set (X.length+1) y)::L) hs (by kernel_rfl) ⟨cY,trivial⟩
     ·refine Lm [[],[],[],[]] [] (by kernel_rfl) rfl ?_
      refine dk (my (js:=[(3,40)]) (by kernel_rfl) rfl fun s g' _ _ _ hf _=>ai rfl (aj (az rfl (aM _ T.ok rfl ⟨g',rfl,aZ.refl _,?_⟩)))) ?_
      ·exact congrArg (Value.int .i64) (by rw[wr (by omega) (by omega)];omega)
      refine Lm [[],[]] [] (by kernel_rfl) rfl ?_
      refine dk (my (js:=[(6,43)]) (by kernel_rfl) rfl fun s g' _ _ _ hf _=>ai rfl (aj (az rfl (aM _ T.ok rfl ⟨g',rfl,aZ.refl _,?_⟩)))) ?_
      ·exact congrArg (Value.int .i64) (by rw[wr (by omega) (by omega)];omega)
      refine dk (kM 0 0 (js:=[(5,42),(7,44)]) (by kernel_rfl) (by kernel_rfl) ?_) ?_
      ·intro s g' _ h1 hf hJ
       obtain rfl:s=0:=by omega
       refine ai rfl (ai rfl (aj (az rfl (cZ (α:=bc) 0 rfl hJ rfl (by omega) (by omega) rfl rfl rfl rfl rfl rfl fun b p hb=>⟨g',rfl,aZ.refl _,?_⟩))))
       obtain⟨rfl,rfl⟩:b0=b∧p0=p:=by simpa using hb
       rfl
      refine dk (kM 0 0 (js:=[(8,45)]) (by kernel_rfl) (by kernel_rfl) ?_) ?_
      ·intro s g' _ h1 hf hJ
       obtain rfl:s=0:=by omega
       exact ai rfl (aj (az rfl (dR (α:=bc) 0 rfl hJ rfl rfl (j:=X.length) gy rfl rfl rfl ⟨g',rfl,aZ.refl _,rfl⟩)))
      refine Lm [[],[]] [] (by kernel_rfl) rfl ?_
      refine dk (kM 0 0 (js:=[(10,47),(11,48)]) (by kernel_rfl) (by kernel_rfl) ?_) ?_
      ·intro s g' _ h1 hf hJ
       obtain rfl:s=0:=by omega
       refine ai rfl (ai rfl (aj (az rfl (cZ (α:=bc) 0 rfl hJ rfl (by omega) (by omega) rfl rfl rfl rfl rfl rfl fun b p hb=>⟨g',rfl,aZ.refl _,?_⟩))))
       obtain⟨rfl,rfl⟩:b0=b∧p0=p:=by simpa using hb
       rfl
      refine dk (kM 0 0 (js:=[(12,49)]) (by kernel_rfl) (by kernel_rfl) ?_) ?_
      ·intro s g' _ h1 hf hJ
       obtain rfl:s=0:=by omega
       exact ai rfl (aj (az rfl (dR (α:=bc) 0 rfl hJ rfl rfl (j:=X.length+1) gx rfl rfl rfl ⟨g',rfl,aZ.refl _,rfl⟩)))
      refine dk (kM 0 0 (js:=[(0,37),(1,38),(0,37),(1,38)]) (by kernel_rfl) (by kernel_rfl) ?_) ?_
      ·intro s g' _ h1 hf hJ
       obtain rfl:s=0:=by omega
       refine ai rfl (ai rfl (ai rfl (ai rfl (aj (az rfl (cZ (α:=bc) 0 rfl hJ rfl (by omega) (by omega) rfl rfl rfl rfl rfl rfl fun b p hb=>⟨g',rfl,aZ.refl _,?_⟩))))))
       obtain⟨rfl,rfl⟩:b0=b∧p0=p:=by simpa using hb
       rfl
      refine dk (vk 0 (js:=[(14,51),(9,46),(9,46)]) (by kernel_rfl) rfl fun g' hf hJ=>ai rfl (ai rfl (ai rfl (aj (qL rfl (fZ (α:=bc) 0 rfl hJ rfl rfl rfl (v:=y) (j:=X.length+1) (by omega) rfl rfl fun g3 hs hle=>⟨g3,rfl,⟨hle,hs⟩,trivial⟩)))))) ?_
      exact xT
     clear hs;intro g6 hs ah;obtain⟨aq,j_⟩:=cC ah aq j_
     refine ai rfl (ai rfl (ai rfl (aj ?_)))
     refine an rfl rfl (cZ (α:=bc) 0 rfl hs rfl (by omega) (by omega) rfl rfl rfl rfl rfl rfl fun b p hb=>?_)
     obtain⟨rfl,rfl⟩:b0=b∧p0=p:=by simpa using hb
     refine bg rfl (fZ (α:=bc) 0 rfl hs rfl rfl rfl (v:=x) (j:=X.length) (by rw[List.length_set];omega) rfl rfl ?_)
     clear hs;intro g7 hs ah;obtain⟨aq,j_⟩:=cC ah aq j_
     replace hs:St g0 g7 (eP (ll tw) (some ⟨b0,p0,none⟩) n c (((X++y::x::(B++W0)).set (X.length+1) y).set X.length x)::L):=hs
     rw[xS]at hs
     apply aD;apply bU;apply au;apply ar;refine Wp 3 rfl ?_;apply aD
     refine fun a ha=>⟨A.length,by simp,A,y::B,g7,rfl,?_,j_,by rw[zm];simp,?_,rfl,ha.keep ⟨rfl,rfl,rfl,rfl,rfl,kI rfl (by rw[wr (by omega) (by omega)];omega),trivial⟩⟩
     ·rw[←hX]at hs
      simpa using hs
     ·intro b hb
      rcases List.mem_cons.1 hb with rfl|hb
      ·exact j9
      ·exact hB b hb
    |false=>
     refine aS (b:=decide (qK (kf x) (kf y)<0)) (by rw[kT];exact j9) rfl ?_
     apply bE;apply bK;apply bK;apply dc;apply bU;apply au;apply ar;refine Wp 3 rfl ?_;apply aD
     refine fun a ha=>⟨S.length+1-(d+1),by omega,d+1,g5,rfl,?_,aq,by omega,by omega,rfl,ha.keep ⟨rfl,rfl,rfl,rfl,kI rfl (by rw[wr (by omega) (by omega)];omega),trivial⟩⟩
     have e2:=wv (A:=A++[y]) (x:=x) (DE (by rw[zm]at Qn;exact(List.pairwise_append.1 Qn).1) j9) hB
     rw[e1,zm,hW,e2]
     rw[←er]at hs
     simpa using hs
  ·refine aS (b:=decide (((U.length+d:Nat):Int)<((U.length+S.length:Nat):Int))) (by simp;omega) rfl ?_
   apply bE;apply bK;apply bK;apply dc
   refine mv rfl (eu.intro aq ⟨rfl,?_⟩)
   rw[List.take_of_length_le (by omega),List.drop_of_length_le (by omega)]at hs
   exact hs
end Go.Proofs.YtebobfdheanknaaGreatDoor
namespace Go.Proofs.YtebobfdheanknaaGreatDoor
open Go Go.K
set_option maxRecDepth 10000
attribute [local irreducible] W WL cT cn bX bA bB bD cW cG
set_option maxHeartbeats 8000000
theorem xU{α:Type}(E H G:List α)(x y:α):((E++x::(H++y::G)).set E.length y).set (E.length+1+H.length) x=E++y::(H++x::G):=by
 rw[List.set_append_right _ _ (by omega),List.set_append_right _ _ (by omega),Nat.sub_self,List.set_cons_zero,show E.length+1+H.length-E.length=H.length+1 from by omega,List.set_cons_succ,List.set_append_right _ _ (by omega),Nat.sub_self,List.set_cons_zero]
theorem wx{α:Type}(E H G:List α)(x y:α):(E++x::(H++y::G))[E.length+1+H.length]? =some y:=by
 rw[List.getElem?_append_right (by omega),show E.length+1+H.length-E.length=H.length+1 from by omega,List.getElem?_cons_succ,List.getElem?_append_right (by omega),Nat.sub_self];rfl
theorem wy(tw:Bool){fo:Value}{ad:Option Addr}{n c:Nat}{L:List cV}(U X M Y V:List bc){g0 g:G}(Kl:X.length=Y.length)(hn:n=U.length+X.length+M.length+Y.length+V.length)(hm:n≤1000000000)(hs:St g0 g (eP (ll tw) ad n c (U++X++M++Y++V)::L)):
  CallsIn Wd 0 Tryz.prog (M4 tw) #[.slice ad n c,.int .i64 (U.length:Nat),.int .i64 (U.length+X.length+M.length:Nat),.int .i64 (X.length:Nat),fo] g.w (eu g fun g' r=>r= .tuple #[]∧St g0 g' (eP (ll tw) ad n c (U++Y++M++X++V)::L)):=by
 cases tw
 case' false=>let tw:=false
 case' true=>let tw:=true
 all_goals
  have aq:=G.le.refl g
  first|refine enter Tryz.func304 rfl Tryz.ntmps304 rfl ?_|refine enter Tryz.func317 rfl Tryz.ntmps317 rfl ?_
  refine aX rfl ?_;apply aG
  refine bS (fun m a' w=> ∃(i:Nat) (g':G),w=g'.w∧St g0 g' (eP (ll tw) ad n c (U++Y.take i++(X.drop i++M++X.take i)++(Y.drop i++V))::L)∧G.le g g'∧i≤X.length∧m=X.length-i∧
    Fr 38 [] [(0,.slice ad n c),(1,.int .i64 (U.length:Nat)),(2,.int .i64 (U.length+X.length+M.length:Nat)),(3,.int .i64 (X.length:Nat)),(4,fo),(10,.int .i64 (i:Nat))] a') X.length
   (fun a' ha=>⟨0,g,rfl,by simpa using hs,aq,Nat.zero_le _,rfl,ha.keep ⟨rfl,rfl,rfl,rfl,rfl,rfl,trivial⟩⟩) ?_
  clear hs aq
  rintro m a' _ ⟨i,g',rfl,hs,aq,hi,rfl,eI⟩
  revert a'
  apply cQ;apply aB;refine aX rfl ?_
  by_cases bh:i<X.length
  ·refine aJ (b:=decide ((i:Int)<(X.length:Int))) (by simp;omega) rfl ?_
   have Sn:i<Y.length:=by omega
   obtain⟨b0,p0,rfl⟩: ∃b p,ad=some ⟨b,p,none⟩:=by
    rcases(hs.own 0 _ rfl).1.2 with⟨h0,_⟩|⟨b,off,cap,cur,hv,_⟩
    ·omega
    ·simp only[Value.slice.injEq]at hv;exact⟨b,off,hv.1⟩
   have tX:X.take (i+1)=X.take i++[X[i]]:=List.take_succ_eq_append_getElem bh
   have tY:Y.take (i+1)=Y.take i++[Y[i]]:=List.take_succ_eq_append_getElem Sn
   have dX:X.drop i=X[i]::X.drop (i+1):=List.drop_eq_getElem_cons bh
   have dY:Y.drop i=Y[i]::Y.drop (i+1):=List.drop_eq_getElem_cons Sn
   have fy:(X.drop (i+1)).length=X.length-(i+1):=List.length_drop
   have Sp:(X.take i).length=i:=by rw[List.length_take];omega
   have sj:(Y.take i).length=i:=by rw[List.length_take];omega
   have cN:(Y.drop (i+1)).length=Y.length-(i+1):=List.length_drop
   generalize X[i]=x at tX dX
   generalize Y[i]=y at tY dY
   have er:U++Y.take i++(X.drop i++M++X.take i)++(Y.drop i++V)=(U++Y.take i)++x::((X.drop (i+1)++M++X.take i)++y::(Y.drop (i+1)++V)):=by rw[dX,dY];simp only[List.append_assoc,List.cons_append]
   have ew:(U++Y.take i)++y::((X.drop (i+1)++M++X.take i)++x::(Y.drop (i+1)++V))=U++Y.take (i+1)++(X.drop (i+1)++M++X.take (i+1))++(Y.drop (i+1)++V):=by rw[tX,tY];simp only[List.append_assoc,List.cons_append,List.nil_append]
   rw[er]at hs
   generalize hE:U++Y.take i=E at hs ew
   generalize hH:X.drop (i+1)++M++X.take i=H at hs ew
   generalize hG:Y.drop (i+1)++V=Gr at hs ew
   have Wi:E.length=U.length+i:=by rw[←hE,List.length_append,sj]
   have Wj:H.length=X.length-(i+1)+M.length+i:=by rw[←hH,List.length_append,List.length_append,fy,Sp]
   have Sq:(E++x::(H++y::Gr)).length=n:=by rw[←hG];simp only[List.length_append,List.length_cons];omega
   have gx:(E++x::(H++y::Gr))[E.length]? =some x:=by simp
   have gy:=wx E H Gr x y
   clear fy Sp sj cN
   apply aE;apply au;apply aB;apply aG
   apply pw (eJ (fe (.e (.int .i64 (E.length:Nat))::eJ (fe (.e (.int .i64 (E.length+1+H.length:Nat))::eJ (fe (.e (.int .i64 (E.length+1+H.length:Nat))::gE (fe (.e (.int .i64 (E.length:Nat))::eJ (fe [.f Fact.any])))))))))) 22 [(4,20),(7,23),(19,35)] [21] [[0,1,2,3,8,9,10,11,12,13,14,15,16,17,18,19,20]]
    (fun s=>match s with|0=>eP (ll tw) (some ⟨b0,p0,none⟩) n c (E++x::(H++y::Gr))::L|_+1=>eP (ll tw) (some ⟨b0,p0,none⟩) n c ((E++x::(H++y::Gr)).set E.length y)::L) hs (by kernel_rfl) ⟨cY,trivial⟩
   ·refine Lm [[],[],[]] [] (by kernel_rfl) rfl ?_
    refine dk (my (js:=[(1,17),(2,18)]) (by kernel_rfl) rfl fun s g' _ _ _ hf _=>ai rfl (ai rfl (aj (az rfl (aM _ T.ok rfl ⟨g',rfl,aZ.refl _,?_⟩))))) ?_
    ·exact congrArg (Value.int .i64) (by rw[wr (by omega) (by omega)];omega)
    refine Lm [[],[],[]] [] (by kernel_rfl) rfl ?_
    refine dk (my (js:=[(5,21),(6,22)]) (by kernel_rfl) rfl fun s g' _ _ _ hf _=>ai rfl (ai rfl (aj (az rfl (aM _ T.ok rfl ⟨g',rfl,aZ.refl _,?_⟩))))) ?_
    ·exact congrArg (Value.int .i64) (by rw[wr (by omega) (by omega)];omega)
    refine Lm [[],[],[]] [] (by kernel_rfl) rfl ?_
    refine dk (my (js:=[(9,25),(10,26)]) (by kernel_rfl) rfl fun s g' _ _ _ hf _=>ai rfl (ai rfl (aj (az rfl (aM _ T.ok rfl ⟨g',rfl,aZ.refl _,?_⟩))))) ?_
    ·exact congrArg (Value.int .i64) (by rw[wr (by omega) (by omega)];omega)
    refine dk (kM 0 0 (js:=[(8,24),(11,27)]) (by kernel_rfl) (by kernel_rfl) ?_) ?_
    ·intro s g' _ h1 hf hJ
     obtain rfl:s=0:=by omega
     refine ai rfl (ai rfl (aj (az rfl (cZ (α:=bc) 0 rfl hJ rfl (by omega) (by omega) rfl rfl rfl rfl rfl rfl fun b p hb=>⟨g',rfl,aZ.refl _,?_⟩))))
     obtain⟨rfl,rfl⟩:b0=b∧p0=p:=by simpa using hb
     rfl
    refine dk (kM 0 0 (js:=[(12,28)]) (by kernel_rfl) (by kernel_rfl) ?_) ?_
    ·intro s g' _ h1 hf hJ
     obtain rfl:s=0:=by omega
     exact ai rfl (aj (az rfl (dR (α:=bc) 0 rfl hJ rfl rfl (j:=E.length+1+H.length) gy rfl rfl rfl ⟨g',rfl,aZ.refl _,rfl⟩)))
    refine Lm [[],[],[]] [] (by kernel_rfl) rfl ?_
    refine dk (my (js:=[(15,31),(16,32)]) (by kernel_rfl) rfl fun s g' _ _ _ hf _=>ai rfl (ai rfl (aj (az rfl (aM _ T.ok rfl ⟨g',rfl,aZ.refl _,?_⟩))))) ?_
    ·exact congrArg (Value.int .i64) (by rw[wr (by omega) (by omega)];omega)
    refine dk (kM 0 0 (js:=[(14,30),(17,33)]) (by kernel_rfl) (by kernel_rfl) ?_) ?_
    ·intro s g' _ h1 hf hJ
     obtain rfl:s=0:=by omega
     refine ai rfl (ai rfl (aj (az rfl (cZ (α:=bc) 0 rfl hJ rfl (by omega) (by omega) rfl rfl rfl rfl rfl rfl fun b p hb=>⟨g',rfl,aZ.refl _,?_⟩))))
     obtain⟨rfl,rfl⟩:b0=b∧p0=p:=by simpa using hb
     rfl
    refine dk (kM 0 0 (js:=[(18,34)]) (by kernel_rfl) (by kernel_rfl) ?_) ?_
    ·intro s g' _ h1 hf hJ
     obtain rfl:s=0:=by omega
     exact ai rfl (aj (az rfl (dR (α:=bc) 0 rfl hJ rfl rfl (j:=E.length) gx rfl rfl rfl ⟨g',rfl,aZ.refl _,rfl⟩)))
    refine dk (kM 0 0 (js:=[(0,16),(3,19),(0,16),(3,19)]) (by kernel_rfl) (by kernel_rfl) ?_) ?_
    ·intro s g' _ h1 hf hJ
     obtain rfl:s=0:=by omega
     refine ai rfl (ai rfl (ai rfl (ai rfl (aj (az rfl (cZ (α:=bc) 0 rfl hJ rfl (by omega) (by omega) rfl rfl rfl rfl rfl rfl fun b p hb=>⟨g',rfl,aZ.refl _,?_⟩))))))
     obtain⟨rfl,rfl⟩:b0=b∧p0=p:=by simpa using hb
     rfl
    refine dk (vk 0 (js:=[(20,36),(13,29),(13,29)]) (by kernel_rfl) rfl fun g' hf hJ=>ai rfl (ai rfl (ai rfl (aj (qL rfl (fZ (α:=bc) 0 rfl hJ rfl rfl rfl (v:=y) (j:=E.length) (by omega) rfl rfl fun g3 hs hle=>⟨g3,rfl,⟨hle,hs⟩,trivial⟩)))))) ?_
    exact xT
   clear hs;intro g6 hs ah;replace aq:=G.le.trans aq ah
   refine ai rfl (ai rfl (ai rfl (aj ?_)))
   refine an rfl rfl (cZ (α:=bc) 0 rfl hs rfl (by omega) (by omega) rfl rfl rfl rfl rfl rfl fun b p hb=>?_)
   obtain⟨rfl,rfl⟩:b0=b∧p0=p:=by simpa using hb
   refine bg rfl (fZ (α:=bc) 0 rfl hs rfl rfl rfl (v:=x) (j:=E.length+1+H.length) (by rw[List.length_set];omega) rfl rfl ?_)
   clear hs;intro g7 hs ah;replace aq:=G.le.trans aq ah
   replace hs:St g0 g7 (eP (ll tw) (some ⟨b0,p0,none⟩) n c (((E++x::(H++y::Gr)).set E.length y).set (E.length+1+H.length) x)::L):=hs
   rw[xU,ew,←hG]at hs
   apply aD;apply bU;apply au;apply ar;refine Wp 3 rfl ?_;apply aD
   exact fun a ha=>⟨X.length-(i+1),by omega,i+1,g7,rfl,hs,aq,by omega,rfl,ha.keep ⟨rfl,rfl,rfl,rfl,rfl,kI rfl (by rw[wr (by omega) (by omega)];omega),trivial⟩⟩
  ·refine aS (b:=decide ((i:Int)<(X.length:Int))) (by simp;omega) rfl ?_
   apply bE;apply bK;apply bK;apply dc
   refine mv rfl (eu.intro aq ⟨rfl,?_⟩)
   rw[List.take_of_length_le (by omega),List.drop_of_length_le (l:=X) (by omega),List.drop_of_length_le (l:=Y) (by omega),List.take_of_length_le (l:=X) (by omega)]at hs
   simpa using hs
end Go.Proofs.YtebobfdheanknaaGreatDoor
namespace Go.Proofs.YtebobfdheanknaaGreatDoor
open Go Go.K
set_option maxRecDepth 10000
attribute [local irreducible] W WL cT cn bX bA bB bD cW cG
set_option maxHeartbeats 8000000
theorem DF(tw:Bool){fo:Value}{ad:Option Addr}{n c:Nat}{L:List cV}(U X Y V:List bc){g0 g:G}(hX:0<X.length)(hY:0<Y.length)(hn:n=U.length+X.length+Y.length+V.length)(hm:n≤1000000000)(hs:St g0 g (eP (ll tw) ad n c (U++X++Y++V)::L)):
  CallsIn Wd 0 Tryz.prog (M5 tw) #[.slice ad n c,.int .i64 (U.length:Nat),.int .i64 (U.length+X.length:Nat),.int .i64 (U.length+X.length+Y.length:Nat),fo] g.w (eu g fun g' r=>r= .tuple #[]∧St g0 g' (eP (ll tw) ad n c (U++Y++X++V)::L)):=by
 cases tw
 case' false=>let tw:=false
 case' true=>let tw:=true
 all_goals
  have aq:=G.le.refl g
  first|refine enter Tryz.func291 rfl Tryz.ntmps291 rfl ?_|refine enter Tryz.func305 rfl Tryz.ntmps305 rfl ?_
  refine aX rfl ?_;refine aX rfl ?_;apply aB;apply aG
  refine bS (fun m a' w=> ∃(Y1 X2 Y2 X1:List bc) (g':G),w=g'.w∧St g0 g' (eP (ll tw) ad n c (U++Y1++X2++Y2++(X1++V))::L)∧G.le g g'∧0<X2.length∧0<Y2.length∧U.length+Y1.length+X2.length=U.length+X.length∧Y++X=Y1++(Y2++X2)++X1∧m=X2.length+Y2.length∧
    Fr 58 [] [(0,.slice ad n c),(1,.int .i64 (U.length:Nat)),(2,.int .i64 (U.length+X.length:Nat)),(3,.int .i64 (U.length+X.length+Y.length:Nat)),(4,fo),(10,.int .i64 (X2.length:Nat)),(11,.int .i64 (Y2.length:Nat))] a') (X.length+Y.length)
   (fun a' ha=>⟨[],X,Y,[],g,rfl,by simpa using hs,aq,hX,hY,by simp,by simp,rfl,ha.keep ⟨rfl,rfl,rfl,rfl,rfl,kI rfl (by rw[wr (by omega) (by omega)];omega),kI rfl (by rw[wr (by omega) (by omega)];omega),trivial⟩⟩) ?_
  clear hs aq
  rintro m a' _ ⟨Y1,X2,Y2,X1,g',rfl,hs,aq,h1,h2,h3,h4,rfl,eI⟩
  have h5:X.length+Y.length=Y1.length+(Y2.length+X2.length)+X1.length:=by
   have:=congrArg List.length h4
   simp only[List.length_append]at this;omega
  revert a'
  apply cQ;apply aB;refine aX rfl ?_
  by_cases he:X2.length=Y2.length
  ·refine aS (b:=(X2.length:Int) !=(Y2.length:Int)) (by simp;omega) rfl ?_
   apply bE;apply bK;apply bK;apply dc;apply au;apply ar;refine Wp 7 rfl ?_
   refine cE (.int .i64 ((U++Y1).length:Nat)) (t:=53) rfl (congrArg (Value.int .i64) (by rw[wr (by omega) (by omega),List.length_append];omega)) ?_
   refine cE (.int .i64 ((U++Y1).length+X2.length+([]:List bc).length:Nat)) (t:=54) rfl (congrArg (Value.int .i64) (by rw[List.length_append,List.length_nil];omega)) ?_
   refine an rfl rfl (dv (I6 tw) aI rfl rfl rfl rfl rfl (wy tw (U++Y1) X2 [] Y2 (X1++V) he (by simp only[List.length_append,List.length_nil];omega) hm (by simpa using hs)) ?_)
   clear hs
   rintro g5 _ ah ⟨rfl,hs⟩;replace aq:=G.le.trans aq ah
   apply aD
   refine mv rfl (eu.intro aq ⟨rfl,?_⟩)
   have e:U++Y++X++V=U++Y1++Y2++[]++X2++(X1++V):=by rw[List.append_assoc U Y X,h4];simp only[List.append_assoc,List.nil_append]
   rw[e];exact hs
  ·refine aJ (b:=(X2.length:Int) !=(Y2.length:Int)) (by simp;omega) rfl ?_
   apply aE;apply au;apply aG;refine aX rfl ?_
   by_cases bh:Y2.length<X2.length
   ·refine aJ (b:=decide ((Y2.length:Int)<(X2.length:Int))) (by simp;omega) rfl ?_
    have l1:(X2.take Y2.length).length=Y2.length:=by rw[List.length_take];omega
    have l2:(X2.drop Y2.length).length=X2.length-Y2.length:=List.length_drop
    have eX:=List.take_append_drop Y2.length X2
    generalize X2.take Y2.length=Xa at l1 eX
    generalize X2.drop Y2.length=Xb at l2 eX
    refine cP 7 rfl ?_
    refine cE (.int .i64 ((U++Y1).length:Nat)) (t:=27) rfl (congrArg (Value.int .i64) (by rw[wr (by omega) (by omega),List.length_append];omega)) ?_
    refine cE (.int .i64 ((U++Y1).length+Xa.length+Xb.length:Nat)) (t:=28) rfl (congrArg (Value.int .i64) (by rw[List.length_append];omega)) ?_
    refine cE (.int .i64 (Xa.length:Nat)) (t:=29) rfl (congrArg (Value.int .i64) (by omega)) ?_
    refine an rfl rfl (dv (I6 tw) aI rfl rfl rfl rfl rfl (wy tw (U++Y1) Xa Xb Y2 (X1++V) l1 (by simp only[List.length_append];omega) hm (by rw[←eX]at hs;simpa using hs)) ?_)
    clear hs
    rintro g5 _ ah ⟨rfl,hs⟩;replace aq:=G.le.trans aq ah
    apply cf;apply ar;refine Wp 4 rfl ?_;apply aD;apply bU
    refine fun a ha=>⟨X2.length,by omega,Y1++Y2,Xb,Xa,X1,g5,rfl,by simpa using hs,aq,by omega,by omega,by simp only[List.length_append];omega,by rw[h4,←eX];simp only[List.append_assoc],by omega,ha.keep ⟨rfl,rfl,rfl,rfl,rfl,kI rfl (by rw[wr (by omega) (by omega)];omega),kI rfl (by omega),trivial⟩⟩
   ·refine aS (b:=decide ((Y2.length:Int)<(X2.length:Int))) (by simp;omega) rfl ?_
    have l1:(Y2.take (Y2.length-X2.length)).length=Y2.length-X2.length:=by rw[List.length_take];omega
    have l2:(Y2.drop (Y2.length-X2.length)).length=Y2.length-(Y2.length-X2.length):=List.length_drop
    have eY:=List.take_append_drop (Y2.length-X2.length) Y2
    generalize Y2.take (Y2.length-X2.length)=Ya at l1 eY
    generalize Y2.drop (Y2.length-X2.length)=Yb at l2 eY
    refine cP 11 rfl ?_
    refine cE (.int .i64 ((U++Y1).length:Nat)) (t:=38) rfl (congrArg (Value.int .i64) (by rw[wr (by omega) (by omega),List.length_append];omega)) ?_
    refine cE (.int .i64 ((U++Y1).length+X2.length+Ya.length:Nat)) (t:=43) rfl (congrArg (Value.int .i64) (by rw[wr (n:=_+_) (by omega) (by omega),wr (by omega) (by omega),List.length_append];omega)) ?_
    refine an rfl rfl (dv (I6 tw) aI rfl rfl rfl rfl rfl (wy tw (U++Y1) X2 Ya Yb (X1++V) (by omega) (by simp only[List.length_append];omega) hm (by rw[←eY]at hs;simpa using hs)) ?_)
    clear hs
    rintro g5 _ ah ⟨rfl,hs⟩;replace aq:=G.le.trans aq ah
    apply cf;apply ar;refine Wp 4 rfl ?_;apply aD;apply bU
    refine fun a ha=>⟨Y2.length,by omega,Y1,Yb,Ya,X2++X1,g5,rfl,by simpa using hs,aq,by omega,by omega,by omega,by rw[h4,←eY];simp only[List.append_assoc],by omega,ha.keep ⟨rfl,rfl,rfl,rfl,rfl,kI rfl (by omega),kI rfl (by rw[wr (by omega) (by omega)];omega),trivial⟩⟩
end Go.Proofs.YtebobfdheanknaaGreatDoor
