/- Parts of the proof, from: The walks through base.kinds: where the facts of each kind lie, and how they are ordered. -/
import Derived.Test.YtgehbndkogohpaaGreatDoorYg
import Derived.Test.YtgehbndkogohpaaGreatDoorYc
import Derived.Test.YtgehbndkogohpaaGreatDoorYe
import Derived.Test.YtgehbndkogohpaaGreatDoorYd
namespace Go.Proofs.YtgehbndkogohpaaGreatDoor
open Go Go.K
set_option maxRecDepth 10000
attribute [local irreducible] W WL cD bc bK bd bg bh cq ck
set_option maxHeartbeats 4000000
def s4:Nat→Nat
 |0=>75
 |1=>77
 |2=>78
 |3=>79
 |4=>81
 |5=>83
 |6=>84
 |7=>85
 |8=>87
 |9=>88
 |10=>90
 |_=>0
def su:Nat→Nat
 |0=>76
 |1=>76
 |2=>76
 |3=>80
 |4=>82
 |5=>76
 |6=>76
 |7=>86
 |8=>76
 |9=>89
 |10=>76
 |_=>0
def lK:Nat→bH→Int×Int
 |3,f=>(f.waf,f.time)
 |4,f=>(f.prod,0)
 |7,f=>(f.oth,f.par)
 |9,f=>(f.rcp,f.time)
 |_,f=>(f.idn,0)
abbrev ET(p:Int×Int):Value:=.agg #[.int .i64 p.1,.int .i64 p.2]
def wm(i:Nat):Prop:=i=0∨i=1∨i=2∨i=3∨i=4∨i=5∨i=6∨i=7∨i=8∨i=9∨i=10
theorem gS{i:Nat}(h:i<11):wm i:=by unfold wm;omega
theorem Cc{i:Nat}(hi:wm i)(b:Nat)(g:G):CallsIn Wd 0 Tryz.prog (s4 i) #[.pointer (some ⟨b,0,none⟩)] g.w (cF g fun _ r=>r= .pointer (some ⟨b,i,none⟩)):=by
 rcases hi with rfl|rfl|rfl|rfl|rfl|rfl|rfl|rfl|rfl|rfl|rfl
 ·have hs:=St.start g;refine enter Tryz.func75 rfl Tryz.ntmps75 rfl ?_;refine aY rfl ?_;refine aY rfl ?_;exact aI (aX rfl rfl (hs.ret rfl))
 ·have hs:=St.start g;refine enter Tryz.func77 rfl Tryz.ntmps77 rfl ?_;refine aY rfl ?_;refine aY rfl ?_;exact aI (aX rfl rfl (hs.ret rfl))
 ·have hs:=St.start g;refine enter Tryz.func78 rfl Tryz.ntmps78 rfl ?_;refine aY rfl ?_;refine aY rfl ?_;exact aI (aX rfl rfl (hs.ret rfl))
 ·have hs:=St.start g;refine enter Tryz.func79 rfl Tryz.ntmps79 rfl ?_;refine aY rfl ?_;refine aY rfl ?_;exact aI (aX rfl rfl (hs.ret rfl))
 ·have hs:=St.start g;refine enter Tryz.func81 rfl Tryz.ntmps81 rfl ?_;refine aY rfl ?_;refine aY rfl ?_;exact aI (aX rfl rfl (hs.ret rfl))
 ·have hs:=St.start g;refine enter Tryz.func83 rfl Tryz.ntmps83 rfl ?_;refine aY rfl ?_;refine aY rfl ?_;exact aI (aX rfl rfl (hs.ret rfl))
 ·have hs:=St.start g;refine enter Tryz.func84 rfl Tryz.ntmps84 rfl ?_;refine aY rfl ?_;refine aY rfl ?_;exact aI (aX rfl rfl (hs.ret rfl))
 ·have hs:=St.start g;refine enter Tryz.func85 rfl Tryz.ntmps85 rfl ?_;refine aY rfl ?_;refine aY rfl ?_;exact aI (aX rfl rfl (hs.ret rfl))
 ·have hs:=St.start g;refine enter Tryz.func87 rfl Tryz.ntmps87 rfl ?_;refine aY rfl ?_;refine aY rfl ?_;exact aI (aX rfl rfl (hs.ret rfl))
 ·have hs:=St.start g;refine enter Tryz.func88 rfl Tryz.ntmps88 rfl ?_;refine aY rfl ?_;refine aY rfl ?_;exact aI (aX rfl rfl (hs.ret rfl))
 have hs:=St.start g;refine enter Tryz.func90 rfl Tryz.ntmps90 rfl ?_;refine aY rfl ?_;refine aY rfl ?_;exact aI (aX rfl rfl (hs.ret rfl))
theorem xC{i:Nat}(hi:wm i):ag Tryz.prog (s4 i):=by
 rcases hi with rfl|rfl|rfl|rfl|rfl|rfl|rfl|rfl|rfl|rfl|rfl
 ·exact R3
 ·exact R4
 ·exact R5
 ·exact R6
 ·exact R8
 ·exact R_
 ·exact Sa
 ·exact Sb
 ·exact Sd
 ·exact Se
 exact Sh
theorem pN(f:bH)(g:G):CallsIn Wd 0 Tryz.prog 76 #[fv f] g.w (cF g fun _ r=>r=ET (f.idn,0)):=by have hs:=St.start g;refine enter Tryz.func76 rfl Tryz.ntmps76 rfl ?_;apply cM;refine ak rfl rfl (aO rfl hs rfl rfl ?_);clear hs;rintro b1 g1 hs ah;skip;refine ak rfl rfl (aK T.ok rfl hs rfl rfl ?_);clear hs;rintro b1 g1 hs ah;skip;apply bW;refine dz 2 [.o 1] hs rfl ?_;refine ak rfl rfl (iR T.ok rfl (vs:=[(0,.int .i64 (f.idn)),(1,.int .i64 (0))]) (cells:=[.int .i64 (f.idn),.int .i64 (0)]) rfl rfl rfl rfl rfl (by kernel_rfl) ?_);refine bA rfl (az T.ok 0 rfl hs rfl rfl rfl rfl rfl rfl rfl rfl rfl ?_);replace hs:=hs;rintro g1 hs ah;skip;apply bW;exact aI (kC T.ok 0 rfl hs rfl rfl rfl (hs.ret rfl))
theorem OV{i:Nat}(hi:wm i)(f:bH)(g:G):CallsIn Wd 0 Tryz.prog (su i) #[fv f] g.w (cF g fun _ r=>r=ET (lK i f)):=by
 rcases hi with rfl|rfl|rfl|rfl|rfl|rfl|rfl|rfl|rfl|rfl|rfl
 ·exact pN f g
 ·exact pN f g
 ·exact pN f g
 ·have hs:=St.start g;refine enter Tryz.func80 rfl Tryz.ntmps80 rfl ?_;apply cM;refine ak rfl rfl (aO rfl hs rfl rfl ?_);clear hs;rintro b1 g1 hs ah;skip;refine ak rfl rfl (aK T.ok rfl hs rfl rfl ?_);clear hs;rintro b1 g1 hs ah;skip;apply bW;refine dz 4 [.o 1,.o 1] hs rfl ?_;refine ak rfl rfl (iR T.ok rfl (vs:=[(0,.int .i64 (f.waf)),(1,.int .i64 (f.time))]) (cells:=[.int .i64 (f.waf),.int .i64 (f.time)]) rfl rfl rfl rfl rfl (by kernel_rfl) ?_);refine bA rfl (az T.ok 0 rfl hs rfl rfl rfl rfl rfl rfl rfl rfl rfl ?_);replace hs:=hs;rintro g1 hs ah;skip;apply bW;exact aI (kC T.ok 0 rfl hs rfl rfl rfl (hs.ret rfl))
 ·have hs:=St.start g;refine enter Tryz.func82 rfl Tryz.ntmps82 rfl ?_;apply cM;refine ak rfl rfl (aO rfl hs rfl rfl ?_);clear hs;rintro b1 g1 hs ah;skip;refine ak rfl rfl (aK T.ok rfl hs rfl rfl ?_);clear hs;rintro b1 g1 hs ah;skip;apply bW;refine dz 2 [.o 1] hs rfl ?_;refine ak rfl rfl (iR T.ok rfl (vs:=[(0,.int .i64 (f.prod)),(1,.int .i64 (0))]) (cells:=[.int .i64 (f.prod),.int .i64 (0)]) rfl rfl rfl rfl rfl (by kernel_rfl) ?_);refine bA rfl (az T.ok 0 rfl hs rfl rfl rfl rfl rfl rfl rfl rfl rfl ?_);replace hs:=hs;rintro g1 hs ah;skip;apply bW;exact aI (kC T.ok 0 rfl hs rfl rfl rfl (hs.ret rfl))
 ·exact pN f g
 ·exact pN f g
 ·have hs:=St.start g;refine enter Tryz.func86 rfl Tryz.ntmps86 rfl ?_;apply cM;refine ak rfl rfl (aO rfl hs rfl rfl ?_);clear hs;rintro b1 g1 hs ah;skip;refine ak rfl rfl (aK T.ok rfl hs rfl rfl ?_);clear hs;rintro b1 g1 hs ah;skip;apply bW;refine dz 4 [.o 1,.o 1] hs rfl ?_;refine ak rfl rfl (iR T.ok rfl (vs:=[(0,.int .i64 (f.oth)),(1,.int .i64 (f.par))]) (cells:=[.int .i64 (f.oth),.int .i64 (f.par)]) rfl rfl rfl rfl rfl (by kernel_rfl) ?_);refine bA rfl (az T.ok 0 rfl hs rfl rfl rfl rfl rfl rfl rfl rfl rfl ?_);replace hs:=hs;rintro g1 hs ah;skip;apply bW;exact aI (kC T.ok 0 rfl hs rfl rfl rfl (hs.ret rfl))
 ·exact pN f g
 ·have hs:=St.start g;refine enter Tryz.func89 rfl Tryz.ntmps89 rfl ?_;apply cM;refine ak rfl rfl (aO rfl hs rfl rfl ?_);clear hs;rintro b1 g1 hs ah;skip;refine ak rfl rfl (aK T.ok rfl hs rfl rfl ?_);clear hs;rintro b1 g1 hs ah;skip;apply bW;refine dz 4 [.o 1,.o 1] hs rfl ?_;refine ak rfl rfl (iR T.ok rfl (vs:=[(0,.int .i64 (f.rcp)),(1,.int .i64 (f.time))]) (cells:=[.int .i64 (f.rcp),.int .i64 (f.time)]) rfl rfl rfl rfl rfl (by kernel_rfl) ?_);refine bA rfl (az T.ok 0 rfl hs rfl rfl rfl rfl rfl rfl rfl rfl rfl ?_);replace hs:=hs;rintro g1 hs ah;skip;apply bW;exact aI (kC T.ok 0 rfl hs rfl rfl rfl (hs.ret rfl))
 exact pN f g
theorem KK{i:Nat}(hi:wm i):ag Tryz.prog (su i):=by
 rcases hi with rfl|rfl|rfl|rfl|rfl|rfl|rfl|rfl|rfl|rfl|rfl
 ·exact AQ
 ·exact AQ
 ·exact AQ
 ·exact R7
 ·exact R9
 ·exact AQ
 ·exact AQ
 ·exact Sc
 ·exact AQ
 ·exact Sf
 exact AQ
def qx(i:Nat):Value:=.agg #[.func (.func (s4 i)) #[] #[],.func (.func (su i)) #[] #[]]
def iB:List (Int×Value):=[(1,qx 0),(2,qx 1),(3,qx 2),(4,qx 3),(5,qx 4),(6,qx 5),(7,qx 6),(8,qx 7),(9,qx 8),(10,qx 9),(11,qx 10)]
theorem Dg{k:Int}(h1:1≤k)(h2:k≤11):iD k iB=some (qx (k-1).toNat):=by
 have:k=1∨k=2∨k=3∨k=4∨k=5∨k=6∨k=7∨k=8∨k=9∨k=10∨k=11:=by omega
 rcases this with rfl|rfl|rfl|rfl|rfl|rfl|rfl|rfl|rfl|rfl|rfl<;>rfl
theorem Cd(g:G):CallsIn Wd 0 Tryz.prog 27 #[] g.w (cF g fun g' r=> ∃b,r= .map (some b)∧g'.im b∧g'.w.heap[b]? =some (eA iB)):=by have hs:=St.start g;have hT:qy Int Tryz.prog 78 _:=zc T.ok rfl rfl rfl rfl rfl;refine enter Tryz.func27 rfl Tryz.ntmps27 rfl ?_;refine aY rfl ?_;apply cM;refine ak rfl rfl (jV (κ:=Int) rfl hs ?_);clear hs;intro bm g1 hs ah;refine ak rfl rfl (aQ T.ok rfl (vs:=[(0,.func (.func (s4 0)) #[] #[]),(1,.func (.func (su 0)) #[] #[])]) (cells:=[.func (.func (s4 0)) #[] #[],.func (.func (su 0)) #[] #[]]) rfl rfl rfl rfl [(0,1),(1,1)] rfl (by kernel_rfl) ?_);refine bA rfl (dK (κ:=Int) hT 0 (.inr rfl) hs rfl rfl (a:=1) rfl rfl ?_);clear hs;intro g1 hs ah;refine ak rfl rfl (aQ T.ok rfl (vs:=[(0,.func (.func (s4 1)) #[] #[]),(1,.func (.func (su 1)) #[] #[])]) (cells:=[.func (.func (s4 1)) #[] #[],.func (.func (su 1)) #[] #[]]) rfl rfl rfl rfl [(0,1),(1,1)] rfl (by kernel_rfl) ?_);refine bA rfl (dK (κ:=Int) hT 0 (.inr rfl) hs rfl rfl (a:=2) rfl rfl ?_);clear hs;intro g1 hs ah;refine ak rfl rfl (aQ T.ok rfl (vs:=[(0,.func (.func (s4 2)) #[] #[]),(1,.func (.func (su 2)) #[] #[])]) (cells:=[.func (.func (s4 2)) #[] #[],.func (.func (su 2)) #[] #[]]) rfl rfl rfl rfl [(0,1),(1,1)] rfl (by kernel_rfl) ?_);refine bA rfl (dK (κ:=Int) hT 0 (.inr rfl) hs rfl rfl (a:=3) rfl rfl ?_);clear hs;intro g1 hs ah;refine ak rfl rfl (aQ T.ok rfl (vs:=[(0,.func (.func (s4 3)) #[] #[]),(1,.func (.func (su 3)) #[] #[])]) (cells:=[.func (.func (s4 3)) #[] #[],.func (.func (su 3)) #[] #[]]) rfl rfl rfl rfl [(0,1),(1,1)] rfl (by kernel_rfl) ?_);refine bA rfl (dK (κ:=Int) hT 0 (.inr rfl) hs rfl rfl (a:=4) rfl rfl ?_);clear hs;intro g1 hs ah;refine ak rfl rfl (aQ T.ok rfl (vs:=[(0,.func (.func (s4 4)) #[] #[]),(1,.func (.func (su 4)) #[] #[])]) (cells:=[.func (.func (s4 4)) #[] #[],.func (.func (su 4)) #[] #[]]) rfl rfl rfl rfl [(0,1),(1,1)] rfl (by kernel_rfl) ?_);refine bA rfl (dK (κ:=Int) hT 0 (.inr rfl) hs rfl rfl (a:=5) rfl rfl ?_);clear hs;intro g1 hs ah;refine ak rfl rfl (aQ T.ok rfl (vs:=[(0,.func (.func (s4 5)) #[] #[]),(1,.func (.func (su 5)) #[] #[])]) (cells:=[.func (.func (s4 5)) #[] #[],.func (.func (su 5)) #[] #[]]) rfl rfl rfl rfl [(0,1),(1,1)] rfl (by kernel_rfl) ?_);refine bA rfl (dK (κ:=Int) hT 0 (.inr rfl) hs rfl rfl (a:=6) rfl rfl ?_);clear hs;intro g1 hs ah;refine ak rfl rfl (aQ T.ok rfl (vs:=[(0,.func (.func (s4 6)) #[] #[]),(1,.func (.func (su 6)) #[] #[])]) (cells:=[.func (.func (s4 6)) #[] #[],.func (.func (su 6)) #[] #[]]) rfl rfl rfl rfl [(0,1),(1,1)] rfl (by kernel_rfl) ?_);refine bA rfl (dK (κ:=Int) hT 0 (.inr rfl) hs rfl rfl (a:=7) rfl rfl ?_);clear hs;intro g1 hs ah;refine ak rfl rfl (aQ T.ok rfl (vs:=[(0,.func (.func (s4 7)) #[] #[]),(1,.func (.func (su 7)) #[] #[])]) (cells:=[.func (.func (s4 7)) #[] #[],.func (.func (su 7)) #[] #[]]) rfl rfl rfl rfl [(0,1),(1,1)] rfl (by kernel_rfl) ?_);refine bA rfl (dK (κ:=Int) hT 0 (.inr rfl) hs rfl rfl (a:=8) rfl rfl ?_);clear hs;intro g1 hs ah;refine ak rfl rfl (aQ T.ok rfl (vs:=[(0,.func (.func (s4 8)) #[] #[]),(1,.func (.func (su 8)) #[] #[])]) (cells:=[.func (.func (s4 8)) #[] #[],.func (.func (su 8)) #[] #[]]) rfl rfl rfl rfl [(0,1),(1,1)] rfl (by kernel_rfl) ?_);refine bA rfl (dK (κ:=Int) hT 0 (.inr rfl) hs rfl rfl (a:=9) rfl rfl ?_);clear hs;intro g1 hs ah;refine ak rfl rfl (aQ T.ok rfl (vs:=[(0,.func (.func (s4 9)) #[] #[]),(1,.func (.func (su 9)) #[] #[])]) (cells:=[.func (.func (s4 9)) #[] #[],.func (.func (su 9)) #[] #[]]) rfl rfl rfl rfl [(0,1),(1,1)] rfl (by kernel_rfl) ?_);refine bA rfl (dK (κ:=Int) hT 0 (.inr rfl) hs rfl rfl (a:=10) rfl rfl ?_);clear hs;intro g1 hs ah;refine ak rfl rfl (aQ T.ok rfl (vs:=[(0,.func (.func (s4 10)) #[] #[]),(1,.func (.func (su 10)) #[] #[])]) (cells:=[.func (.func (s4 10)) #[] #[],.func (.func (su 10)) #[] #[]]) rfl rfl rfl rfl [(0,1),(1,1)] rfl (by kernel_rfl) ?_);refine bA rfl (dK (κ:=Int) hT 0 (.inr rfl) hs rfl rfl (a:=11) rfl rfl ?_);clear hs;intro g1 hs ah;refine bj rfl ?_;have aT:=hs.fz (i:=0) rfl;have hh:=(hs.own 0 _ rfl).2.1;refine aI (aX rfl rfl (aT.ret ⟨bm,rfl,.inr rfl,hh⟩))
end Go.Proofs.YtgehbndkogohpaaGreatDoor
namespace Go.Proofs.YtgehbndkogohpaaGreatDoor
variable {α:Type}
def kl(k:α→Int×Int)(x y:α):Bool:=decide ((k x).1<(k y).1∨((k x).1=(k y).1∧(k x).2<(k y).2))
variable {k:α→Int×Int}
theorem rv{x y:α}:kl k x y=true↔(k x).1<(k y).1∨((k x).1=(k y).1∧(k x).2<(k y).2):=by unfold kl;simp
theorem iA{x y:α}:kl k x y=false↔ ¬((k x).1<(k y).1∨((k x).1=(k y).1∧(k x).2<(k y).2)):=by unfold kl;simp
theorem Et{x y z:α}(h1:kl k x y=true)(h2:kl k y z=true):kl k x z=true:=by rw[rv]at*;omega
theorem ry{x y z:α}(h1:kl k x y=false)(h2:kl k y z=false):kl k x z=false:=by rw[iA]at*;omega
def Eu(k:α→Int×Int)(x:α)(f:List α→List α)(xl:List α):List α→List α
 |[]=>xl
 |y::r=>if kl k y x=true then y::Eu k x f xl r else x::f (y::r)
def lW(k:α→Int×Int):List α→List α→List α
 |[],r=>r
 |x::l,r=>Eu k x (lW k l) (x::l) r
theorem gL(l:List α):lW k l []=l:=by cases l<;>rfl
theorem dU(x y:α)(l r:List α):lW k (x::l) (y::r)=if kl k y x=true then y::lW k (x::l) r else x::lW k l (y::r):=rfl
theorem Db: ∀(n:Nat) (a b c:List α),a.length+b.length+c.length=n→lW k (lW k a b) c=lW k a (lW k b c):=by
 intro n
 induction n using Nat.strongRecOn with
 |_ n ih=>
  intro a b c hn
  match a,b,c with
  |[],b,c=>rfl
  |x::a,[],c=>rw[gL];rfl
  |x::a,y::b,[]=>rw[gL,gL]
  |x::a,y::b,z::c=>
   simp only[List.length_cons]at hn;rw[dU x y,dU y z];by_cases h1:kl k y x=true
   ·rw[if_pos h1];by_cases h2:kl k z y=true
    ·rw[if_pos h2,dU,if_pos h2,dU,if_pos (Et h2 h1)];congr 1;have e:y::lW k (x::a) b=lW k (x::a) (y::b):=by rw[dU,if_pos h1]
     rw[e];exact ih (n-1) (by omega) (x::a) (y::b) c (by simp only[List.length_cons];omega)
    rw[if_neg h2,dU,if_neg h2,dU,if_pos h1];congr 1;exact ih (n-1) (by omega) (x::a) b (z::c) (by simp only[List.length_cons];omega)
   rw[if_neg h1];by_cases h2:kl k z y=true
   ·rw[if_pos h2,dU,dU];by_cases h3:kl k z x=true
    ·rw[if_pos h3,if_pos h3];congr 1;have e:x::lW k a (y::b)=lW k (x::a) (y::b):=by rw[dU,if_neg h1]
     rw[e];exact ih (n-1) (by omega) (x::a) (y::b) c (by simp only[List.length_cons];omega)
    rw[if_neg h3,if_neg h3];congr 1;have e:z::lW k (y::b) c=lW k (y::b) (z::c):=by rw[dU,if_pos h2]
    rw[e];exact ih (n-1) (by omega) a (y::b) (z::c) (by simp only[List.length_cons];omega)
   have h3: ¬kl k z x=true:=by have:=ry (Bool.eq_false_iff.2 h2) (Bool.eq_false_iff.2 h1);rw[this];simp
   rw[if_neg h2,dU,if_neg h3,dU,if_neg h1];congr 1;have e:y::lW k b (z::c)=lW k (y::b) (z::c):=by rw[dU,if_neg h2]
   rw[e];exact ih (n-1) (by omega) a (y::b) (z::c) (by simp only[List.length_cons];omega)
theorem gZ: ∀(a1 b1:List α) {a2 b2:List α},(∀x∈a1,∀y∈b2,kl k y x=false)→(∀y∈b1,∀x∈a2,kl k y x=true)→lW k (a1++a2) (b1++b2)=lW k a1 b1++lW k a2 b2
 |[],[],_,_,_,_=>rfl
 |[],y::b1,a2,b2,h1,h2=>by
  have ih:=gZ [] b1 (a2:=a2) (b2:=b2) (by simp) (fun z hz=>h2 z (List.mem_cons_of_mem _ hz));cases a2 with
  |nil=>rfl
  |cons x a2=>
   simp only[List.nil_append,List.cons_append]at ih⊢;rw[dU,if_pos (h2 y (List.mem_cons_self ..) x (List.mem_cons_self ..)),ih];rfl
 |x::a1,[],a2,b2,h1,h2=>by
  have ih:=gZ a1 [] (a2:=a2) (b2:=b2) (fun z hz=>h1 z (List.mem_cons_of_mem _ hz)) (by simp);rw[gL]at ih⊢;cases b2 with
  |nil=>rw[List.append_nil,gL,gL]
  |cons y b2=>
   simp only[List.nil_append,List.cons_append]at ih⊢;rw[dU,if_neg (by rw[h1 x (List.mem_cons_self ..) y (List.mem_cons_self ..)];simp),ih]
 |x::a1,y::b1,a2,b2,h1,h2=>by
  have Uo:=gZ (x::a1) b1 (a2:=a2) (b2:=b2) h1 (fun z hz=>h2 z (List.mem_cons_of_mem _ hz));have Up:=gZ a1 (y::b1) (a2:=a2) (b2:=b2) (fun z hz=>h1 z (List.mem_cons_of_mem _ hz)) h2;simp only[List.cons_append]at Uo Up⊢;rw[dU,dU];split
  ·rw[Uo];rfl
  rw[Up];rfl
def dN(k:α→Int×Int):List α→List α
 |[]=>[]
 |x::l=>lW k [x] (dN k l)
theorem rI: ∀(l r:List α),dN k (l++r)=lW k (dN k l) (dN k r)
 |[],r=>rfl
 |x::l,r=>by show lW k [x] (dN k (l++r))=lW k (lW k [x] (dN k l)) (dN k r);rw[rI l r,Db _ _ _ _ rfl]
theorem nI: ∀(l r:List α),(lW k l r).Perm (l++r)
 |[],r=>List.Perm.refl _
 |x::l,r=>by
  have aux: ∀r:List α,(lW k (x::l) r).Perm (x::l++r):=by
   intro r
   induction r with
   |nil=>rw[gL,List.append_nil]
   |cons y r ih=>
    rw[dU];split
    ·exact(ih.cons y).trans List.perm_middle.symm
    exact((nI l (y::r)).cons x)
  exact aux r
theorem fR: ∀l:List α,(dN k l).Perm l
 |[]=>List.Perm.refl _
 |x::l=>(nI [x] (dN k l)).trans ((fR l).cons x)
def AE(k:α→Int×Int)(l:List α):Prop:=l.Pairwise fun x y=>kl k y x=false
theorem BZ: ∀(l r:List α),AE k l→AE k r→AE k (lW k l r)
 |[],r,_,h=>h
 |x::l,r,hl,hr=>by
  have aux: ∀r:List α,AE k r→AE k (lW k (x::l) r):=by
   intro r
   induction r with
   |nil=>intro _;rw[gL];exact hl
   |cons y r ih=>
    intro hr;rw[dU];have Eg:=List.pairwise_cons.1 hl;have Jk:=List.pairwise_cons.1 hr;split
    ·rename_i h;refine List.pairwise_cons.2 ⟨fun z hz=>?_,ih Jk.2⟩;have hz:=(nI (x::l) r).mem_iff.1 hz;simp only[List.cons_append,List.mem_cons,List.mem_append]at hz;rcases hz with rfl|hz|hz
     ·rw[rv]at h;rw[iA];omega
     ·have:=Eg.1 z hz;rw[rv]at h;rw[iA]at this⊢;omega
     exact Jk.1 z hz
    rename_i h;have h:=Bool.eq_false_iff.2 h;refine List.pairwise_cons.2 ⟨fun z hz=>?_,BZ l (y::r) Eg.2 hr⟩;have hz:=(nI l (y::r)).mem_iff.1 hz;simp only[List.mem_append,List.mem_cons]at hz;rcases hz with hz|rfl|hz
    ·exact Eg.1 z hz
    ·exact h
    exact ry (Jk.1 z hz) h
  exact aux r hr
theorem jj: ∀l:List α,AE k (dN k l)
 |[]=>List.Pairwise.nil
 |x::l=>BZ [x] _ (List.pairwise_singleton _ _) (jj l)
theorem mC: ∀{l r:List α},l.Perm r→AE k l→AE k r→(∀x∈l,∀y∈l,k x=k y→x=y)→l=r
 |[],r,hp,_,_,_=>(List.nil_perm.1 hp).symm
 |x::l,[],hp,_,_,_=>(List.Perm.nil_eq hp.symm).symm
 |x::l,y::r,hp,hl,hr,hd=>by
  have Eg:=List.pairwise_cons.1 hl;have Jk:=List.pairwise_cons.1 hr;have Kq:x=y:=by
   have hx:=hp.mem_iff.1 (List.mem_cons_self (a:=x) (l:=l));have hy:=hp.mem_iff.2 (List.mem_cons_self (a:=y) (l:=r));rcases List.mem_cons.1 hx with h|h
   ·exact h
   rcases List.mem_cons.1 hy with h2|h2
   ·exact h2.symm
   have e1:=Jk.1 x h;have e2:=Eg.1 y h2;refine hd x (List.mem_cons_self ..) y (List.mem_cons_of_mem _ h2) (Prod.ext ?_ ?_)<;>(rw[iA]at e1 e2;omega)
  subst Kq;rw[mC (hp.cons_inv) Eg.2 Jk.2 fun a ha b hb=>hd a (List.mem_cons_of_mem _ ha) b (List.mem_cons_of_mem _ hb)]
end Go.Proofs.YtgehbndkogohpaaGreatDoor
namespace Go.Proofs.YtgehbndkogohpaaGreatDoor
open Go Go.K
set_option maxRecDepth 10000
attribute [local irreducible] W WL cD bc bK bd bg bh cq ck
abbrev KF:=List (List UInt8×bH)
def AO(a:List UInt8):KF→Option bH
 |[]=>none
 |(k,v)::r=>if a=k then some v else AO a r
def nr(a:List UInt8)(x:bH):KF→KF
 |[]=>[(a,x)]
 |(k,v)::r=>if a=k then(k,x)::r else(k,v)::nr a x r
def cu(m:KF):List (List UInt8×Value):=m.map fun p=>(p.1,fv p.2)
theorem B0(a:List UInt8): ∀m:KF,iD a (cu m)=(AO a m).map fv
 |[]=>rfl
 |(k,v)::r=>by
  show(if a=k then some (fv v)else iD a (cu r))=(if a=k then some v else AO a r).map fv;split
  ·rfl
  exact B0 a r
theorem xv(a:List UInt8)(x:bH): ∀m:KF,jk a (fv x) (cu m)=cu (nr a x m)
 |[]=>rfl
 |(k,v)::r=>by
  show(if a=k then(k,fv x)::cu r else(k,fv v)::jk a (fv x) (cu r))=cu (if a=k then(k,x)::r else(k,v)::nr a x r);split
  ·rfl
  rw[xv a x r];rfl
theorem Hs(m:KF):(cu m).length=m.length:=List.length_map ..
theorem Kr{m:KF}{j:Nat}{q:List UInt8×Value}(h:(cu m)[j]? =some q): ∃p,m[j]? =some p∧q=(p.1,fv p.2):=by
 unfold cu at h;rw[List.getElem?_map]at h;cases hm:m[j]? with
 |none=>rw[hm]at h;cases h
 |some p=>rw[hm]at h;exact⟨p,rfl,(Option.some.inj h).symm⟩
def gH(day:Int)(m:KF)(f:bH):KF:=
 if eP f=[]∨day<f.day then m
 else if(match AO (eP f) m with|none=>true|some o=>o8 f o)=true then nr (eP f) f m else m
def jl(day:Int)(l:List bH):KF:=l.foldl (gH day) []
def gR(m:KF)(i:Nat):List bH:=(m.filter fun p=> !p.2.gone&&decide (p.2.kind=(i:Int)+1)).map (·.2)
def ofM(l:List bH)(day:Int):gn:=⟨fun i=>dN (lK i) (gR (jl day l) i)⟩
theorem vY{a:List UInt8}{x:bH}: ∀{m:KF} (k:List UInt8),k∈(nr a x m).map (·.1)→k=a∨k∈m.map (·.1)
 |[],k,h=>by simp[nr]at h;exact .inl h
 |(b,v)::r,k,h=>by
  unfold nr at h;split at h
  ·exact .inr (by simpa using h)
  simp only[List.map_cons,List.mem_cons]at h⊢;rcases h with h|h
  ·exact .inr (.inl h)
  rcases vY k h with h|h
  ·exact .inl h
  exact .inr (.inr h)
theorem tL{a:List UInt8}{x:bH}: ∀{m:KF},(m.map (·.1)).Nodup→((nr a x m).map (·.1)).Nodup
 |[],_=>by simp[nr]
 |(b,v)::r,h=>by
  unfold nr;split
  ·simpa using h
  rename_i fB;simp only[List.map_cons,List.nodup_cons]at h⊢;refine⟨fun hb=>?_,tL h.2⟩;rcases vY b hb with e|e
  ·exact fB e.symm
  exact h.1 e
theorem y7{a:List UInt8}{x:bH}: ∀{m:KF} {p},p∈nr a x m→p=(a,x)∨p∈m
 |[],p,h=>by simp[nr]at h;exact .inl h
 |(b,v)::r,p,h=>by
  unfold nr at h;split at h
  ·rename_i e;rcases List.mem_cons.1 h with h|h
   ·subst e;exact .inl h
   exact .inr (List.mem_cons_of_mem _ h)
  rcases List.mem_cons.1 h with h|h
  ·exact .inr (h▸List.mem_cons_self ..)
  rcases y7 h with h|h
  ·exact .inl h
  exact .inr (List.mem_cons_of_mem _ h)
theorem y8{a:List UInt8}{x:bH}: ∀m:KF,(nr a x m).length≤m.length+1
 |[]=>Nat.le_refl _
 |(b,v)::r=>by
  unfold nr;split
  ·simp
  simp only[List.length_cons];have:=y8 (a:=a) (x:=x) r;omega
def Hb(m:KF):Prop:=(m.map (·.1)).Nodup∧ ∀p∈m,p.1=eP p.2∧p.1≠[]
theorem Hb.put{m:KF}{f:bH}(h:Hb m)(hk:eP f≠[]):Hb (nr (eP f) f m):=
 ⟨tL h.1,fun p hp=>(y7 hp).elim (fun e=>by subst e;exact⟨rfl,hk⟩) (h.2 p)⟩
theorem B1(day:Int)(m:KF)(f:bH):gH day m f=m∨(eP f≠[]∧gH day m f=nr (eP f) f m):=by
 unfold gH;by_cases hc:eP f=[]∨day<f.day
 ·exact .inl (if_pos hc)
 rw[if_neg hc];generalize(match AO (eP f) m with|none=>true|some o=>o8 f o)=b;cases b
 ·exact .inl rfl
 exact .inr ⟨fun e=>hc (.inl e),rfl⟩
theorem Hb.step{day:Int}{m:KF}{f:bH}(h:Hb m):Hb (gH day m f):=by
 rcases B1 day m f with e|⟨hk,e⟩<;>rw[e]
 ·exact h
 exact h.put hk
theorem Ev(day:Int)(l:List bH)(f:bH):jl day (l++[f])=gH day (jl day l) f:=by unfold jl;rw[List.foldl_append];rfl
theorem y9{P:KF→List bH→Prop}{day:Int}(h0:P [] [])(h1: ∀m l f,P m l→P (gH day m f) (l++[f]))(l:List bH):P (jl day l) l:=by
 unfold jl;suffices h: ∀(l2 l1:List bH) m,P m l1→P (l2.foldl (gH day) m) (l1++l2) by simpa using h l [] [] h0
 intro l2
 induction l2 with
 |nil=>intro l1 m h;simpa using h
 |cons f l2 ih=>intro l1 m h;have:=ih (l1++[f]) _ (h1 m l1 f h);simpa using this
theorem B2(day:Int)(l:List bH):Hb (jl day l):=y9 (P:=fun m _=>Hb m) ⟨by simp,by simp⟩ (fun m l f h=>h.step) l
theorem y_(day:Int)(l:List bH):(jl day l).length≤l.length:=
 y9 (P:=fun m l=>m.length≤l.length) (Nat.le_refl _) (fun m l f h=>by have:=y8 (a:=eP f) (x:=f) m;rw[List.length_append,List.length_singleton];rcases B1 day m f with e|⟨_,e⟩<;>rw[e]<;>omega) l
theorem Ht{f h:bH}(hf:eP f≠[])(hh:eP h≠[])(hk:f.kind=h.kind)(ho:lK (f.kind-1).toNat f=lK (f.kind-1).toNat h):eP f=eP h:=by
 have v1:eC f=true:=by cases e:eC f with|true=>rfl|false=>exact absurd (by unfold eP;rw[e];rfl) hf
 have v2:eC h=true:=by cases e:eC h with|true=>rfl|false=>exact absurd (by unfold eP;rw[e];rfl) hh
 obtain⟨s,hs,_⟩:=ln v1;obtain⟨_,_,_,_,_,_,h1,h2⟩:=nH hs;unfold eP;rw[v1,v2,if_pos rfl,if_pos rfl,←hk];congr 1;have:f.kind=1∨f.kind=2∨f.kind=3∨f.kind=4∨f.kind=5∨f.kind=6∨f.kind=7∨f.kind=8∨f.kind=9∨f.kind=10∨f.kind=11:=by omega
 rcases this with e|e|e|e|e|e|e|e|e|e|e<;>rw[e]at ho⊢ <;>(
  simp only[lK,Prod.mk.injEq,show((1:Int)-1).toNat=0 from rfl,show((2:Int)-1).toNat=1 from rfl,show((3:Int)-1).toNat=2 from rfl,show((4:Int)-1).toNat=3 from rfl,show((5:Int)-1).toNat=4 from rfl,show((6:Int)-1).toNat=5 from rfl,show((7:Int)-1).toNat=6 from rfl,show((8:Int)-1).toNat=7 from rfl,show((9:Int)-1).toNat=8 from rfl,show((10:Int)-1).toNat=9 from rfl,show((11:Int)-1).toNat=10 from rfl]at ho;simp[dQ,my,tK,mw,eH,eB,ru,bH.num,ho.1,ho.2])
theorem tM{m:KF}{i:Nat}{f:bH}(h:f∈gR m i): ∃k,(k,f)∈m∧f.kind=(i:Int)+1:=by unfold gR at h;obtain⟨p,hp,rfl⟩:=List.mem_map.1 h;obtain⟨h1,h2⟩:=List.mem_filter.1 hp;simp only[Bool.and_eq_true,decide_eq_true_eq]at h2;exact⟨p.1,h1,h2.2⟩
theorem Ew{m:KF}(hm:Hb m){i:Nat}{f h:bH}(hf:f∈gR m i)(hh:h∈gR m i)(ho:lK i f=lK i h):f=h:=by
 obtain⟨k1,m1,e1⟩:=tM hf;obtain⟨k2,m2,e2⟩:=tM hh;obtain⟨a1,b1⟩:=hm.2 _ m1;obtain⟨a2,b2⟩:=hm.2 _ m2;simp only at a1 b1 a2 b2;subst a1;subst a2;have hi:(f.kind-1).toNat=i:=by omega
 have e:=Ht b1 b2 (by omega) (by rw[hi];exact ho);have za:=hm.1;obtain⟨x,hx,ex⟩:=List.mem_iff_getElem.1 m1;obtain⟨y,hy,ey⟩:=List.mem_iff_getElem.1 m2;have Kq:x=y:=(List.getElem_inj (xs:=m.map (·.1)) (i:=x) (j:=y) (h₀:=by simpa using hx) (h₁:=by simpa using hy) za).1 (by simp only[List.getElem_map];rw[ex,ey];exact e);subst Kq;rw[ex]at ey;exact congrArg Prod.snd ey
theorem AP{m:KF}(hm:Hb m){i:Nat}{ys:List bH}(hp:ys.Perm (gR m i)):dN (lK i) ys=dN (lK i) (gR m i):=by refine mC (((fR ys).trans hp).trans (fR _).symm) (jj _) (jj _) fun x hx y hy h=>?_;exact Ew hm (hp.mem_iff.1 ((fR ys).mem_iff.1 hx)) (hp.mem_iff.1 ((fR ys).mem_iff.1 hy)) h
def rz{α:Type}(m:List α)(js:List Nat):List α:=js.filterMap fun j=>m[j]?
theorem tN{α:Type}{m:List α}{js:List Nat}{j:Nat}{p:α}(h:m[j]? =some p):rz m (js++[j])=rz m js++[p]:=by unfold rz;rw[List.filterMap_append];simp[h]
theorem Ex(m r:KF)(i:Nat):gR (m++r) i=gR m i++gR r i:=by unfold gR;rw[List.filter_append,List.map_append]
theorem Dc{m r:KF}(h:m.Perm r)(i:Nat):(gR m i).Perm (gR r i):=(h.filter _).map _
theorem tO(m:KF)(i:Nat):(gR m i).length≤m.length:=by unfold gR;rw[List.length_map];exact List.length_filter_le ..
theorem Dd{α:Type}(m:List α):rz m (List.range m.length)=m:=by
 unfold rz
 induction m with
 |nil=>rfl
 |cons p m ih=>
  rw[List.length_cons,List.range_succ_eq_map,List.filterMap_cons];simp only[List.getElem?_cons_zero];rw[List.filterMap_map];congr 1
theorem B3{α:Type}{m:List α}{js:List Nat}(hn:js.Nodup)(h1: ∀j∈js,j<m.length)(h2: ∀j,j<m.length→j∈js):(rz m js).Perm m:=by
 have hp:js.Perm (List.range m.length):=(List.perm_ext_iff_of_nodup hn List.nodup_range).2 fun a=>by rw[List.mem_range];exact⟨h1 a,h2 a⟩
 have:=hp.filterMap (fun j=>m[j]?);rw[show(List.range m.length).filterMap (fun j=>m[j]?)=m from Dd m]at this;exact this
theorem xw{α:Type}(m:List α)(js:List Nat):(rz m js).length≤js.length:=List.length_filterMap_le ..
end Go.Proofs.YtgehbndkogohpaaGreatDoor
namespace Go.Proofs.YtgehbndkogohpaaGreatDoor
open Go Go.K
set_option maxRecDepth 10000
attribute [local irreducible] W WL cD bc bK bd bg bh cq ck
set_option maxHeartbeats 2000000
def fE(a b:Int):Int:=if a<b then -1 else if b<a then 1 else 0
def Fb:List Int→Int
 |[]=>0
 |n::r=>if n=0 then Fb r else n
def rJ(p q:Int×Int):Int:=Fb [fE p.1 q.1,fE p.2 q.2]
theorem lx{α:Type}(k:α→Int×Int)(x y:α):decide (rJ (k x) (k y)<0)=kl k x y:=by
 unfold rJ kl fE Fb Fb Fb;by_cases h1:(k x).1<(k y).1
 ·simp[h1]
 by_cases h2:(k y).1<(k x).1
 ·have:(k x).1≠(k y).1:=by omega
  simp[h1,h2,this]
 have:(k x).1=(k y).1:=by omega
 by_cases h3:(k x).2<(k y).2
 ·simp[this,h3]
 by_cases h4:(k y).2<(k x).2<;>simp[this,h3,h4]
theorem CF(n:Int)(g:G):CallsIn Wd 0 Tryz.prog 184 #[.int .i64 n] g.w (cF g fun _ r=>r= .bool false):=by have hs:=St.start g;refine enter Tryz.func184 rfl Tryz.ntmps184 rfl ?_;refine aY rfl ?_;refine aY rfl ?_;exact aI (aX rfl rfl (hs.ret (by simp)))
theorem pO(m n:Int)(g:G):CallsIn Wd 0 Tryz.prog 94 #[.int .i64 m,.int .i64 n] g.w (cF g fun _ r=>r= .int .i64 (fE m n)):=by
 have hs:=St.start g;refine enter Tryz.func94 rfl Tryz.ntmps94 rfl ?_;refine aY rfl ?_;refine cN 1 rfl ?_;refine ak rfl rfl (au Jw aJ rfl rfl rfl rfl rfl (CF _ _) ?_);rintro g1 _ aP rfl;replace hs:=hs.call aP;have ah:=aP.le;skip;refine bj rfl ?_;refine cN 1 rfl ?_;refine ak rfl rfl (au Jw aJ rfl rfl rfl rfl rfl (CF _ _) ?_);rintro g1 _ aP rfl;replace hs:=hs.call aP;have ah:=aP.le;skip;refine bj rfl ?_;apply aD;refine aY rfl ?_;refine aV rfl rfl ?_;apply aF;apply ar;apply aD;refine aY rfl ?_;refine aV rfl rfl ?_;apply aF;apply ar;apply aD;refine aY rfl ?_;by_cases h1:m<n
 ·refine aM (b:=decide (m<n)) (by simp[h1]) rfl ?_;refine aY rfl ?_;exact aI (aX rfl rfl (hs.ret (by simp[fE,h1])))
 refine aV (b:=decide (m<n)) (by simp[h1]) rfl ?_;apply aF;apply ar;apply aD;refine aY rfl ?_;by_cases h2:n<m
 ·refine aM (b:=decide (n<m)) (by simp[h2]) rfl ?_;refine aY rfl ?_;exact aI (aX rfl rfl (hs.ret (by simp[fE,h1,h2])))
 refine aV (b:=decide (n<m)) (by simp[h2]) rfl ?_;apply aF;apply ar;refine aY rfl ?_;exact aI (aX rfl rfl (hs.ret (by simp[fE,h1,h2])))
theorem KL(v:Value)(l:List Int)(g:G)(aH:Rs g v l):CallsIn Wd 0 Tryz.prog 93 #[v] g.w (cF g fun _ r=>r= .int .i64 (Fb l)):=by
 obtain⟨a,c,rfl⟩:=aH.isSlice;have hlen:=aH.dJ;unfold maxLen at hlen;have hs:=St.start g;refine enter Tryz.func93 rfl Tryz.ntmps93 rfl ?_;refine aY rfl ?_;refine aY rfl ?_;apply aD;refine aY rfl ?_;apply aG;refine bM (fun m a' w=> ∃(k:Nat),w=g.w∧k≤l.length∧m=l.length-k∧Fb (l.drop k)=Fb l∧
  Fr 18 [] [(3,.int .i64 0),(6,.slice a l.length c),(7,.int .i64 l.length),(8,.int .i64 k)] a') l.length (fun a' ha=>⟨0,rfl,Nat.zero_le _,rfl,rfl,ha.keep (by(repeat (first|exact trivial|refine⟨rfl,?_⟩)))⟩) ?_
 rintro m a' _ ⟨k,rfl,hk,rfl,dx,eF⟩;revert a';apply cI;refine aY rfl ?_;apply aD;by_cases bC:k<l.length
 ·refine aM (b:=decide ((k:Int)<(l.length:Int))) (by simp;omega) rfl ?_;rw[List.drop_eq_getElem_cons bC,Fb]at dx;apply aF;apply ar;apply aD;apply aG;apply cM;refine ak rfl rfl (aW T.ok rfl aH (y:=l[k]) (by simp[dS,bC]) rfl rfl rfl rfl rfl rfl ?_);rintro b p ys aL rfl;refine Wm 1 [.e aL 0] (St.start _) rfl ?_;refine bj rfl ?_;refine aY rfl ?_;by_cases hz:l[k]=0
  ·refine aV (b:=l[k] !=0) (by simp[hz]) rfl ?_;rw[if_pos hz]at dx;apply aF;apply bR;apply ar;apply aA;refine Wp 2 rfl ?_;apply aE;exact fun a ha=>⟨l.length-(k+1),by omega,k+1,rfl,by omega,rfl,dx,ha.keep ⟨rfl,rfl,rfl,kI rfl (by rw[wr (by omega) (by omega)];omega),trivial⟩⟩
  refine aM (b:=l[k] !=0) (by simp[hz]) rfl ?_;rw[if_neg hz]at dx;refine aY rfl ?_;exact aI (aX rfl rfl (hs.ret (by rw[dx])))
 refine aV (b:=decide ((k:Int)<(l.length:Int))) (by simp;omega) rfl ?_;obtain rfl:k=l.length:=by omega
 apply bF;apply bG;apply bG;apply c_;apply ar;refine aY rfl ?_;rw[List.drop_length,Fb]at dx;exact aI (aX rfl rfl (hs.ret (by rw[←dx])))
end Go.Proofs.YtgehbndkogohpaaGreatDoor
namespace Go.Proofs.YtgehbndkogohpaaGreatDoor
open Go Go.K
set_option maxRecDepth 10000
attribute [local irreducible] W WL cD bc bK bd bg bh cq ck
set_option maxHeartbeats 8000000
abbrev Ce(b:Nat):cS:=.obj b (.cells [.int .i64 0,.int .i64 0].toArray 161 (0,0))
def o6(g0:G)(i j:Nat)(ρ:Nat→Option Value)(g:G):Prop:=
 match ρ i,ρ j with
 |none,none=>St g0 g []
 |some v,none=> ∃b,v= .pointer (some ⟨b,0,none⟩)∧St g0 g [Ce b]
 |none,some u=> ∃c,u= .pointer (some ⟨c,0,none⟩)∧St g0 g [Ce c]
 |some v,some u=> ∃b c,v= .pointer (some ⟨b,0,none⟩)∧u= .pointer (some ⟨c,0,none⟩)∧St g0 g [Ce b,Ce c]
theorem Dh{g0:G}{i j:Nat}(ρ:Nat→Option Value)(g g':G)(hf:a_ g g')(h:o6 g0 i j ρ g):o6 g0 i j ρ g':=by
 unfold o6 at h⊢;split at h
 ·exact h.call hf
 ·obtain⟨b,e,h⟩:=h;exact⟨b,e,h.call hf⟩
 ·obtain⟨b,e,h⟩:=h;exact⟨b,e,h.call hf⟩
 obtain⟨b,c,e1,e2,h⟩:=h;exact⟨b,c,e1,e2,h.call hf⟩
theorem EU{g0 g:G}{F:Fence}{N:Nat}{ds:List Deferred}{Q:Exit→Act→World→Prop}{l:Env}{o:Oper}{i j:Nat}{ρ:Nat→Option Value}(fB:Nat.beq j i=false)(h1:ρ i=none)(hJ:o6 g0 i j ρ g)(ho:o.op= .alloc 161):
  cD F Tryz.prog N ds o l g.w Q fun v w'=> ∃dc,dc.w=w'∧(g.le dc∧o6 g0 i j (tr ρ i v) dc)∧Fact.any.p v dc:=by
 have hn: ¬j=i:=fun e=>by subst e;simp at fB
 unfold o6 at hJ;rw[h1]at hJ;cases h2:ρ j with
 |none=>
  rw[h2]at hJ;refine aK T.ok ho hJ rfl rfl fun b g' hs hle=>⟨g',rfl,⟨hle,?_⟩,trivial⟩
  unfold o6 tr;rw[if_pos rfl,if_neg hn,h2];exact⟨b,rfl,hs⟩
 |some u=>
  rw[h2]at hJ;obtain⟨c,e,hJ⟩:=hJ;refine aK T.ok ho hJ rfl rfl fun b g' hs hle=>⟨g',rfl,⟨hle,?_⟩,trivial⟩
  unfold o6 tr;rw[if_pos rfl,if_neg hn,h2];exact⟨b,c,rfl,e,hs⟩
theorem EV{g0 g:G}{F:Fence}{N:Nat}{ds:List Deferred}{Q:Exit→Act→World→Prop}{l:Env}{o:Oper}{i j:Nat}{ρ:Nat→Option Value}(fB:Nat.beq j i=false)(h1:ρ j=none)(hJ:o6 g0 i j ρ g)(ho:o.op= .alloc 161):
  cD F Tryz.prog N ds o l g.w Q fun v w'=> ∃dc,dc.w=w'∧(g.le dc∧o6 g0 i j (tr ρ j v) dc)∧Fact.any.p v dc:=by
 have hn: ¬i=j:=fun e=>by subst e;simp at fB
 unfold o6 at hJ;cases h2:ρ i with
 |none=>
  rw[h2,h1]at hJ;refine aK T.ok ho hJ rfl rfl fun b g' hs hle=>⟨g',rfl,⟨hle,?_⟩,trivial⟩
  unfold o6 tr;rw[if_neg hn,if_pos rfl,h2];exact⟨b,rfl,hs⟩
 |some u=>
  rw[h2,h1]at hJ;obtain⟨c,e,hJ⟩:=hJ;refine aK T.ok ho hJ rfl rfl fun b g' hs hle=>⟨g',rfl,⟨hle,?_⟩,trivial⟩
  unfold o6 tr;rw[if_neg hn,if_pos rfl,h2];exact⟨c,b,e,rfl,hs.perm (List.Perm.swap _ _ [])⟩
def EW(fo:Value)(k:bH→Int×Int)(g:G):Prop:=∀g',g.le g'→ ∀f,iE Tryz.prog fo [fv f] g'.w (cF g' fun _ r=>r=ET (k f))
theorem EW.mono{fo:Value}{k:bH→Int×Int}{g g':G}(hle:g.le g')(h:EW fo k g):EW fo k g':=fun g1 h1=>h g1 (hle.trans h1)
theorem EX{fo:Value}{k:bH→Int×Int}{bp:Nat}(x y:bH)(g:G)(aC:EP g bp 0 [fo])(hk:EW fo k g):
  CallsIn Wd 0 Tryz.prog 92 #[fv x,fv y,.pointer (some ⟨bp,0,none⟩)] g.w (cF g fun _ r=>r= .int .i64 (rJ (k x) (k y))):=by
 have hs:=St.start g;have aq:=G.le.refl g;refine enter Tryz.func92 rfl Tryz.ntmps92 rfl ?_;apply cM;refine ak rfl rfl (aO rfl hs rfl rfl ?_);clear hs;rintro b1 g1 hs ah;obtain⟨aq,aC⟩:=cf ah aq aC;obtain⟨g2,bL,aT,ah,aL⟩:=hs.ba (i:=0) rfl;replace hs:=aT;clear aT;rw[←bL];obtain⟨aq,aC⟩:=cf ah aq aC;have aR:=aL;clear aL;skip;refine ak rfl rfl (aO rfl hs rfl rfl ?_);clear hs;rintro b2 g1 hs ah;obtain⟨aq,aC,aR⟩:=dy ah aq aC aR;obtain⟨g2,bL,aT,ah,aL⟩:=hs.ba (i:=0) rfl;replace hs:=aT;clear aT;rw[←bL];obtain⟨aq,aC,aR⟩:=dy ah aq aC aR;have cU:=aL;clear aL;refine bj rfl ?_;apply aD;apply nO (iY (eQ (.f Fact.any:: .f Fact.any::[]))) 8 [(2,10),(5,13),(6,6),(7,7)] [6,7] [[],[]] (o6 g 6 7) Dh (by unfold o6;exact hs.dr) (by kernel_rfl) ⟨dk,dk,trivial⟩
 ·refine Um [[],[]] [.z aC,.z aR] (by kernel_rfl) rfl ?_;refine bI (cL (js:=[(0,8),(1,9)]) (by kernel_rfl) rfl fun _ g2 _ _ hf _=>cT rfl (cT rfl (bE (aB rfl (eE rfl rfl rfl rfl rfl rfl (hk g2 (aq.trans ((G.bu _).trans hf)) x) fun g' v h1 h2=>⟨g',rfl,h1,h2⟩))))) ?_;refine Um [[],[]] [.z aC,.z cU] (by kernel_rfl) rfl ?_;refine bI (cL (js:=[(3,11),(4,12)]) (by kernel_rfl) rfl fun _ g2 _ _ hf _=>cT rfl (cT rfl (bE (aB rfl (eE rfl rfl rfl rfl rfl rfl (hk g2 (aq.trans ((G.bu _).trans hf)) y) fun g' v h1 h2=>⟨g',rfl,h1,h2⟩))))) ?_;refine bI (jr (js:=[]) (by kernel_rfl) rfl fun ρ g2 h1 _ h3 _ hJ=>bE ⟨rfl,EU rfl h3 hJ rfl⟩) ?_;refine bI (jr (js:=[]) (by kernel_rfl) rfl fun ρ g2 h1 _ h3 _ hJ=>bE ⟨rfl,EV rfl h3 hJ rfl⟩) ?_;exact zd
 intro ρ g3 hle hJ cR;refine cT rfl (cT rfl (gv rfl fun v6 _ r6=>gv rfl fun v7 _ r7=>bE ?_));unfold o6 at hJ;rw[r6,r7]at hJ;obtain⟨b,c,rfl,rfl,hs⟩:=hJ;have ah:=(G.bu _).trans hle;obtain⟨aR,cU⟩:=cf ah aR cU;clear hle cR r6 r7 ρ;clear aR cU;refine bA rfl (az T.ok 0 rfl hs rfl rfl rfl rfl rfl rfl rfl rfl rfl ?_);replace hs:=hs;rintro g1 hs ah;refine bA rfl (az T.ok 1 rfl hs rfl rfl rfl rfl rfl rfl rfl rfl rfl ?_);replace hs:=hs;rintro g1 hs ah;obtain⟨g2,bL,aT,ah,aL⟩:=hs.ba (i:=0) rfl;replace hs:=aT;clear aT;rw[←bL];have aR:=aL;clear aL;obtain⟨g2,bL,aT,ah,aL⟩:=hs.ba (i:=0) rfl;replace hs:=aT;clear aT;rw[←bL];replace aR:=aR.mono ah;have cU:=aL;clear aL;replace hs:St g _ []:=hs;apply bW;apply aD;apply bP hs (eO (eQ (.f (Fact.rs [fE (k x).1 (k y).1,fE (k x).2 (k y).2])::fe []))) 12 [(11,25)] (by kernel_rfl) rfl
 ·refine ay (an (js:=[]) (by kernel_rfl) fun gd hf=>aj (aB rfl (cA T.ok (q:=0) rfl rfl rfl rfl rfl rfl (by decide) ⟨gd,rfl,a_.refl _,rfl⟩))) ?_;refine Dm [[0]] [.z aR] hs (by kernel_rfl) rfl ?_;refine ay (an (js:=[]) (by kernel_rfl) fun gd hf=>aj (aB rfl (cA T.ok (q:=0) rfl rfl rfl rfl rfl rfl (by decide) ⟨gd,rfl,a_.refl _,rfl⟩))) ?_;refine Dm [[2],[1,3]] [.z cU,.c AR fun g _=>pO (k x).1 (k y).1 g] hs (by kernel_rfl) rfl ?_;refine ay (an (js:=[]) (by kernel_rfl) fun gd hf=>aj (aB rfl (cA T.ok (q:=1) rfl rfl rfl rfl rfl rfl (by decide) ⟨gd,rfl,a_.refl _,rfl⟩))) ?_;refine Dm [[5]] [.z aR] hs (by kernel_rfl) rfl ?_;refine ay (an (js:=[]) (by kernel_rfl) fun gd hf=>aj (aB rfl (cA T.ok (q:=1) rfl rfl rfl rfl rfl rfl (by decide) ⟨gd,rfl,a_.refl _,rfl⟩))) ?_;refine Dm [[7],[6,8]] [.z cU,.c AR fun g _=>pO (k x).2 (k y).2 g] hs (by kernel_rfl) rfl ?_;refine ay (an (js:=[(4,18),(9,23)]) (by kernel_rfl) fun gd hf=>ai rfl (ai rfl (aj (aB rfl (bD T.ok rfl (St.start gd) (vs:=[(0,.int .i64 (fE (k x).1 (k y).1)),(1,.int .i64 (fE (k x).2 (k y).2))]) (cells:=[fE (k x).1 (k y).1,fE (k x).2 (k y).2].map (Value.int .i64)) rfl rfl rfl rfl rfl rfl (by decide) (by decide) (by kernel_rfl) rfl fun b g' jo _=>?_))))) ?_
  ·obtain⟨g2,e1,e2,e3⟩:=pI (α:=Int) jo (cG.ints g' [fE (k x).1 (k y).1,fE (k x).2 (k y).2]);exact⟨g2,e1,e2,e3⟩
  refine ay (an (js:=[(10,24)]) (by kernel_rfl) fun gd hf=>aZ fun v h=>aj (aB rfl (au KC aJ rfl rfl rfl rfl rfl (KL v [fE (k x).1 (k y).1,fE (k x).2 (k y).2] _ h) fun g' v h1 h2=>⟨g',rfl,h1,h2⟩))) ?_;exact fD
 clear hs;intro g6 hs ah;refine bj rfl ?_;exact aI (aX rfl rfl (hs.ret rfl))
end Go.Proofs.YtgehbndkogohpaaGreatDoor
namespace Go.K
open Go Go.RowKit
class iZ(α:Type) where
 k:Nat
 enc:α→List Value
 len: ∀x,(enc x).length=k
 one: ∀x,(enc x).all Value.oneCell'=true
 pos:0<k
variable {α:Type} [iZ α]
def fl(xs:List α):List Value:=xs.flatMap iZ.enc
theorem ve(x:α)(xs:List α):fl (x::xs)=iZ.enc x++fl xs:=by unfold fl;rw[List.flatMap_cons]
theorem lP(xs ys:List α):fl (xs++ys)=fl xs++fl ys:=by unfold fl;rw[List.flatMap_append]
theorem mN: ∀xs:List α,(fl xs).length=xs.length*iZ.k α
 |[]=>by simp[fl]
 |x::xs=>by rw[ve,List.length_append,iZ.len,mN xs,List.length_cons,Nat.succ_mul];omega
theorem mr(xs:List α){i:Nat}(h:i<xs.length):fl xs=fl (xs.take i)++(iZ.enc xs[i]++fl (xs.drop (i+1))):=by
 conv=>lhs;rw[←List.take_append_drop i xs]
 rw[List.drop_eq_getElem_cons h,lP,ve]
theorem Qm(xs:List α){i:Nat}(h:i<xs.length):((fl xs).drop (i*iZ.k α)).take (iZ.k α)=iZ.enc xs[i]:=by
 have e:(fl (xs.take i)).length=i*iZ.k α:=by rw[mN,List.length_take,Nat.min_eq_left (by omega)]
 rw[mr xs h,←e,List.drop_left,←iZ.len xs[i],List.take_left]
theorem LQ(xs:List α){i:Nat}(h:i<xs.length)(y:α):lh (fl xs) (i*iZ.k α) (iZ.enc y)=fl (xs.set i y):=by
 have e:(fl (xs.take i)).length=i*iZ.k α:=by rw[mN,List.length_take,Nat.min_eq_left (by omega)]
 unfold lh;rw[mr xs h];rw[←e,List.take_left,←List.drop_drop,List.drop_left,iZ.len,←iZ.len xs[i],List.drop_left];rw[mr (xs.set i y) (i:=i) (by rw[List.length_set];exact h),List.getElem_set_self,List.take_set_of_le (Nat.le_refl _),List.drop_set_of_lt (by omega),List.append_assoc]
theorem BI(xs:List α){i:Nat}(h:i<xs.length):i*iZ.k α+iZ.k α≤(fl xs).length:=by rw[mN,←Nat.succ_mul];exact Nat.mul_le_mul_right _ h
variable {F:Fence} {P:Program} {N:Nat} {ds:List Deferred} {l:Env} {w:World} {Q:Exit→Act→World→Prop} {o:Oper} {g0 g:G} {L:List cS} {K:Value→World→Prop}
theorem dV[dR P](i:Nat){t:Nat}{ti:TI}{x:Operand}{e:TypeId}{b p c n m j:Nat}{xs:List α}(ho:o.op= .load t x)(hs:St g0 g L)
  (hi:L[i]? =some (.row e (iZ.k α) (.slice (some ⟨b,p,none⟩) n c) m (fl xs))) (hx:ev l x=some (.pointer (some ⟨b,p+j*iZ.k α,none⟩))) {y:α} (hj:xs[j]? =some y)
  (ht:tl (dR.tb P) t=some ti) (ha:sX ti.desc=true) (hk:ti.size=iZ.k α) (k:K (.agg (iZ.enc y).toArray) g.w):cD F P N ds o l g.w Q K:=by
 obtain⟨s_,rfl⟩:=List.getElem?_eq_some_iff.1 hj;refine dL dR.ok (j*iZ.k α) ho (hs.own i _ hi).1 hx ?_ k;unfold vj;rw[ht];simp only[ha,cond_true];rw[hk,show Nat.ble (j*iZ.k α+iZ.k α) (fl xs).length=true from Nat.ble_eq_true_of_le (BI xs s_),cond_true,Qm xs s_]
theorem gw[dR P](i:Nat){t:Nat}{ti:TI}{x y:Operand}{e:TypeId}{b p c n m j:Nat}{xs:List α}{v:α}(ho:o.op= .store t x y)(hs:St g0 g L)
  (hi:L[i]? =some (.row e (iZ.k α) (.slice (some ⟨b,p,none⟩) n c) m (fl xs))) (hx:ev l x=some (.pointer (some ⟨b,p+j*iZ.k α,none⟩))) (hy:ev l y=some (.agg (iZ.enc v).toArray)) (hj:j<xs.length)
  (ht:tl (dR.tb P) t=some ti) (hk:ti.size=iZ.k α)
  (kk: ∀g',St g0 g' (L.set i (.row e (iZ.k α) (.slice (some ⟨b,p,none⟩) n c) m (fl (xs.set j v))))→g.le g'→K undef g'.w):cD F P N ds o l g.w Q K:=
 gT dR.ok i (j*iZ.k α) ho hs hi hx hy ht rfl (by rw[iZ.len,hk]) (iZ.one v) (by rw[iZ.len];exact iZ.pos) (by rw[iZ.len];exact BI xs hj) (LQ xs hj v) kk
theorem cX[dR P](i:Nat){t e:Nat}{ti tj:TI}{x ix:Operand}{ad:Option Addr}{c n m:Nat}{kk:IntKind}{z:Int}{xs:List α}(ho:o.op= .indexAddr t x ix)(hs:St g0 g L)
  (hi:L[i]? =some (.row e (iZ.k α) (.slice ad n c) m (fl xs))) (h0:0≤z) (bC:z.toNat<n) (hx:ev l x=some (.slice ad n c)) (IH:ev l ix=some (.int kk z)) (ht:tl (dR.tb P) t=some ti) (hd:ti.desc= .slice e) (hj:tl (dR.tb P) e=some tj) (hk:tj.size=iZ.k α)
  (k: ∀b p,ad=some ⟨b,p,none⟩→K (.pointer (some ⟨b,p+z.toNat*iZ.k α,none⟩)) g.w):cD F P N ds o l g.w Q K:=
 dC dR.ok ho (hs.own i _ hi).1 h0 bC hx IH ht hd hj hk k
end Go.K
namespace Go.Proofs.YtgehbndkogohpaaGreatDoor
open Go Go.K
set_option maxRecDepth 10000
attribute [local irreducible] W WL cD bc bK bd bg bh cq ck
set_option maxHeartbeats 8000000
instance:iZ bH where
 k:=19
 enc:=cg
 len _:=rfl
 one f:=by simp[cg,Value.oneCell']
 pos:=by decide
def A1(fo:Value)(k:bH→Int×Int)(g:G):Prop:=∀g',g.le g'→ ∀x y,iE Tryz.prog fo [fv x,fv y] g'.w (cF g' fun _ r=>r= .int .i64 (rJ (k x) (k y)))
theorem A1.mono{fo:Value}{k:bH→Int×Int}{g g':G}(hle:g.le g')(h:A1 fo k g):A1 fo k g':=fun g1 h1=>h g1 (hle.trans h1)
theorem xD{α:Type}{k:α→Int×Int}{A B:List α}{x:α}(h1: ∀a∈A,kl k x a=false)(h2: ∀b∈B,kl k x b=true):lW k (A++B) [x]=A++x::B:=by have e:=gZ (k:=k) A [] (a2:=B) (b2:=[x]) (fun a ha y hy=>by rw[List.mem_singleton.1 hy];exact h1 a ha) (by simp);have e2:=gZ (k:=k) [] [x] (a2:=B) (b2:=[]) (by simp) (fun y hy b hb=>by rw[List.mem_singleton.1 hy];exact h2 b hb);simp only[List.nil_append,List.append_nil]at e e2;rw[e,e2,gL,gL];rfl
theorem EY{α:Type}{k:α→Int×Int}{A:List α}{x y:α}(hs:AE k (A++[y]))(h:kl k x y=false): ∀a∈A++[y],kl k x a=false:=by
 intro a ha;rcases List.mem_append.1 ha with ha|ha
 ·exact ry h ((List.pairwise_append.1 hs).2.2 a ha y (by simp))
 rw[List.mem_singleton.1 ha];exact h
theorem zk{α:Type}(X Y:List α)(y x:α):((X++y::x::Y).set (X.length+1) y).set X.length x=X++x::y::Y:=by rw[List.set_append_right _ _ (by omega),List.set_append_right _ _ (by omega)];simp
def lN:Bool→Nat
 |false=>34
 |true=>243
def OW:Bool→Nat
 |false=>248
 |true=>276
theorem OX(tw:Bool):ag Tryz.prog (OW tw):=by
 cases tw
 ·exact Ov
 exact OH
def OY:Bool→Nat
 |false=>295
 |true=>306
theorem KM(tw:Bool):ag Tryz.prog (OY tw):=by
 cases tw
 ·exact OK
 exact OO
def OZ:Bool→Nat
 |false=>275
 |true=>296
theorem SK(tw:Bool):ag Tryz.prog (OZ tw):=by
 cases tw
 ·exact OG
 exact OL
def O0:Bool→Nat
 |false=>249
 |true=>277
theorem HE(tw:Bool):ag Tryz.prog (O0 tw):=by
 cases tw
 ·exact Ow
 exact OI
def O1:Bool→Nat
 |false=>183
 |true=>252
theorem SL(tw:Bool):ag Tryz.prog (O1 tw):=by
 cases tw
 ·exact NS
 exact Oz
def O2:Bool→Nat
 |false=>91
 |true=>198
theorem O3(tw:Bool):ag Tryz.prog (O2 tw):=by
 cases tw
 ·exact Si
 exact N5
abbrev fy(e:Nat)(ad:Option Addr)(n c:Nat)(xs:List bH):cS:=.row e 19 (.slice ad n c) n (fl xs)
theorem JQ(tw:Bool){fo:Value}{kf:bH→Int×Int}{ad:Option Addr}{n c:Nat}{L:List cS}(U S V:List bH){g0 g:G}(hn:n=U.length+S.length+V.length)(hm:n≤1000000000)(hk:A1 fo kf g)(hs:St g0 g (fy (lN tw) ad n c (U++S++V)::L)):
  CallsIn Wd 0 Tryz.prog (OW tw) #[.slice ad n c,.int .i64 (U.length:Nat),.int .i64 (U.length+S.length:Nat),fo] g.w (ek g fun g' r=>r= .tuple #[]∧St g0 g' (fy (lN tw) ad n c (U++dN kf S++V)::L)):=by
 cases tw
 case' false=>let tw:=false
 case' true=>let tw:=true
 all_goals
  have aq:=G.le.refl g
  first|refine enter Tryz.func248 rfl Tryz.ntmps248 rfl ?_|refine enter Tryz.func276 rfl Tryz.ntmps276 rfl ?_
  refine aY rfl ?_;apply aG;refine bM (fun m a' w=> ∃(d:Nat) (g':G),w=g'.w∧St g0 g' (fy (lN tw) ad n c (U++dN kf (S.take d)++(S.drop d++V))::L)∧G.le g g'∧1≤d∧(d≤S.length∨d=1)∧m=S.length+1-d∧
    Fr 53 [] [(0,.slice ad n c),(1,.int .i64 (U.length:Nat)),(2,.int .i64 (U.length+S.length:Nat)),(3,fo),(8,.int .i64 (U.length+d:Nat))] a') S.length
   (fun a' ha=>⟨1,g,rfl,?_,aq,Nat.le_refl _,.inr rfl,rfl,ha.keep ⟨rfl,rfl,rfl,rfl,kI rfl (by rw[wr (by omega) (by omega)];simp),trivial⟩⟩) ?_
  ·have e:U++dN kf (S.take 1)++(S.drop 1++V)=U++S++V:=by
    cases S with
    |nil=>simp[dN]
    |cons s S=>simp[dN,gL]
   rw[e];exact hs
  clear hs aq;rintro m a' _ ⟨d,g',rfl,hs,aq,hd,Wh,rfl,eF⟩;revert a';apply cI;apply aD;refine aY rfl ?_;by_cases bC:d<S.length
  ·refine aM (b:=decide (((U.length+d:Nat):Int)<((U.length+S.length:Nat):Int))) (by simp;omega) rfl ?_;apply aF;apply ar;apply aD;apply aG;refine aY rfl ?_;apply aG;have e0:U++dN kf (S.take d)++(S.drop d++V)=(U++dN kf (S.take d))++S[d]::([]++(S.drop (d+1)++V)):=by rw[List.drop_eq_getElem_cons bC];simp only[List.append_assoc,List.cons_append,List.nil_append]
   rw[e0]at hs;generalize hW:S.drop (d+1)++V=W0 at hs;generalize hx:S[d]=x at hs;have kx:(dN kf (S.take d)).length=d:=by rw[(fR _).length_eq,List.length_take];omega
   have Wk:W0.length+d+1+U.length=n:=by rw[←hW,List.length_append,List.length_drop];omega
   have SM:=jj (k:=kf) (S.take d);have e1:dN kf (S.take (d+1))=lW kf (dN kf (S.take d)) [x]:=by rw[←hx,List.take_succ_eq_append_getElem bC,rI];rfl
   generalize hq:dN kf (S.take d)=q at hs SM kx e1;have kN:=G.le.refl g';refine bM (fun m a' w=> ∃(A B:List bH) (g2:G),w=g2.w∧St g0 g2 (fy (lN tw) ad n c (U++A++x::(B++W0))::L)∧G.le g' g2∧q=A++B∧(∀b∈B,kl kf x b=true)∧m=A.length∧
     Fr 53 [] [(0,.slice ad n c),(1,.int .i64 (U.length:Nat)),(2,.int .i64 (U.length+S.length:Nat)),(3,fo),(8,.int .i64 (U.length+d:Nat)),(9,.int .i64 (U.length+A.length:Nat))] a') d
    (fun a' ha=>⟨q,[],g',rfl,hs,kN,by simp,by simp,kx.symm,ha.keep ⟨rfl,rfl,rfl,rfl,rfl,kI rfl (by rw[kx]),trivial⟩⟩) ?_
   clear hs kN;rintro m a' _ ⟨A,B,g2,rfl,hs,kN,AI,hB,rfl,eF⟩;have wo:A.length+B.length=d:=by rw[←List.length_append,←AI,kx]
   have aq:=aq.trans kN;revert a';rcases List.eq_nil_or_concat A with rfl|⟨A,y,rfl⟩
   ·apply cI;apply aD;apply aD;apply bP hs (eQ (.e (.bool false)::eO (iY (eQ [])))) 17 [(16,34)] (by kernel_rfl) rfl
    ·refine Dm [[],[]] [] hs (by kernel_rfl) rfl ?_;refine ay (an (js:=[(0,18),(1,19)]) (by kernel_rfl) fun gd hf=>ai rfl (ai rfl (aj (aB rfl (aN _ T.ok rfl ⟨gd,rfl,a_.refl _,?_⟩))))) ?_
     ·exact congrArg Value.bool (by simp)
     exact Dz [[2],[3],[3],[3],[5,6,3],[7,3],[3],[3],[10,3],[9,11,3],[12,3],[4,8,13,3,3],[14,3],[3,15]] [] hs (by kernel_rfl) rfl
    clear hs;intro g5 hs ah;obtain⟨aq,kN⟩:=cf ah aq kN;apply bW;refine aV rfl rfl ?_;apply bF;apply bG;apply bG;apply c_;apply bR;apply ar;apply aA;refine Wp 3 rfl ?_;apply aE;refine fun a ha=>⟨S.length+1-(d+1),by omega,d+1,g5,rfl,?_,aq,by omega,by omega,rfl,ha.keep ⟨rfl,rfl,rfl,rfl,kI rfl (by rw[wr (by omega) (by omega)];omega),trivial⟩⟩
    have e2:=xD (A:=[]) (x:=x) (by simp) hB;rw[e1,AI,hW];simp only[List.nil_append]at e2⊢;rw[e2];simpa using hs
   rw[List.concat_eq_append]at*;obtain⟨b0,p0,rfl⟩: ∃b p,ad=some ⟨b,p,none⟩:=by
    rcases(hs.own 0 _ rfl).1.2 with⟨h0,_⟩|⟨b,off,cap,cur,hv,_⟩
    ·omega
    simp only[Value.slice.injEq]at hv;exact⟨b,off,hv.1⟩
   generalize hX:U++A=X;have HF:X.length=U.length+A.length:=by rw[←hX,List.length_append]
   have ej:U.length+(A++[y]).length=X.length+1:=by rw[HF,List.length_append];rfl
   rw[ej];have er:U++(A++[y])++x::(B++W0)=X++y::x::(B++W0):=by rw[←hX];simp
   rw[er]at hs;have YR:X.length+1<n:=by simp only[List.length_append,List.length_singleton]at wo;omega
   have gy:(X++y::x::(B++W0))[X.length]? =some y:=by simp
   have gx:(X++y::x::(B++W0))[X.length+1]? =some x:=by rw[List.getElem?_append_right (by omega)];simp
   apply cI;apply aD;apply aD;apply bP hs (eQ (.e (.bool true)::eO (.e (.int .i64 (X.length:Nat))::iY (fe [])))) 17 [(16,34)] (by kernel_rfl) rfl
   ·refine Dm [[],[]] [] hs (by kernel_rfl) rfl ?_;refine ay (an (js:=[(0,18),(1,19)]) (by kernel_rfl) fun gd hf=>ai rfl (ai rfl (aj (aB rfl (aN _ T.ok rfl ⟨gd,rfl,a_.refl _,?_⟩))))) ?_
    ·exact congrArg Value.bool (by simp;omega)
    refine Dm [[2],[3],[3],[3]] [] hs (by kernel_rfl) rfl ?_;refine ay (an (js:=[(5,23),(6,24),(3,21)]) (by kernel_rfl) fun gd hf=>ai rfl (ai rfl (ai rfl (aj (aB rfl (cX (α:=bH) 0 rfl (hs.dr.call hf) rfl (by omega) (by omega) rfl rfl rfl rfl rfl rfl fun b p hb=>⟨gd,rfl,a_.refl _,?_⟩)))))) ?_
    ·obtain⟨rfl,rfl⟩:b0=b∧p0=p:=by simpa using hb
     rfl
    refine ay (an (js:=[(7,25),(3,21)]) (by kernel_rfl) fun gd hf=>ai rfl (ai rfl (aj (aB rfl (dV (α:=bH) 0 rfl (hs.dr.call hf) rfl rfl (j:=X.length+1) gx rfl rfl rfl ⟨gd,rfl,a_.refl _,rfl⟩))))) ?_;refine Dm [[3],[3]] [] hs (by kernel_rfl) rfl ?_;refine ay (an (js:=[(10,28),(3,21)]) (by kernel_rfl) fun gd hf=>ai rfl (ai rfl (aj (aB rfl (aN _ T.ok rfl ⟨gd,rfl,a_.refl _,?_⟩))))) ?_
    ·exact congrArg (Value.int .i64) (by rw[wr (by omega) (by omega)];omega)
    refine ay (an (js:=[(9,27),(11,29),(3,21)]) (by kernel_rfl) fun gd hf=>ai rfl (ai rfl (ai rfl (aj (aB rfl (cX (α:=bH) 0 rfl (hs.dr.call hf) rfl (by omega) (by omega) rfl rfl rfl rfl rfl rfl fun b p hb=>⟨gd,rfl,a_.refl _,?_⟩)))))) ?_
    ·obtain⟨rfl,rfl⟩:b0=b∧p0=p:=by simpa using hb
     rfl
    refine ay (an (js:=[(12,30),(3,21)]) (by kernel_rfl) fun gd hf=>ai rfl (ai rfl (aj (aB rfl (dV (α:=bH) 0 rfl (hs.dr.call hf) rfl rfl (j:=X.length) gy rfl rfl rfl ⟨gd,rfl,a_.refl _,rfl⟩))))) ?_;refine ay (an (js:=[(4,22),(8,26),(13,31),(3,21),(3,21)]) (by kernel_rfl) fun gd hf=>ai rfl (ai rfl (ai rfl (ai rfl (ai rfl (aj (aB rfl (eE rfl rfl rfl rfl rfl rfl (hk gd (aq.trans ((G.bu _).trans hf.le)) x y) fun g' v h1 h2=>⟨g',rfl,h1,h2⟩)))))))) ?_;exact Dz [[14,3],[3,15]] [] hs (by kernel_rfl) rfl
   clear hs;intro g5 hs ah;obtain⟨aq,kN⟩:=cf ah aq kN;apply bW;cases lg:kl kf x y with
   |true=>
    refine aM (b:=decide (rJ (kf x) (kf y)<0)) (by rw[lx];exact lg) rfl ?_;apply aF;apply ar;apply aD;apply aG;have lX:(X++y::x::(B++W0)).length=n:=by rw[List.length_append,HF];simp only[List.length_append,List.length_cons,List.length_nil]at wo⊢;omega
    apply qz (iY (.e (.int .i64 (X.length:Nat))::eQ (.e (.int .i64 (X.length:Nat))::iY (eQ (fe [.f Fact.any]))))) 16 [(2,39),(4,41),(13,50)] [15] [[0,1,5,6,7,8,9,10,11,12,13,14]]
     (fun s=>match s with|0=>fy (lN tw) (some ⟨b0,p0,none⟩) n c (X++y::x::(B++W0))::L|_+1=>fy (lN tw) (some ⟨b0,p0,none⟩) n c ((X++y::x::(B++W0)).set (X.length+1) y)::L) hs (by kernel_rfl) ⟨dk,trivial⟩
    ·refine Lm [[],[],[],[]] [] (by kernel_rfl) rfl ?_;refine dm (ni (js:=[(3,40)]) (by kernel_rfl) rfl fun s g' _ _ _ hf _=>ai rfl (aj (aB rfl (aN _ T.ok rfl ⟨g',rfl,a_.refl _,?_⟩)))) ?_
     ·exact congrArg (Value.int .i64) (by rw[wr (by omega) (by omega)];omega)
     refine Lm [[],[]] [] (by kernel_rfl) rfl ?_;refine dm (ni (js:=[(6,43)]) (by kernel_rfl) rfl fun s g' _ _ _ hf _=>ai rfl (aj (aB rfl (aN _ T.ok rfl ⟨g',rfl,a_.refl _,?_⟩)))) ?_
     ·exact congrArg (Value.int .i64) (by rw[wr (by omega) (by omega)];omega)
     refine dm (lj 0 0 (js:=[(5,42),(7,44)]) (by kernel_rfl) (by kernel_rfl) ?_) ?_
     ·intro s g' _ h1 hf hJ;obtain rfl:s=0:=by omega
      refine ai rfl (ai rfl (aj (aB rfl (cX (α:=bH) 0 rfl hJ rfl (by omega) (by omega) rfl rfl rfl rfl rfl rfl fun b p hb=>⟨g',rfl,a_.refl _,?_⟩))));obtain⟨rfl,rfl⟩:b0=b∧p0=p:=by simpa using hb
      rfl
     refine dm (lj 0 0 (js:=[(8,45)]) (by kernel_rfl) (by kernel_rfl) ?_) ?_
     ·intro s g' _ h1 hf hJ;obtain rfl:s=0:=by omega
      exact ai rfl (aj (aB rfl (dV (α:=bH) 0 rfl hJ rfl rfl (j:=X.length) gy rfl rfl rfl ⟨g',rfl,a_.refl _,rfl⟩)))
     refine Lm [[],[]] [] (by kernel_rfl) rfl ?_;refine dm (lj 0 0 (js:=[(10,47),(11,48)]) (by kernel_rfl) (by kernel_rfl) ?_) ?_
     ·intro s g' _ h1 hf hJ;obtain rfl:s=0:=by omega
      refine ai rfl (ai rfl (aj (aB rfl (cX (α:=bH) 0 rfl hJ rfl (by omega) (by omega) rfl rfl rfl rfl rfl rfl fun b p hb=>⟨g',rfl,a_.refl _,?_⟩))));obtain⟨rfl,rfl⟩:b0=b∧p0=p:=by simpa using hb
      rfl
     refine dm (lj 0 0 (js:=[(12,49)]) (by kernel_rfl) (by kernel_rfl) ?_) ?_
     ·intro s g' _ h1 hf hJ;obtain rfl:s=0:=by omega
      exact ai rfl (aj (aB rfl (dV (α:=bH) 0 rfl hJ rfl rfl (j:=X.length+1) gx rfl rfl rfl ⟨g',rfl,a_.refl _,rfl⟩)))
     refine dm (lj 0 0 (js:=[(0,37),(1,38),(0,37),(1,38)]) (by kernel_rfl) (by kernel_rfl) ?_) ?_
     ·intro s g' _ h1 hf hJ;obtain rfl:s=0:=by omega
      refine ai rfl (ai rfl (ai rfl (ai rfl (aj (aB rfl (cX (α:=bH) 0 rfl hJ rfl (by omega) (by omega) rfl rfl rfl rfl rfl rfl fun b p hb=>⟨g',rfl,a_.refl _,?_⟩))))));obtain⟨rfl,rfl⟩:b0=b∧p0=p:=by simpa using hb
      rfl
     refine dm (wq 0 (js:=[(14,51),(9,46),(9,46)]) (by kernel_rfl) rfl fun g' hf hJ=>ai rfl (ai rfl (ai rfl (aj (rK rfl (gw (α:=bH) 0 rfl hJ rfl rfl rfl (v:=y) (j:=X.length+1) (by omega) rfl rfl fun g3 hs hle=>⟨g3,rfl,⟨hle,hs⟩,trivial⟩)))))) ?_;exact zl
    clear hs;intro g6 hs ah;obtain⟨aq,kN⟩:=cf ah aq kN;refine ai rfl (ai rfl (ai rfl (aj ?_)));refine ak rfl rfl (cX (α:=bH) 0 rfl hs rfl (by omega) (by omega) rfl rfl rfl rfl rfl rfl fun b p hb=>?_);obtain⟨rfl,rfl⟩:b0=b∧p0=p:=by simpa using hb
    refine bA rfl (gw (α:=bH) 0 rfl hs rfl rfl rfl (v:=x) (j:=X.length) (by rw[List.length_set];omega) rfl rfl ?_);clear hs;intro g7 hs ah;obtain⟨aq,kN⟩:=cf ah aq kN;replace hs:St g0 g7 (fy (lN tw) (some ⟨b0,p0,none⟩) n c (((X++y::x::(B++W0)).set (X.length+1) y).set X.length x)::L):=hs;rw[zk]at hs;apply aE;apply bR;apply ar;apply aA;refine Wp 3 rfl ?_;apply aE;refine fun a ha=>⟨A.length,by simp,A,y::B,g7,rfl,?_,kN,by rw[AI];simp,?_,rfl,ha.keep ⟨rfl,rfl,rfl,rfl,rfl,kI rfl (by rw[wr (by omega) (by omega)];omega),trivial⟩⟩
    ·rw[←hX]at hs;simpa using hs
    intro b hb;rcases List.mem_cons.1 hb with rfl|hb
    ·exact lg
    exact hB b hb
   |false=>
    refine aV (b:=decide (rJ (kf x) (kf y)<0)) (by rw[lx];exact lg) rfl ?_;apply bF;apply bG;apply bG;apply c_;apply bR;apply ar;apply aA;refine Wp 3 rfl ?_;apply aE;refine fun a ha=>⟨S.length+1-(d+1),by omega,d+1,g5,rfl,?_,aq,by omega,by omega,rfl,ha.keep ⟨rfl,rfl,rfl,rfl,kI rfl (by rw[wr (by omega) (by omega)];omega),trivial⟩⟩
    have e2:=xD (A:=A++[y]) (x:=x) (EY (by rw[AI]at SM;exact(List.pairwise_append.1 SM).1) lg) hB;rw[e1,AI,hW,e2];rw[←er]at hs;simpa using hs
  refine aV (b:=decide (((U.length+d:Nat):Int)<((U.length+S.length:Nat):Int))) (by simp;omega) rfl ?_;apply bF;apply bG;apply bG;apply c_;refine kD rfl (ek.intro aq ⟨rfl,?_⟩);rw[List.take_of_length_le (by omega),List.drop_of_length_le (by omega)]at hs;exact hs
end Go.Proofs.YtgehbndkogohpaaGreatDoor
namespace Go.Proofs.YtgehbndkogohpaaGreatDoor
open Go Go.K
set_option maxRecDepth 10000
attribute [local irreducible] W WL cD bc bK bd bg bh cq ck
set_option maxHeartbeats 8000000
theorem zm{α:Type}(E H G:List α)(x y:α):((E++x::(H++y::G)).set E.length y).set (E.length+1+H.length) x=E++y::(H++x::G):=by rw[List.set_append_right _ _ (by omega),List.set_append_right _ _ (by omega),Nat.sub_self,List.set_cons_zero,show E.length+1+H.length-E.length=H.length+1 from by omega,List.set_cons_succ,List.set_append_right _ _ (by omega),Nat.sub_self,List.set_cons_zero]
theorem xE{α:Type}(E H G:List α)(x y:α):(E++x::(H++y::G))[E.length+1+H.length]? =some y:=by rw[List.getElem?_append_right (by omega),show E.length+1+H.length-E.length=H.length+1 from by omega,List.getElem?_cons_succ,List.getElem?_append_right (by omega),Nat.sub_self];rfl
theorem xF(tw:Bool){fo:Value}{ad:Option Addr}{n c:Nat}{L:List cS}(U X M Y V:List bH){g0 g:G}(Kq:X.length=Y.length)(hn:n=U.length+X.length+M.length+Y.length+V.length)(hm:n≤1000000000)(hs:St g0 g (fy (lN tw) ad n c (U++X++M++Y++V)::L)):
  CallsIn Wd 0 Tryz.prog (OY tw) #[.slice ad n c,.int .i64 (U.length:Nat),.int .i64 (U.length+X.length+M.length:Nat),.int .i64 (X.length:Nat),fo] g.w (ek g fun g' r=>r= .tuple #[]∧St g0 g' (fy (lN tw) ad n c (U++Y++M++X++V)::L)):=by
 cases tw
 case' false=>let tw:=false
 case' true=>let tw:=true
 all_goals
  have aq:=G.le.refl g
  first|refine enter Tryz.func295 rfl Tryz.ntmps295 rfl ?_|refine enter Tryz.func306 rfl Tryz.ntmps306 rfl ?_
  refine aY rfl ?_;apply aG;refine bM (fun m a' w=> ∃(i:Nat) (g':G),w=g'.w∧St g0 g' (fy (lN tw) ad n c (U++Y.take i++(X.drop i++M++X.take i)++(Y.drop i++V))::L)∧G.le g g'∧i≤X.length∧m=X.length-i∧
    Fr 38 [] [(0,.slice ad n c),(1,.int .i64 (U.length:Nat)),(2,.int .i64 (U.length+X.length+M.length:Nat)),(3,.int .i64 (X.length:Nat)),(4,fo),(10,.int .i64 (i:Nat))] a') X.length
   (fun a' ha=>⟨0,g,rfl,by simpa using hs,aq,Nat.zero_le _,rfl,ha.keep ⟨rfl,rfl,rfl,rfl,rfl,rfl,trivial⟩⟩) ?_
  clear hs aq;rintro m a' _ ⟨i,g',rfl,hs,aq,hi,rfl,eF⟩;revert a';apply cI;apply aD;refine aY rfl ?_;by_cases bC:i<X.length
  ·refine aM (b:=decide ((i:Int)<(X.length:Int))) (by simp;omega) rfl ?_;have Ux:i<Y.length:=by omega
   obtain⟨b0,p0,rfl⟩: ∃b p,ad=some ⟨b,p,none⟩:=by
    rcases(hs.own 0 _ rfl).1.2 with⟨h0,_⟩|⟨b,off,cap,cur,hv,_⟩
    ·omega
    simp only[Value.slice.injEq]at hv;exact⟨b,off,hv.1⟩
   have tX:X.take (i+1)=X.take i++[X[i]]:=List.take_succ_eq_append_getElem bC;have tY:Y.take (i+1)=Y.take i++[Y[i]]:=List.take_succ_eq_append_getElem Ux;have dX:X.drop i=X[i]::X.drop (i+1):=List.drop_eq_getElem_cons bC;have dY:Y.drop i=Y[i]::Y.drop (i+1):=List.drop_eq_getElem_cons Ux;have fF:(X.drop (i+1)).length=X.length-(i+1):=List.length_drop;have Uy:(X.take i).length=i:=by rw[List.length_take];omega
   have tu:(Y.take i).length=i:=by rw[List.length_take];omega
   have cC:(Y.drop (i+1)).length=Y.length-(i+1):=List.length_drop;generalize X[i]=x at tX dX;generalize Y[i]=y at tY dY;have er:U++Y.take i++(X.drop i++M++X.take i)++(Y.drop i++V)=(U++Y.take i)++x::((X.drop (i+1)++M++X.take i)++y::(Y.drop (i+1)++V)):=by rw[dX,dY];simp only[List.append_assoc,List.cons_append]
   have ew:(U++Y.take i)++y::((X.drop (i+1)++M++X.take i)++x::(Y.drop (i+1)++V))=U++Y.take (i+1)++(X.drop (i+1)++M++X.take (i+1))++(Y.drop (i+1)++V):=by rw[tX,tY];simp only[List.append_assoc,List.cons_append,List.nil_append]
   rw[er]at hs;generalize hE:U++Y.take i=E at hs ew;generalize hH:X.drop (i+1)++M++X.take i=H at hs ew;generalize hG:Y.drop (i+1)++V=Gr at hs ew;have YS:E.length=U.length+i:=by rw[←hE,List.length_append,tu]
   have YT:H.length=X.length-(i+1)+M.length+i:=by rw[←hH,List.length_append,List.length_append,fF,Uy]
   have Uz:(E++x::(H++y::Gr)).length=n:=by rw[←hG];simp only[List.length_append,List.length_cons];omega
   have gx:(E++x::(H++y::Gr))[E.length]? =some x:=by simp
   have gy:=xE E H Gr x y;clear fF Uy tu cC;apply aF;apply ar;apply aD;apply aG;apply qz (eQ (fe (.e (.int .i64 (E.length:Nat))::eQ (fe (.e (.int .i64 (E.length+1+H.length:Nat))::eQ (fe (.e (.int .i64 (E.length+1+H.length:Nat))::iY (fe (.e (.int .i64 (E.length:Nat))::eQ (fe [.f Fact.any])))))))))) 22 [(4,20),(7,23),(19,35)] [21] [[0,1,2,3,8,9,10,11,12,13,14,15,16,17,18,19,20]]
    (fun s=>match s with|0=>fy (lN tw) (some ⟨b0,p0,none⟩) n c (E++x::(H++y::Gr))::L|_+1=>fy (lN tw) (some ⟨b0,p0,none⟩) n c ((E++x::(H++y::Gr)).set E.length y)::L) hs (by kernel_rfl) ⟨dk,trivial⟩
   ·refine Lm [[],[],[]] [] (by kernel_rfl) rfl ?_;refine dm (ni (js:=[(1,17),(2,18)]) (by kernel_rfl) rfl fun s g' _ _ _ hf _=>ai rfl (ai rfl (aj (aB rfl (aN _ T.ok rfl ⟨g',rfl,a_.refl _,?_⟩))))) ?_
    ·exact congrArg (Value.int .i64) (by rw[wr (by omega) (by omega)];omega)
    refine Lm [[],[],[]] [] (by kernel_rfl) rfl ?_;refine dm (ni (js:=[(5,21),(6,22)]) (by kernel_rfl) rfl fun s g' _ _ _ hf _=>ai rfl (ai rfl (aj (aB rfl (aN _ T.ok rfl ⟨g',rfl,a_.refl _,?_⟩))))) ?_
    ·exact congrArg (Value.int .i64) (by rw[wr (by omega) (by omega)];omega)
    refine Lm [[],[],[]] [] (by kernel_rfl) rfl ?_;refine dm (ni (js:=[(9,25),(10,26)]) (by kernel_rfl) rfl fun s g' _ _ _ hf _=>ai rfl (ai rfl (aj (aB rfl (aN _ T.ok rfl ⟨g',rfl,a_.refl _,?_⟩))))) ?_
    ·exact congrArg (Value.int .i64) (by rw[wr (by omega) (by omega)];omega)
    refine dm (lj 0 0 (js:=[(8,24),(11,27)]) (by kernel_rfl) (by kernel_rfl) ?_) ?_
    ·intro s g' _ h1 hf hJ;obtain rfl:s=0:=by omega
     refine ai rfl (ai rfl (aj (aB rfl (cX (α:=bH) 0 rfl hJ rfl (by omega) (by omega) rfl rfl rfl rfl rfl rfl fun b p hb=>⟨g',rfl,a_.refl _,?_⟩))));obtain⟨rfl,rfl⟩:b0=b∧p0=p:=by simpa using hb
     rfl
    refine dm (lj 0 0 (js:=[(12,28)]) (by kernel_rfl) (by kernel_rfl) ?_) ?_
    ·intro s g' _ h1 hf hJ;obtain rfl:s=0:=by omega
     exact ai rfl (aj (aB rfl (dV (α:=bH) 0 rfl hJ rfl rfl (j:=E.length+1+H.length) gy rfl rfl rfl ⟨g',rfl,a_.refl _,rfl⟩)))
    refine Lm [[],[],[]] [] (by kernel_rfl) rfl ?_;refine dm (ni (js:=[(15,31),(16,32)]) (by kernel_rfl) rfl fun s g' _ _ _ hf _=>ai rfl (ai rfl (aj (aB rfl (aN _ T.ok rfl ⟨g',rfl,a_.refl _,?_⟩))))) ?_
    ·exact congrArg (Value.int .i64) (by rw[wr (by omega) (by omega)];omega)
    refine dm (lj 0 0 (js:=[(14,30),(17,33)]) (by kernel_rfl) (by kernel_rfl) ?_) ?_
    ·intro s g' _ h1 hf hJ;obtain rfl:s=0:=by omega
     refine ai rfl (ai rfl (aj (aB rfl (cX (α:=bH) 0 rfl hJ rfl (by omega) (by omega) rfl rfl rfl rfl rfl rfl fun b p hb=>⟨g',rfl,a_.refl _,?_⟩))));obtain⟨rfl,rfl⟩:b0=b∧p0=p:=by simpa using hb
     rfl
    refine dm (lj 0 0 (js:=[(18,34)]) (by kernel_rfl) (by kernel_rfl) ?_) ?_
    ·intro s g' _ h1 hf hJ;obtain rfl:s=0:=by omega
     exact ai rfl (aj (aB rfl (dV (α:=bH) 0 rfl hJ rfl rfl (j:=E.length) gx rfl rfl rfl ⟨g',rfl,a_.refl _,rfl⟩)))
    refine dm (lj 0 0 (js:=[(0,16),(3,19),(0,16),(3,19)]) (by kernel_rfl) (by kernel_rfl) ?_) ?_
    ·intro s g' _ h1 hf hJ;obtain rfl:s=0:=by omega
     refine ai rfl (ai rfl (ai rfl (ai rfl (aj (aB rfl (cX (α:=bH) 0 rfl hJ rfl (by omega) (by omega) rfl rfl rfl rfl rfl rfl fun b p hb=>⟨g',rfl,a_.refl _,?_⟩))))));obtain⟨rfl,rfl⟩:b0=b∧p0=p:=by simpa using hb
     rfl
    refine dm (wq 0 (js:=[(20,36),(13,29),(13,29)]) (by kernel_rfl) rfl fun g' hf hJ=>ai rfl (ai rfl (ai rfl (aj (rK rfl (gw (α:=bH) 0 rfl hJ rfl rfl rfl (v:=y) (j:=E.length) (by omega) rfl rfl fun g3 hs hle=>⟨g3,rfl,⟨hle,hs⟩,trivial⟩)))))) ?_;exact zl
   clear hs;intro g6 hs ah;replace aq:=G.le.trans aq ah;refine ai rfl (ai rfl (ai rfl (aj ?_)));refine ak rfl rfl (cX (α:=bH) 0 rfl hs rfl (by omega) (by omega) rfl rfl rfl rfl rfl rfl fun b p hb=>?_);obtain⟨rfl,rfl⟩:b0=b∧p0=p:=by simpa using hb
   refine bA rfl (gw (α:=bH) 0 rfl hs rfl rfl rfl (v:=x) (j:=E.length+1+H.length) (by rw[List.length_set];omega) rfl rfl ?_);clear hs;intro g7 hs ah;replace aq:=G.le.trans aq ah;replace hs:St g0 g7 (fy (lN tw) (some ⟨b0,p0,none⟩) n c (((E++x::(H++y::Gr)).set E.length y).set (E.length+1+H.length) x)::L):=hs;rw[zm,ew,←hG]at hs;apply aE;apply bR;apply ar;apply aA;refine Wp 3 rfl ?_;apply aE;exact fun a ha=>⟨X.length-(i+1),by omega,i+1,g7,rfl,hs,aq,by omega,rfl,ha.keep ⟨rfl,rfl,rfl,rfl,rfl,kI rfl (by rw[wr (by omega) (by omega)];omega),trivial⟩⟩
  refine aV (b:=decide ((i:Int)<(X.length:Int))) (by simp;omega) rfl ?_;apply bF;apply bG;apply bG;apply c_;refine kD rfl (ek.intro aq ⟨rfl,?_⟩);rw[List.take_of_length_le (by omega),List.drop_of_length_le (l:=X) (by omega),List.drop_of_length_le (l:=Y) (by omega),List.take_of_length_le (l:=X) (by omega)]at hs;simpa using hs
end Go.Proofs.YtgehbndkogohpaaGreatDoor
namespace Go.Proofs.YtgehbndkogohpaaGreatDoor
open Go Go.K
set_option maxRecDepth 10000
attribute [local irreducible] W WL cD bc bK bd bg bh cq ck
set_option maxHeartbeats 8000000
theorem EZ(tw:Bool){fo:Value}{ad:Option Addr}{n c:Nat}{L:List cS}(U X Y V:List bH){g0 g:G}(hX:0<X.length)(hY:0<Y.length)(hn:n=U.length+X.length+Y.length+V.length)(hm:n≤1000000000)(hs:St g0 g (fy (lN tw) ad n c (U++X++Y++V)::L)):
  CallsIn Wd 0 Tryz.prog (OZ tw) #[.slice ad n c,.int .i64 (U.length:Nat),.int .i64 (U.length+X.length:Nat),.int .i64 (U.length+X.length+Y.length:Nat),fo] g.w (ek g fun g' r=>r= .tuple #[]∧St g0 g' (fy (lN tw) ad n c (U++Y++X++V)::L)):=by
 cases tw
 case' false=>let tw:=false
 case' true=>let tw:=true
 all_goals
  have aq:=G.le.refl g
  first|refine enter Tryz.func275 rfl Tryz.ntmps275 rfl ?_|refine enter Tryz.func296 rfl Tryz.ntmps296 rfl ?_
  refine aY rfl ?_;refine aY rfl ?_;apply aD;apply aG;refine bM (fun m a' w=> ∃(Y1 X2 Y2 X1:List bH) (g':G),w=g'.w∧St g0 g' (fy (lN tw) ad n c (U++Y1++X2++Y2++(X1++V))::L)∧G.le g g'∧0<X2.length∧0<Y2.length∧U.length+Y1.length+X2.length=U.length+X.length∧Y++X=Y1++(Y2++X2)++X1∧m=X2.length+Y2.length∧
    Fr 58 [] [(0,.slice ad n c),(1,.int .i64 (U.length:Nat)),(2,.int .i64 (U.length+X.length:Nat)),(3,.int .i64 (U.length+X.length+Y.length:Nat)),(4,fo),(10,.int .i64 (X2.length:Nat)),(11,.int .i64 (Y2.length:Nat))] a') (X.length+Y.length)
   (fun a' ha=>⟨[],X,Y,[],g,rfl,by simpa using hs,aq,hX,hY,by simp,by simp,rfl,ha.keep ⟨rfl,rfl,rfl,rfl,rfl,kI rfl (by rw[wr (by omega) (by omega)];omega),kI rfl (by rw[wr (by omega) (by omega)];omega),trivial⟩⟩) ?_
  clear hs aq;rintro m a' _ ⟨Y1,X2,Y2,X1,g',rfl,hs,aq,h1,h2,h3,h4,rfl,eF⟩;have h5:X.length+Y.length=Y1.length+(Y2.length+X2.length)+X1.length:=by have:=congrArg List.length h4;simp only[List.length_append]at this;omega
  revert a';apply cI;apply aD;refine aY rfl ?_;by_cases he:X2.length=Y2.length
  ·refine aV (b:=(X2.length:Int) !=(Y2.length:Int)) (by simp;omega) rfl ?_;apply bF;apply bG;apply bG;apply c_;apply ar;apply aA;refine Wp 7 rfl ?_;refine cY (.int .i64 ((U++Y1).length:Nat)) (t:=53) rfl (congrArg (Value.int .i64) (by rw[wr (by omega) (by omega),List.length_append];omega)) ?_;refine cY (.int .i64 ((U++Y1).length+X2.length+([]:List bH).length:Nat)) (t:=54) rfl (congrArg (Value.int .i64) (by rw[List.length_append,List.length_nil];omega)) ?_;refine ak rfl rfl (du (KM tw) aJ rfl rfl rfl rfl rfl (xF tw (U++Y1) X2 [] Y2 (X1++V) he (by simp only[List.length_append,List.length_nil];omega) hm (by simpa using hs)) ?_);clear hs;rintro g5 _ ah ⟨rfl,hs⟩;replace aq:=G.le.trans aq ah;apply aE;refine kD rfl (ek.intro aq ⟨rfl,?_⟩);have e:U++Y++X++V=U++Y1++Y2++[]++X2++(X1++V):=by rw[List.append_assoc U Y X,h4];simp only[List.append_assoc,List.nil_append]
   rw[e];exact hs
  refine aM (b:=(X2.length:Int) !=(Y2.length:Int)) (by simp;omega) rfl ?_;apply aF;apply ar;apply aG;refine aY rfl ?_;by_cases bC:Y2.length<X2.length
  ·refine aM (b:=decide ((Y2.length:Int)<(X2.length:Int))) (by simp;omega) rfl ?_;have l1:(X2.take Y2.length).length=Y2.length:=by rw[List.length_take];omega
   have l2:(X2.drop Y2.length).length=X2.length-Y2.length:=List.length_drop;have eX:=List.take_append_drop Y2.length X2;generalize X2.take Y2.length=Xa at l1 eX;generalize X2.drop Y2.length=Xb at l2 eX;refine cN 7 rfl ?_;refine cY (.int .i64 ((U++Y1).length:Nat)) (t:=27) rfl (congrArg (Value.int .i64) (by rw[wr (by omega) (by omega),List.length_append];omega)) ?_;refine cY (.int .i64 ((U++Y1).length+Xa.length+Xb.length:Nat)) (t:=28) rfl (congrArg (Value.int .i64) (by rw[List.length_append];omega)) ?_;refine cY (.int .i64 (Xa.length:Nat)) (t:=29) rfl (congrArg (Value.int .i64) (by omega)) ?_;refine ak rfl rfl (du (KM tw) aJ rfl rfl rfl rfl rfl (xF tw (U++Y1) Xa Xb Y2 (X1++V) l1 (by simp only[List.length_append];omega) hm (by rw[←eX]at hs;simpa using hs)) ?_);clear hs;rintro g5 _ ah ⟨rfl,hs⟩;replace aq:=G.le.trans aq ah;apply bW;apply aA;refine Wp 4 rfl ?_;apply aE;apply bR;refine fun a ha=>⟨X2.length,by omega,Y1++Y2,Xb,Xa,X1,g5,rfl,by simpa using hs,aq,by omega,by omega,by simp only[List.length_append];omega,by rw[h4,←eX];simp only[List.append_assoc],by omega,ha.keep ⟨rfl,rfl,rfl,rfl,rfl,kI rfl (by rw[wr (by omega) (by omega)];omega),kI rfl (by omega),trivial⟩⟩
  refine aV (b:=decide ((Y2.length:Int)<(X2.length:Int))) (by simp;omega) rfl ?_;have l1:(Y2.take (Y2.length-X2.length)).length=Y2.length-X2.length:=by rw[List.length_take];omega
  have l2:(Y2.drop (Y2.length-X2.length)).length=Y2.length-(Y2.length-X2.length):=List.length_drop;have eY:=List.take_append_drop (Y2.length-X2.length) Y2;generalize Y2.take (Y2.length-X2.length)=Ya at l1 eY;generalize Y2.drop (Y2.length-X2.length)=Yb at l2 eY;refine cN 11 rfl ?_;refine cY (.int .i64 ((U++Y1).length:Nat)) (t:=38) rfl (congrArg (Value.int .i64) (by rw[wr (by omega) (by omega),List.length_append];omega)) ?_;refine cY (.int .i64 ((U++Y1).length+X2.length+Ya.length:Nat)) (t:=43) rfl (congrArg (Value.int .i64) (by rw[wr (n:=_+_) (by omega) (by omega),wr (by omega) (by omega),List.length_append];omega)) ?_;refine ak rfl rfl (du (KM tw) aJ rfl rfl rfl rfl rfl (xF tw (U++Y1) X2 Ya Yb (X1++V) (by omega) (by simp only[List.length_append];omega) hm (by rw[←eY]at hs;simpa using hs)) ?_);clear hs;rintro g5 _ ah ⟨rfl,hs⟩;replace aq:=G.le.trans aq ah;apply bW;apply aA;refine Wp 4 rfl ?_;apply aE;apply bR;refine fun a ha=>⟨Y2.length,by omega,Y1,Yb,Ya,X2++X1,g5,rfl,by simpa using hs,aq,by omega,by omega,by omega,by rw[h4,←eY];simp only[List.append_assoc],by omega,ha.keep ⟨rfl,rfl,rfl,rfl,rfl,kI rfl (by omega),kI rfl (by rw[wr (by omega) (by omega)];omega),trivial⟩⟩
end Go.Proofs.YtgehbndkogohpaaGreatDoor
