/- Parts of the proof, from: The walk through permit's next: which steps come next. -/
import Derived.Test.YtgehbndkogohpaaGreatDoorYk
import Derived.Test.YtgehbndkogohpaaGreatDoorYe
import Derived.ArgAppend
import Derived.Test.YtgehbndkogohpaaGreatDoorYc
import Derived.Test.YtgehbndkogohpaaGreatDoorYf
import Derived.Test.YtgehbndkogohpaaGreatDoorYg
import Derived.Test.YtgehbndkogohpaaGreatDoorRows
import Derived.Lib.LaidTab
import Derived.Stop.LaidErr
import Derived.Lay
import Derived.LaidMore
import Derived.HandedShaped
import Derived.Clock
import Derived.Test.YtgehbndkogohpaaGreatDoorYh
namespace Go.Proofs.YtgehbndkogohpaaGreatDoor
open Go Go.K
set_option maxRecDepth 10000
attribute [local irreducible] W WL cD bc bK bd bg bh cq ck
set_option maxHeartbeats 1000000
theorem oO{ad:Option Addr}{n c:Nat}{zs:List Int}{g0 g:G}{L:List cS}(hs:St g0 g (.row 3 1 (.slice ad n c) n (eK zs)::L)):
  CallsIn Wd 0 Tryz.prog 36 #[.slice ad n c] g.w
   (ek g fun g' r=>r= .slice ad (Lib.compact zs).length c∧St g0 g' (.row 3 1 (.slice ad (Lib.compact zs).length c) (Lib.compact zs).length (eK (Lib.compact zs))::L)):=by
 have hr:=hs.own 0 _ rfl;by_cases h0:n=0
 ·subst h0;have hz:zs=[]:=by have:=hr.1.1;rw[me,Nat.zero_mul]at this;exact List.eq_nil_of_length_eq_zero this
  subst hz;refine callsIn_wide.2 ((Tryz.slices_Compact_int_empty ad c g.w).mono ?_);rintro e w' ⟨rfl,rfl⟩;exact⟨g,_,rfl,rfl,G.le.refl g,rfl,hs⟩
 obtain⟨bk,off,rfl⟩:=hr.1.pos h0;obtain⟨hH,A_,rfl,o7,sB⟩:=hr.1.Ft h0;unfold maxLen at sB;have fr:=Lib.compact_length_le zs;refine callsIn_wide.2 ((Tryz.slices_Compact_int bk off c zs g.w hH (by omega) o7).mono ?_);rintro e w' ⟨rfl,q,rfl⟩;obtain⟨g2,bL,aT,ah⟩:=hs.putRow (i:=0) (q:=q) (os:=#[]) (d:=Lib.compact zs++List.replicate (zs.length-(Lib.compact zs).length) 0) rfl h0 (by simp;omega);have uj:=aT.zx (i:=0) (a:=(Lib.compact zs).length) rfl fr;rw[if_neg (by omega),Option.map_some,Addr.add_lit,Nat.zero_mul,Nat.add_zero,Nat.sub_zero,Nat.sub_zero]at uj;refine⟨g2,_,bL,rfl,ah,rfl,?_⟩;have e:(eK (Lib.compact zs++List.replicate (zs.length-(Lib.compact zs).length) 0)).take ((Lib.compact zs).length*1)=eK (Lib.compact zs):=by unfold eK;rw[Nat.mul_one,List.map_append,show(Lib.compact zs).length=((Lib.compact zs).map (Value.int .i64)).length from by simp,List.take_left]
 rw[←e];exact uj
def vB(o:Option bQ)(h:List bH)(n:Int)(s:Step):List Int:=
 Lib.compact (if 0≤s.back∧Fs o h n<s.dI then jH (s.next++[s.back])else s.next)
def uk(o:Option bQ)(h:List bH):List Int:=
 if o.isSome=false then []else if h=[]then [0]else match jL o (h.getLast?.getD iy).step with
  |none=>[]
  |some s=>vB o h (h.getLast?.getD iy).step s
def QZ(o:Option bQ):Prop:=∀f,o=some f→ ∀s∈f.steps,s.next.length≤100000
theorem Fu(v:Value)(o:Option bQ)(h:List bH)(g:G)(kn:Hg g v o h)(hl:h.length≤1000000)(ho:QZ o):CallsIn Wd 0 Tryz.prog 38 #[v] g.w (cF g fun g' r=>Rs g' r (uk o h)):=by
 have hs:=St.start g;have aq:=G.le.refl g;have mg:=kn;obtain⟨_,rfl,a1,n1,c1,a2,n2,c2,a3,c3,rfl,aU,bS,cH⟩:=kn;refine enter Tryz.func38 rfl Tryz.ntmps38 rfl ?_;apply cM;refine ak rfl rfl (aO rfl hs rfl rfl ?_);clear hs;rintro b1 g1 hs ah;obtain⟨aq,cH⟩:=cf ah aq cH;obtain⟨g2,bL,aT,ah,aL⟩:=hs.ba (i:=0) rfl;replace hs:=aT;clear aT;rw[←bL];obtain⟨aq,cH⟩:=cf ah aq cH;have aC:=aL;clear aL;replace mg:=mg.mono aq;refine bj rfl ?_;apply aD;apply aG;refine l_ [.z aC] (St.start _) rfl ?_;unfold uk;cases Pf:o.isSome with
 |false=>
  rw[if_pos rfl];refine aM rfl rfl ?_;refine aY rfl ?_;exact aI (aX rfl rfl (hs.ret (Rs.nil _)))
 |true=>
  rw[if_neg (by simp)];rw[Pf]at aC mg;refine aV rfl rfl ?_;refine l_ [.z aC] (St.start _) rfl ?_;rcases List.eq_nil_or_concat h with rfl|⟨hi,x,rfl⟩
  ·rw[if_pos rfl];refine aM (b:=(([]:List bH).length:Int)==0) rfl rfl ?_;apply cM;refine ak rfl rfl (bD T.ok rfl hs (vs:=[(0,.int .i64 ((0:Int)))]) (cells:=[.int .i64 ((0:Int))]) rfl rfl rfl rfl rfl rfl (by decide) (by decide) (by kernel_rfl) rfl ?_);rintro bl gl hs ah;obtain⟨aC,cH⟩:=cf ah aC cH;obtain⟨gz,iQ,cP,jq,eh⟩:=hs.cK (α:=Int) (xs:=[(0:Int)]) (i:=0) rfl (cG.ints _ [(0:Int)]);clear ah;have ah:=jq;rw[←iQ];replace hs:=cP;clear cP;obtain⟨aC,cH⟩:=cf ah aC cH;refine bj rfl ?_;exact aI (aX rfl rfl (hs.ret eh))
  rw[List.concat_eq_append]at*;rw[if_neg (by simp),List.getLast?_concat];show W _ _ _ _ _ _ _ _;refine aV (b:=((hi++[x]).length:Int)==0) (by simp;omega) rfl ?_;have Ej:(hi++[x]).length=hi.length+1:=by simp
  have jG:dS (hi++[x]) (IntKind.i64.wrap (((hi++[x]).length:Nat)-1))=some x:=by rw[wr (by omega) (by omega),Ej,show((hi.length+1:Nat):Int)-1=(hi.length:Nat)from by omega];unfold dS;rw[if_neg (by omega)];simp
  apply aF;apply bR;apply ar;refine dz 6 [.z aC,.z aC] (St.start _) rfl ?_;refine ak rfl rfl (aW T.ok rfl cH (y:=x) jG rfl rfl rfl rfl rfl rfl ?_);rintro b9 q9 ys aL rfl;refine Wp 1 rfl ?_;refine Wm 1 [.e aL 13] (St.start _) rfl ?_;clear aL;refine bj rfl ?_;refine dz 2 [.z aC] (St.start _) rfl ?_;refine ak rfl rfl (au Ez aJ rfl rfl rfl rfl rfl (Fp _ o (hi++[x]) x.step _ mg) ?_);rintro g6 _ lz ⟨cs,rfl,dH⟩;replace hs:=hs.call lz;have ah:=lz.le;replace aC:=aC.mono ah;replace mg:=mg.mono ah;show WL _ _ _ _ _ _ _ _ _;simp only[Option.getD_some];cases SY:jL o x.step with
  |none=>
   rw[SY]at dH;obtain⟨a7,n7,c7,a8,n8,c8,rfl,eh,ku⟩:=dH;refine Wp 3 rfl ?_;refine ak rfl rfl (aK T.ok rfl hs rfl rfl ?_);clear hs;rintro b4 g1 hs ah;obtain⟨aC,eh,ku⟩:=dy ah aC eh ku;skip;refine bA rfl (az T.ok 0 rfl hs rfl rfl rfl rfl rfl rfl rfl rfl rfl ?_);replace hs:=hs;rintro g1 hs ah;obtain⟨aC,eh,ku⟩:=dy ah aC eh ku;refine bj rfl ?_;apply aD;refine aY rfl ?_;refine aM rfl rfl ?_;refine aY rfl ?_;exact aI (aX rfl rfl (hs.ret (Rs.nil _)))
  |some s=>
   rw[SY]at dH;replace dH:qD g6 cs s:=dH;obtain⟨a7,n7,c7,a8,n8,c8,rfl,eh,ku⟩:=dH;have HD:s.next.length≤100000:=by
    cases o with
    |none=>cases Pf
    |some f=>exact ho f rfl s (List.mem_of_getElem? (rR SY).2.2)
   refine Wp 3 rfl ?_;refine ak rfl rfl (aK T.ok rfl hs rfl rfl ?_);clear hs;rintro b4 g1 hs ah;obtain⟨aC,ku⟩:=cf ah aC ku;replace mg:=mg.mono ah;skip;refine bA rfl (az T.ok 0 rfl hs rfl rfl rfl rfl rfl rfl rfl rfl rfl ?_);replace hs:=hs;rintro g1 hs ah;obtain⟨aC,ku⟩:=cf ah aC ku;replace mg:=mg.mono ah;obtain⟨g2,bL,aT,ah,aL⟩:=hs.ba (i:=0) rfl;replace hs:=aT;clear aT;rw[←bL];obtain⟨aC,ku⟩:=cf ah aC ku;replace mg:=mg.mono ah;have aR:=aL;clear aL;refine bj rfl ?_;apply aD;refine aY rfl ?_;refine aV rfl rfl ?_;apply aF;apply ar;refine dz 2 [.z aR] (St.start _) rfl ?_;clear lz;refine ak rfl rfl (au B4 aJ rfl rfl rfl rfl rfl (tC _ s.next _ ku (by omega)) ?_);rintro g7 v7 AJ ⟨cells,hh,hr⟩;obtain rfl:cells=eK s.next:=cG.qF hr;obtain⟨a5,c5,rfl⟩:=hh.1.form;replace hs:=hs.ft AJ hh;have ah:=AJ.le;obtain⟨aC,aR⟩:=cf ah aC aR;replace mg:=mg.mono ah;clear hr hh AJ;replace hs:St g g7 [.row 3 1 (.slice a5 s.next.length c5) s.next.length (eK s.next)]:=hs;clear eh ku aU bS cH jG;refine bj rfl ?_;apply aD;apply aD;cases Cp:decide (0≤s.back)with
   |false=>
    have KV:vB o (hi++[x]) x.step s=Lib.compact s.next:=by unfold vB;rw[if_neg (fun e=>(of_decide_eq_false Cp) e.1)]
    apply bP hs (eQ (.e (.bool false)::eO [])) 11 [(10,47)] (by kernel_rfl) rfl
    ·refine Dm [[],[0]] [.z aR] hs (by kernel_rfl) rfl ?_;refine ay (an (js:=[(1,38)]) (by kernel_rfl) fun gd hf=>ai rfl (aj (aB rfl (aN _ T.ok rfl ⟨gd,rfl,a_.refl _,congrArg Value.bool Cp⟩)))) ?_;exact Dz [[2],[3],[3],[4,5,3,3],[3],[7,3],[6,8,3],[3,9]] [] hs (by kernel_rfl) rfl
    clear hs;intro g8 hs ah;obtain⟨aC,aR⟩:=cf ah aC aR;apply bW;refine aV rfl rfl ?_;apply aF;apply ar;refine cN 1 rfl ?_;refine ak rfl rfl (du Hv aJ rfl rfl rfl rfl rfl (oO (zs:=s.next) hs) ?_)
    (repeat clear hs)
    rintro g12 _ ah ⟨rfl,hs⟩;obtain⟨aC,aR⟩:=cf ah aC aR;obtain⟨g13,um,uo,ah,rM⟩:=hs.cK (α:=Int) (i:=0) rfl (cG.ints _ _);rw[←um];(repeat clear hs);have hs:=uo;clear uo;obtain⟨aC,aR⟩:=cf ah aC aR;clear um;refine bj rfl ?_;exact aI (aX rfl rfl (hs.ret (show Rs _ _ (vB o (hi++[x]) x.step s)from by rw[KV];exact rM)))
   |true=>
    apply bP hs (eQ (.e (.bool true)::eO [])) 11 [(10,47)] (by kernel_rfl) rfl
    ·refine Dm [[],[0]] [.z aR] hs (by kernel_rfl) rfl ?_;refine ay (an (js:=[(1,38)]) (by kernel_rfl) fun gd hf=>ai rfl (aj (aB rfl (aN _ T.ok rfl ⟨gd,rfl,a_.refl _,congrArg Value.bool Cp⟩)))) ?_;exact Dz [[2],[3],[3],[4,5,3,3],[3],[7,3],[6,8,3],[3,9]] [.z aC,.c Nb fun g' h=>Pe _ o (hi++[x]) x.step g' (mg.mono h) hl,.z aR] hs (by kernel_rfl) rfl
    clear hs;intro g8 hs ah;replace aR:=aR.mono ah;apply bW;cases Cq:decide (Fs o (hi++[x]) x.step<s.dI)with
    |false=>
     have KV:vB o (hi++[x]) x.step s=Lib.compact s.next:=by unfold vB;rw[if_neg (fun e=>(of_decide_eq_false Cq) e.2)]
     refine aV rfl rfl ?_;apply aF;apply ar;refine cN 1 rfl ?_;refine ak rfl rfl (du Hv aJ rfl rfl rfl rfl rfl (oO (zs:=s.next) hs) ?_)
     (repeat clear hs)
     rintro g12 _ ah ⟨rfl,hs⟩;replace aR:=aR.mono ah;obtain⟨g13,um,uo,ah,rM⟩:=hs.cK (α:=Int) (i:=0) rfl (cG.ints _ _);rw[←um];(repeat clear hs);have hs:=uo;clear uo;replace aR:=aR.mono ah;clear um;refine bj rfl ?_;exact aI (aX rfl rfl (hs.ret (show Rs _ _ (vB o (hi++[x]) x.step s)from by rw[KV];exact rM)))
    |true=>
     have KV:vB o (hi++[x]) x.step s=Lib.compact (jH (s.next++[s.back])):=by unfold vB;rw[if_pos ⟨of_decide_eq_true Cp,of_decide_eq_true Cq⟩]
     refine aM rfl rfl ?_;refine dz 3 [.z aR] (St.start _) rfl ?_;refine ak rfl rfl (bD T.ok rfl hs (vs:=[(0,.int .i64 s.back)]) (cells:=[.int .i64 s.back]) rfl rfl rfl rfl rfl rfl (by decide) (by decide) (by kernel_rfl) rfl ?_);rintro b6 g9 hs ah;skip;refine ak rfl rfl (cd T.ok 1 rfl hs rfl rfl rfl rfl rfl rfl rfl (by decide) rfl (Src.fL (hs.own 0 _ rfl).1).2 (by simp[Value.oneCell']) (by show(s.next.length+1)*8≤_;omega) (by unfold maxLen;omega) ?_);rintro a6 c6 g10 hs ah;replace hs:St g g10 [.row 3 1 (.slice a6 (s.next.length+1) c6) (s.next.length+1) (eK (s.next++[s.back]))]:=by
      have:=hs.drop 0;have e:eK (s.next++[s.back])=eK s.next++[.int .i64 s.back]:=by simp[eK]
      rw[e];exact this
     refine bj rfl ?_;apply aA;refine Wp 1 rfl ?_;refine ak rfl rfl (du Kw aJ rfl rfl rfl rfl rfl (Ba (zs:=s.next++[s.back]) (by simp;omega) hs) ?_)
     (repeat clear hs)
     rintro g11 _ ah ⟨rfl,hs⟩;apply bW;refine cN 1 rfl ?_;refine ak rfl rfl (du Hv aJ rfl rfl rfl rfl rfl (oO (zs:=jH (s.next++[s.back])) hs) ?_)
     (repeat clear hs)
     rintro g12 _ ah ⟨rfl,hs⟩;obtain⟨g13,um,uo,ah,rM⟩:=hs.cK (α:=Int) (i:=0) rfl (cG.ints _ _);rw[←um];(repeat clear hs);have hs:=uo;clear uo;clear um;refine bj rfl ?_;exact aI (aX rfl rfl (hs.ret (show Rs _ _ (vB o (hi++[x]) x.step s)from by rw[KV];exact rM)))
end Go.Proofs.YtgehbndkogohpaaGreatDoor
namespace Go.Proofs.YtgehbndkogohpaaGreatDoor
open Go Go.K
set_option maxRecDepth 10000
attribute [local irreducible] W WL cD bc bK bd bg bh cq ck
set_option maxHeartbeats 1000000
theorem Pg(b5:Nat)(kc:List Value)(o:Option bQ)(h:List bH)(g:G)(aC:EP g b5 0 kc)(kn:Mz g kc o h):CallsIn Wd 0 Tryz.prog 185 #[.pointer (some ⟨b5,0,none⟩)] g.w (cF g fun _ r=>r= .bool (!o.isSome)):=by have hs:=St.start g;obtain⟨a1,n1,c1,a2,n2,c2,a3,c3,rfl,aU,bS,cH⟩:=kn;refine enter Tryz.func185 rfl Tryz.ntmps185 rfl ?_;refine aY rfl ?_;refine l_ [.z aC] (St.start _) rfl ?_;exact aI (aX rfl rfl (hs.ret rfl))
theorem Ph(b5 b4:Nat)(kc:List Value)(o:Option bQ)(h:List bH)(a:jJ)(g:G)(aC:EP g b5 0 kc)(aR:EP g b4 0 (vz a))(kn:Mz g kc o h)(hl:h.length≤1000000)(ho:QZ o):
  CallsIn Wd 0 Tryz.prog 186 #[.pointer (some ⟨b5,0,none⟩),.pointer (some ⟨b4,0,none⟩)] g.w (cF g fun _ r=>r= .bool (o.isSome&& !(uk o h).contains a.step)):=by
 have hs:=St.start g;have aq:=G.le.refl g;have mg:Hg g (.agg kc.toArray) o h:=⟨kc,rfl,kn⟩
 obtain⟨a1,n1,c1,a2,n2,c2,a3,c3,rfl,aU,bS,cH⟩:=kn;refine enter Tryz.func186 rfl Tryz.ntmps186 rfl ?_;refine aY rfl ?_;apply aD;cases Pf:o.isSome with
 |false=>
  rw[Pf]at aC mg;apply bP hs (eO (eQ [])) 10 [(9,12)] (by kernel_rfl) rfl
  ·exact Dz [[],[0],[1],[2],[3,2,2],[2],[5,2],[4,6,4,2],[7,2],[2,8]] [.z aC] hs (by kernel_rfl) rfl
  clear hs;intro g6 hs ah;obtain⟨aC,aR⟩:=cf ah aC aR;refine bj rfl ?_;exact aI (aX rfl rfl (hs.ret rfl))
 |true=>
  rw[Pf]at aC mg;apply bP hs (iY (.f (Fact.rs (uk o h))::iY (fe []))) 10 [(9,12)] (by kernel_rfl) rfl
  ·refine Dm [[],[0],[1],[2]] [.z aC,.z aC] hs (by kernel_rfl) rfl ?_;refine ay (an (js:=[(3,6),(2,5),(2,5)]) (by kernel_rfl) fun gd hf=>ai rfl (ai rfl (ai rfl (aj (aB rfl (au MY aJ rfl rfl rfl rfl rfl (Fu _ o h gd (mg.mono ((G.bu _).trans hf.le)) hl ho) fun g' v h1 h2=>⟨g',rfl,h1,h2⟩)))))) ?_;refine Dm [[2],[5,2]] [.z aR] hs (by kernel_rfl) rfl ?_;refine ay (an (js:=[(4,7),(6,9),(4,7),(2,5)]) (by kernel_rfl) fun gd hf=>aZ fun _ _=>ai rfl (aZ fun v4 h4=>ai rfl (aj (aB rfl (au EC aJ rfl rfl rfl rfl rfl (nW v4 (uk o h) a.step gd h4) fun g' v h1 h2=>⟨g',rfl,h1,h2⟩))))) ?_;exact Dz [[7,2],[2,8]] [] hs (by kernel_rfl) rfl
  clear hs;intro g6 hs ah;refine bj rfl ?_;exact aI (aX rfl rfl (hs.ret rfl))
theorem Pj(b8 b7 b4:Nat)(is:Bool)(cs:List Value)(s:Step)(a:jJ)(g:G)(aC:EP g b8 0 [.bool is])(aR:EP g b7 0 cs)(cU:EP g b4 0 (vz a))(dH:qD g cs s):
  CallsIn Wd 0 Tryz.prog 188 #[.pointer (some ⟨b8,0,none⟩),.pointer (some ⟨b7,0,none⟩),.pointer (some ⟨b4,0,none⟩)] g.w (cF g fun _ r=>r= .bool (is&& !s.dt.contains a.tool)):=by
 have hs:=St.start g;have aq:=G.le.refl g;obtain⟨a7,n7,c7,a8,n8,c8,rfl,eh,ku⟩:=dH;refine enter Tryz.func188 rfl Tryz.ntmps188 rfl ?_;cases is with
 |false=>
  refine aY rfl ?_;refine l_ [.z aC] (St.start _) rfl ?_;exact aI (aX rfl rfl (hs.ret rfl))
 |true=>
  refine aY rfl ?_;refine dz 6 [.z aC,.z aR,.z cU] (St.start _) rfl ?_;refine ak rfl rfl (au EC aJ rfl rfl rfl rfl rfl (nW _ s.dt a.tool _ eh) ?_);rintro g1 _ aP rfl;replace hs:=hs.call aP;have ah:=aP.le;refine bj rfl ?_;exact aI (aX rfl rfl (hs.ret rfl))
theorem Pk(b8 b7 b4:Nat)(is:Bool)(cs:List Value)(s:Step)(a:jJ)(g:G)(aC:EP g b8 0 [.bool is])(aR:EP g b7 0 cs)(cU:EP g b4 0 (vz a))(dH:qD g cs s):
  CallsIn Wd 0 Tryz.prog 189 #[.pointer (some ⟨b8,0,none⟩),.pointer (some ⟨b7,0,none⟩),.pointer (some ⟨b4,0,none⟩)] g.w (cF g fun _ r=>r= .bool (is&&s.cE !=a.rcp)):=by
 have hs:=St.start g;have aq:=G.le.refl g;obtain⟨a7,n7,c7,a8,n8,c8,rfl,eh,ku⟩:=dH;refine enter Tryz.func189 rfl Tryz.ntmps189 rfl ?_;cases is with
 |false=>
  refine aY rfl ?_;refine l_ [.z aC] (St.start _) rfl ?_;exact aI (aX rfl rfl (hs.ret rfl))
 |true=>
  refine aY rfl ?_;refine l_ [.z aC,.z aR,.z cU] (St.start _) rfl ?_;exact aI (aX rfl rfl (hs.ret rfl))
theorem Pm(b3 b4:Nat)(sl:Nat→Value)(b:gn)(a:jJ)(g:G)(aC:EP g b3 0 ((List.range 11).map sl))(aR:EP g b4 0 (vz a))(bV:mG g (.agg ((List.range 11).map sl).toArray) b):
  CallsIn Wd 0 Tryz.prog 190 #[.pointer (some ⟨b3,0,none⟩),.pointer (some ⟨b4,0,none⟩)] g.w (cF g fun _ r=>r= .bool (!b.nh.any (pd a.tool a.cham a.rcp a.rvn a.time))):=by
 have hs:=St.start g;have aq:=G.le.refl g;refine enter Tryz.func190 rfl Tryz.ntmps190 rfl ?_;refine aY rfl ?_;refine dz 11 [.z aC,.z aR,.z aR,.z aR,.z aR,.z aR] (St.start _) rfl ?_;refine ak rfl rfl (au NY aJ rfl rfl rfl rfl rfl (KR _ b a.tool a.cham a.rcp a.rvn a.time _ bV) ?_);rintro g1 _ aP rfl;replace hs:=hs.call aP;have ah:=aP.le;refine bj rfl ?_;exact aI (aX rfl rfl (hs.ret rfl))
theorem Pn(b3 b4:Nat)(sl:Nat→Value)(b:gn)(a:jJ)(g:G)(aC:EP g b3 0 ((List.range 11).map sl))(aR:EP g b4 0 (vz a))(bV:mG g (.agg ((List.range 11).map sl).toArray) b)(hb:Fc b):
  CallsIn Wd 0 Tryz.prog 192 #[.pointer (some ⟨b3,0,none⟩),.pointer (some ⟨b4,0,none⟩)] g.w (cF g fun _ r=>r= .bool (decide ((0:Int)<((mM b a).length:Nat)))):=by
 have hs:=St.start g;have aq:=G.le.refl g;refine enter Tryz.func192 rfl Tryz.ntmps192 rfl ?_;refine aY rfl ?_;refine dz 2 [.z aC,.z aR] (St.start _) rfl ?_;refine ak rfl rfl (au Ks aJ rfl rfl rfl rfl rfl (xM _ b a _ bV hb) ?_);rintro g1 _ aP hr;replace hs:=hs.call aP;have ah:=aP.le;obtain⟨a9,c9,rfl⟩:=hr.isSlice;refine bj rfl ?_;exact aI (aX rfl rfl (hs.ret rfl))
end Go.Proofs.YtgehbndkogohpaaGreatDoor
namespace Go.Proofs.YtgehbndkogohpaaGreatDoor
open Go Go.K
set_option maxRecDepth 10000
attribute [local irreducible] W WL cD bc bK bd bg bh cq ck
set_option maxHeartbeats 1000000
structure Q0 where
 num:Int
 fn:Value
 ok:Bool
instance:El Q0 where
 k:=2
 pos:=by omega
 rc g cs r:=cs=[.int .i64 r.num,r.fn]∧r.fn.oneCell'=true∧ ∀g',g.le g'→iE Tryz.prog r.fn [] g'.w (cF g' fun _ v=>v= .bool r.ok)
 len h:=by rw[h.1];rfl
 mono hle h:=⟨h.1,h.2.1,fun g' h'=>h.2.2 g' (hle.trans h')⟩
 one h:=by
  rw[h.1];intro c hc;rcases List.mem_cons.1 hc with rfl|hc
  ·rfl
  rw[List.mem_singleton.1 hc];exact h.2.1
def mO(l:List Q0):List Int:=(l.filter (·.ok)).map (·.num)
theorem Po(b9:Nat)(v:Value)(l:List Q0)(g:G)(Pp:EP g b9 0 [v])(KW:Rs g v l):
  tT Tryz.prog 193 #[.pointer (some ⟨b9,0,none⟩)] (fun n:Int=>[.int .i64 n]) (mO l) g:=by
 obtain⟨a,c,rfl⟩:=KW.isSlice;intro g1 hle yv J Jx hJ SE hy AX;have hlen:=KW.dJ;unfold maxLen at hlen;have aq:=G.le.refl g1;have aC:=Pp.mono hle;have JO:=KW.mono hle;refine enter Tryz.func193 rfl Tryz.ntmps193 rfl ?_;refine l_ [.z aC] (St.start _) rfl ?_;apply aG;refine bM (fun m a' w=> ∃(k:Nat) (g':G),w=g'.w∧G.le g1 g'∧k≤l.length∧m=l.length-k∧J (mO (l.take k)) g'∧
   Fr 22 [] [(0,yv),(1,.pointer (some ⟨b9,0,none⟩)),(5,.slice a l.length c),(6,.int .i64 (l.length:Nat)),(7,.int .i64 (k:Nat))] a') l.length
  (fun a' ha=>⟨0,g1,rfl,aq,Nat.zero_le _,rfl,AX,ha.keep (by(repeat (first|exact trivial|refine⟨rfl,?_⟩)))⟩) ?_
 clear aC aq;rintro m a' _ ⟨k,g',rfl,aq,hk,rfl,qu,eF⟩;have eh:=JO.mono aq;have hs:=St.start g';revert a';apply cI;refine aY rfl ?_;apply aD;by_cases bC:k<l.length
 ·refine aM (b:=decide ((k:Int)<(l.length:Int))) (by simp;omega) rfl ?_;have jG:=cZ (n:=((k:Nat):Int)) rfl bC;have rp:mO l=mO (l.take k)++(mO [l[k]]++mO (l.drop (k+1))):=by
   conv=>lhs;rw[←List.take_append_drop k l,List.drop_eq_getElem_cons bC]
   unfold mO;rw[List.filter_append,←List.singleton_append,List.filter_append,List.map_append,List.map_append]
  have fP:mO (l.take (k+1))=mO (l.take k)++mO [l[k]]:=by unfold mO;rw[List.take_succ_eq_append_getElem bC,List.filter_append,List.map_append]
  generalize l[k]=x at jG rp fP;apply aF;apply ar;apply aD;apply aG;apply cM;refine ak rfl rfl (aW T.ok rfl eh (y:=x) jG rfl rfl rfl rfl rfl rfl ?_);rintro bq pq ys aL ⟨rfl,u1,H0⟩;have aR:=aL;clear aL;refine Wm 1 [.e aR 0] (St.start _) rfl ?_;refine ak rfl rfl (aK T.ok rfl hs rfl rfl ?_);clear hs;rintro bx g1 hs ah;obtain⟨aq,aR⟩:=cf ah aq aR;skip;refine bA rfl (az T.ok 0 rfl hs rfl rfl rfl rfl rfl rfl (by show(true&&(x.fn.oneCell'&&true))=true;rw[u1];rfl) rfl rfl ?_);replace hs:=hs;rintro g2 hs ah;obtain⟨aq,aR⟩:=cf ah aq aR;obtain⟨g2,bL,aT,ah,aL⟩:=hs.ba (i:=0) rfl;replace hs:=aT;clear aT;rw[←bL];obtain⟨aq,aR⟩:=cf ah aq aR
  (repeat clear aR)
  have aR:=aL;clear aL;apply bW;refine dz 2 [.z aR] (St.start _) rfl ?_;refine ak rfl rfl (eE rfl rfl rfl rfl rfl rfl (H0 _ ((G.le.refl g').trans hs.le)) ?_);rintro g4 _ ki rfl;replace hs:=hs.call ki;have ah:=ki.le;obtain⟨aq,aR⟩:=cf ah aq aR;cases lT:x.ok with
  |false=>
   have e:mO [x]=[]:=by unfold mO;rw[List.filter_cons,lT];rfl
   rw[e,List.append_nil]at fP;refine bj rfl ?_;refine aV rfl rfl ?_;apply aF;apply bR;apply ar;apply aA;refine Wp 2 rfl ?_;apply aE;exact fun a ha=>⟨l.length-(k+1),by omega,k+1,_,rfl,aq,by omega,rfl,by rw[fP];exact hJ _ _ _ hs.nC qu,ha.keep ⟨rfl,rfl,rfl,rfl,kI rfl (by rw[wr (by omega) (by omega)];omega),trivial⟩⟩
  |true=>
   have e:mO [x]=[x.num]:=by unfold mO;rw[List.filter_cons,lT];rfl
   rw[e]at fP rp;refine Wm 4 [.z aR] (St.start _) rfl ?_;have He:=hJ _ _ _ hs.nC qu;refine ak rfl rfl (eo rfl rfl rfl rfl rfl rfl ((hy _ x.num _ _ rp aq He).mono ?_));rintro _ _ ⟨g5,bv,rfl,rfl,ah,ht,hf⟩;refine⟨_,rfl,?_⟩
   (repeat clear hs)
   replace aq:=G.le.trans aq ah;cases bv with
   |false=>
    refine bj rfl ?_;refine aM rfl rfl ?_;skip;refine aI ?_;apply hQ;apply eD;apply eD;apply hQ;refine s3 rfl ?_;exact⟨g5,_,rfl,rfl,aq,.inr ⟨_,⟨mO (l.drop (k+1)),by rw[List.append_assoc];exact rp.symm⟩,hf rfl⟩⟩
   |true=>
    refine bj rfl ?_;refine aV rfl rfl ?_;apply aF;apply bR;apply ar;apply aA;refine Wp 2 rfl ?_;apply aE;exact fun a ha=>⟨l.length-(k+1),by omega,k+1,_,rfl,aq,by omega,rfl,by rw[fP];exact ht rfl,ha.keep ⟨rfl,rfl,rfl,rfl,kI rfl (by rw[wr (by omega) (by omega)];omega),trivial⟩⟩
 refine aV (b:=decide ((k:Int)<(l.length:Int))) (by simp;omega) rfl ?_;apply bF;apply bG;apply bG;apply c_;refine kD rfl ⟨g',_,rfl,rfl,aq,.inl ?_⟩;rw[List.take_of_length_le (by omega)]at qu;exact qu
def Dq(b:gn)(a:jJ)(o:Option bQ)(h:List bH):List Bool:=
 [!o.isSome,o.isSome&& !(uk o h).contains a.step,(jL o a.step).isSome&& !((jL o a.step).getD lB).dt.contains a.tool,(jL o a.step).isSome&&((jL o a.step).getD lB).cE !=a.rcp,
  !b.nh.any (pd a.tool a.cham a.rcp a.rvn a.time),decide ((0:Int)<((mM b a).length:Nat))]
def Dr(l:List Bool):List Int:=(([1,2,4,8,16,32]:List Int).zip l).filterMap fun p=>if p.2 then some p.1 else none
theorem KX(f1 f2 f3 f4 f5 f6:Value)(c1 c2 c3 c4 c5 c6:Bool):mO [⟨1,f1,c1⟩,⟨2,f2,c2⟩,⟨4,f3,c3⟩,⟨8,f4,c4⟩,⟨16,f5,c5⟩,⟨32,f6,c6⟩]=Dr [c1,c2,c3,c4,c5,c6]:=by cases c1<;>cases c2<;>cases c3<;>cases c4<;>cases c5<;>cases c6<;>rfl
theorem Ds(v u:Value)(b:gn)(a:jJ)(o:Option bQ)(h:List bH)(g:G)(bV:mG g v b)(kn:Hg g u o h)(hb:Fc b)(hl:h.length≤1000000)(ho:QZ o):CallsIn Wd 0 Tryz.prog 95 #[v,HR a,u] g.w (cF g fun g' r=> ∃b9 sv l,r= .func (.func 193) #[] #[.pointer (some ⟨b9,0,none⟩)]∧EP g' b9 0 [sv]∧Rs g' sv l∧mO l=Dr (Dq b a o h)∧l.length=6):=by
 have hs:=St.start g;have aq:=G.le.refl g;obtain⟨sl,rfl,kx⟩:=bV;have bV:mG g (.agg ((List.range 11).map sl).toArray) b:=⟨sl,rfl,kx⟩
 obtain⟨kc,rfl,kn⟩:=kn;have mg:=kn;obtain⟨a1,n1,c1,a2,n2,c2,a3,c3,rfl,aU,bS,cH⟩:=kn;refine enter Tryz.func95 rfl Tryz.ntmps95 rfl ?_;apply cM;refine ak rfl rfl (aO rfl hs rfl rfl ?_);clear hs;rintro b3 g1 hs ah;obtain⟨aq,bV⟩:=cf ah aq bV;obtain⟨g2,bL,aT,ah,aL⟩:=hs.ba (i:=0) rfl;replace hs:=aT;clear aT;rw[←bL];obtain⟨aq,bV⟩:=cf ah aq bV;have df:=aL;clear aL;skip;refine ak rfl rfl (aO rfl hs rfl rfl ?_);clear hs;rintro b4 g1 hs ah;obtain⟨aq,df,bV⟩:=dy ah aq df bV;obtain⟨g2,bL,aT,ah,aL⟩:=hs.ba (i:=0) rfl;replace hs:=aT;clear aT;rw[←bL];obtain⟨aq,df,bV⟩:=dy ah aq df bV;have aR:=aL;clear aL;skip;refine ak rfl rfl (aO rfl hs rfl rfl ?_);clear hs;rintro b5 g1 hs ah;obtain⟨aq,aR,df,bV⟩:=eS ah aq aR df bV;obtain⟨g2,bL,aT,ah,aL⟩:=hs.ba (i:=0) rfl;replace hs:=aT;clear aT;rw[←bL];obtain⟨aq,aR,df,bV⟩:=eS ah aq aR df bV;have cU:=aL;clear aL;replace mg:=mg.mono aq;refine bj rfl ?_;refine dz 3 [.z cU,.z aR] (St.start _) rfl ?_;refine ak rfl rfl (au Ez aJ rfl rfl rfl rfl rfl (Fp _ o h a.step _ ⟨_,rfl,mg⟩) ?_);rintro g6 _ lz ⟨cs,rfl,dH⟩;replace hs:=hs.call lz;have ah:=lz.le;obtain⟨aR,cU,df,bV⟩:=eS ah aR cU df bV;replace mg:=mg.mono ah;unfold Dq;generalize(jL o a.step).isSome=is at*;generalize(jL o a.step).getD lB=s at*;obtain⟨a7,n7,c7,a8,n8,c8,rfl,eh,ku⟩:=dH;clear aU bS cH lz;refine Wp 3 rfl ?_;refine ak rfl rfl (aK T.ok rfl hs rfl rfl ?_);clear hs;rintro b7 g1 hs ah;obtain⟨aR,cU,eh,ku,df,bV⟩:=lR ah aR cU eh ku df bV;replace mg:=mg.mono ah;refine ak rfl rfl (aK T.ok rfl hs rfl rfl ?_);clear hs;rintro b8 g1 hs ah;obtain⟨aR,cU,eh,ku,df,bV⟩:=lR ah aR cU eh ku df bV;replace mg:=mg.mono ah;refine bA rfl (az T.ok 1 rfl hs rfl rfl rfl rfl rfl rfl rfl rfl rfl ?_);replace hs:=hs;rintro g1 hs ah;obtain⟨aR,cU,eh,ku,df,bV⟩:=lR ah aR cU eh ku df bV;replace mg:=mg.mono ah;refine bA rfl (az T.ok 0 rfl hs rfl rfl rfl rfl rfl rfl rfl rfl rfl ?_);replace hs:=hs;rintro g1 hs ah;obtain⟨aR,cU,eh,ku,df,bV⟩:=lR ah aR cU eh ku df bV;replace mg:=mg.mono ah;obtain⟨g2,bL,aT,ah,aL⟩:=hs.ba (i:=0) rfl;replace hs:=aT;clear aT;rw[←bL];obtain⟨aR,cU,eh,ku,df,bV⟩:=lR ah aR cU eh ku df bV;have MA:=aL;clear aL;replace mg:=mg.mono ah;obtain⟨g2,bL,aT,ah,aL⟩:=hs.ba (i:=0) rfl;replace hs:=aT;clear aT;rw[←bL];obtain⟨aR,cU,eh,ku,df,MA⟩:=lR ah aR cU eh ku df MA;replace bV:=bV.mono ah;have Q1:=aL;clear aL;replace mg:=mg.mono ah;apply bW;refine cN 1 rfl ?_;refine ak rfl rfl (aQ T.ok rfl (vs:=[(0,.int .i64 1),(1,(.func (.func 185) #[] #[.pointer (some ⟨b5,0,none⟩)]))]) (cells:=[.int .i64 1,(.func (.func 185) #[] #[.pointer (some ⟨b5,0,none⟩)])]) rfl rfl rfl rfl [(0,1),(1,1)] rfl (by kernel_rfl) ?_);refine Wp 1 rfl ?_;refine ak rfl rfl (aQ T.ok rfl (vs:=[(0,.int .i64 2),(1,(.func (.func 186) #[] #[.pointer (some ⟨b5,0,none⟩),.pointer (some ⟨b4,0,none⟩)]))]) (cells:=[.int .i64 2,(.func (.func 186) #[] #[.pointer (some ⟨b5,0,none⟩),.pointer (some ⟨b4,0,none⟩)])]) rfl rfl rfl rfl [(0,1),(1,1)] rfl (by kernel_rfl) ?_);refine Wp 1 rfl ?_;refine ak rfl rfl (aQ T.ok rfl (vs:=[(0,.int .i64 4),(1,(.func (.func 188) #[] #[.pointer (some ⟨b8,0,none⟩),.pointer (some ⟨b7,0,none⟩),.pointer (some ⟨b4,0,none⟩)]))]) (cells:=[.int .i64 4,(.func (.func 188) #[] #[.pointer (some ⟨b8,0,none⟩),.pointer (some ⟨b7,0,none⟩),.pointer (some ⟨b4,0,none⟩)])]) rfl rfl rfl rfl [(0,1),(1,1)] rfl (by kernel_rfl) ?_);refine Wp 1 rfl ?_;refine ak rfl rfl (aQ T.ok rfl (vs:=[(0,.int .i64 8),(1,(.func (.func 189) #[] #[.pointer (some ⟨b8,0,none⟩),.pointer (some ⟨b7,0,none⟩),.pointer (some ⟨b4,0,none⟩)]))]) (cells:=[.int .i64 8,(.func (.func 189) #[] #[.pointer (some ⟨b8,0,none⟩),.pointer (some ⟨b7,0,none⟩),.pointer (some ⟨b4,0,none⟩)])]) rfl rfl rfl rfl [(0,1),(1,1)] rfl (by kernel_rfl) ?_);refine Wp 1 rfl ?_;refine ak rfl rfl (aQ T.ok rfl (vs:=[(0,.int .i64 16),(1,(.func (.func 190) #[] #[.pointer (some ⟨b3,0,none⟩),.pointer (some ⟨b4,0,none⟩)]))]) (cells:=[.int .i64 16,(.func (.func 190) #[] #[.pointer (some ⟨b3,0,none⟩),.pointer (some ⟨b4,0,none⟩)])]) rfl rfl rfl rfl [(0,1),(1,1)] rfl (by kernel_rfl) ?_);refine Wp 1 rfl ?_;refine ak rfl rfl (aQ T.ok rfl (vs:=[(0,.int .i64 32),(1,(.func (.func 192) #[] #[.pointer (some ⟨b3,0,none⟩),.pointer (some ⟨b4,0,none⟩)]))]) (cells:=[.int .i64 32,(.func (.func 192) #[] #[.pointer (some ⟨b3,0,none⟩),.pointer (some ⟨b4,0,none⟩)])]) rfl rfl rfl rfl [(0,1),(1,1)] rfl (by kernel_rfl) ?_);skip;refine ak rfl rfl (bD T.ok rfl hs (vs:=[(0,.agg #[.int .i64 1,(.func (.func 185) #[] #[.pointer (some ⟨b5,0,none⟩)])]),(1,.agg #[.int .i64 2,(.func (.func 186) #[] #[.pointer (some ⟨b5,0,none⟩),.pointer (some ⟨b4,0,none⟩)])]),(2,.agg #[.int .i64 4,(.func (.func 188) #[] #[.pointer (some ⟨b8,0,none⟩),.pointer (some ⟨b7,0,none⟩),.pointer (some ⟨b4,0,none⟩)])]),(3,.agg #[.int .i64 8,(.func (.func 189) #[] #[.pointer (some ⟨b8,0,none⟩),.pointer (some ⟨b7,0,none⟩),.pointer (some ⟨b4,0,none⟩)])]),(4,.agg #[.int .i64 16,(.func (.func 190) #[] #[.pointer (some ⟨b3,0,none⟩),.pointer (some ⟨b4,0,none⟩)])]),(5,.agg #[.int .i64 32,(.func (.func 192) #[] #[.pointer (some ⟨b3,0,none⟩),.pointer (some ⟨b4,0,none⟩)])])]) (cells:=[.int .i64 1,(.func (.func 185) #[] #[.pointer (some ⟨b5,0,none⟩)]),.int .i64 2,(.func (.func 186) #[] #[.pointer (some ⟨b5,0,none⟩),.pointer (some ⟨b4,0,none⟩)]),.int .i64 4,(.func (.func 188) #[] #[.pointer (some ⟨b8,0,none⟩),.pointer (some ⟨b7,0,none⟩),.pointer (some ⟨b4,0,none⟩)]),.int .i64 8,(.func (.func 189) #[] #[.pointer (some ⟨b8,0,none⟩),.pointer (some ⟨b7,0,none⟩),.pointer (some ⟨b4,0,none⟩)]),.int .i64 16,(.func (.func 190) #[] #[.pointer (some ⟨b3,0,none⟩),.pointer (some ⟨b4,0,none⟩)]),.int .i64 32,(.func (.func 192) #[] #[.pointer (some ⟨b3,0,none⟩),.pointer (some ⟨b4,0,none⟩)])]) rfl rfl rfl rfl rfl rfl (by decide) (by decide) (by kernel_rfl) rfl ?_);clear hs;rintro bl gl hs ah;obtain⟨aR,cU,eh,ku,df,MA⟩:=lR ah aR cU eh ku df MA;obtain⟨Q1,bV⟩:=cf ah Q1 bV;replace mg:=mg.mono ah;obtain⟨gz,iQ,cP,ah,Dt⟩:=hs.cK (α:=Q0) (xs:=[⟨1,(.func (.func 185) #[] #[.pointer (some ⟨b5,0,none⟩)]),(!o.isSome)⟩,⟨2,(.func (.func 186) #[] #[.pointer (some ⟨b5,0,none⟩),.pointer (some ⟨b4,0,none⟩)]),(o.isSome&& !(uk o h).contains a.step)⟩,⟨4,(.func (.func 188) #[] #[.pointer (some ⟨b8,0,none⟩),.pointer (some ⟨b7,0,none⟩),.pointer (some ⟨b4,0,none⟩)]),(is&& !s.dt.contains a.tool)⟩,⟨8,(.func (.func 189) #[] #[.pointer (some ⟨b8,0,none⟩),.pointer (some ⟨b7,0,none⟩),.pointer (some ⟨b4,0,none⟩)]),(is&&s.cE !=a.rcp)⟩,⟨16,(.func (.func 190) #[] #[.pointer (some ⟨b3,0,none⟩),.pointer (some ⟨b4,0,none⟩)]),(!b.nh.any (pd a.tool a.cham a.rcp a.rvn a.time))⟩,⟨32,(.func (.func 192) #[] #[.pointer (some ⟨b3,0,none⟩),.pointer (some ⟨b4,0,none⟩)]),(decide ((0:Int)<((mM b a).length:Nat)))⟩]) (i:=0) rfl (⟨[.int .i64 1,(.func (.func 185) #[] #[.pointer (some ⟨b5,0,none⟩)])],_,rfl,⟨rfl,rfl,fun g' h'=>cW (first:=#[]) (args:=[]) (captured:=#[.pointer (some ⟨b5,0,none⟩)]) NT rfl (Pg b5 _ o h g' (cU.mono h') (mg.mono h'))⟩,⟨[.int .i64 2,(.func (.func 186) #[] #[.pointer (some ⟨b5,0,none⟩),.pointer (some ⟨b4,0,none⟩)])],_,rfl,⟨rfl,rfl,fun g' h'=>cW (first:=#[]) (args:=[]) (captured:=#[.pointer (some ⟨b5,0,none⟩),.pointer (some ⟨b4,0,none⟩)]) NU rfl (Ph b5 b4 _ o h a g' (cU.mono h') (aR.mono h') (mg.mono h') hl ho)⟩,⟨[.int .i64 4,(.func (.func 188) #[] #[.pointer (some ⟨b8,0,none⟩),.pointer (some ⟨b7,0,none⟩),.pointer (some ⟨b4,0,none⟩)])],_,rfl,⟨rfl,rfl,fun g' h'=>cW (first:=#[]) (args:=[]) (captured:=#[.pointer (some ⟨b8,0,none⟩),.pointer (some ⟨b7,0,none⟩),.pointer (some ⟨b4,0,none⟩)]) NV rfl (Pj b8 b7 b4 is _ s a g' (MA.mono h') (Q1.mono h') (aR.mono h') ⟨a7,n7,c7,a8,n8,c8,rfl,eh.mono h',ku.mono h'⟩)⟩,⟨[.int .i64 8,(.func (.func 189) #[] #[.pointer (some ⟨b8,0,none⟩),.pointer (some ⟨b7,0,none⟩),.pointer (some ⟨b4,0,none⟩)])],_,rfl,⟨rfl,rfl,fun g' h'=>cW (first:=#[]) (args:=[]) (captured:=#[.pointer (some ⟨b8,0,none⟩),.pointer (some ⟨b7,0,none⟩),.pointer (some ⟨b4,0,none⟩)]) NW rfl (Pk b8 b7 b4 is _ s a g' (MA.mono h') (Q1.mono h') (aR.mono h') ⟨a7,n7,c7,a8,n8,c8,rfl,eh.mono h',ku.mono h'⟩)⟩,⟨[.int .i64 16,(.func (.func 190) #[] #[.pointer (some ⟨b3,0,none⟩),.pointer (some ⟨b4,0,none⟩)])],_,rfl,⟨rfl,rfl,fun g' h'=>cW (first:=#[]) (args:=[]) (captured:=#[.pointer (some ⟨b3,0,none⟩),.pointer (some ⟨b4,0,none⟩)]) NX rfl (Pm b3 b4 sl b a g' (df.mono h') (aR.mono h') (bV.mono h'))⟩,⟨[.int .i64 32,(.func (.func 192) #[] #[.pointer (some ⟨b3,0,none⟩),.pointer (some ⟨b4,0,none⟩)])],_,rfl,⟨rfl,rfl,fun g' h'=>cW (first:=#[]) (args:=[]) (captured:=#[.pointer (some ⟨b3,0,none⟩),.pointer (some ⟨b4,0,none⟩)]) NZ rfl (Pn b3 b4 sl b a g' (df.mono h') (aR.mono h') (bV.mono h') hb)⟩,rfl⟩⟩⟩⟩⟩⟩);rw[←iQ];clear hs;replace hs:=cP;clear cP;skip;refine ak rfl rfl (aK T.ok rfl hs rfl rfl ?_);clear hs;rintro b9 g1 hs ah;skip;replace Dt:=Dt.mono ah;refine bA rfl (az T.ok 0 rfl hs rfl rfl rfl rfl rfl rfl rfl rfl rfl ?_);replace hs:=hs;rintro g1 hs ah;skip;replace Dt:=Dt.mono ah;obtain⟨g2,bL,aT,ah,aL⟩:=hs.ba (i:=0) rfl;replace hs:=aT;clear aT;rw[←bL];skip;replace Dt:=Dt.mono ah;apply bW;refine aY rfl ?_;exact aI (aX rfl rfl (hs.ret ⟨b9,_,_,rfl,aL,Dt,KX _ _ _ _ _ _ _ _ _ _ _ _,rfl⟩))
end Go.Proofs.YtgehbndkogohpaaGreatDoor
namespace Go.Proofs.YtgehbndkogohpaaGreatDoor
open Go Go.K
set_option maxRecDepth 10000
attribute [local irreducible] W WL cD bc bK bd bg bh cq ck
set_option maxHeartbeats 1000000
def Du(l:List Int):Int:=l.foldl (fun s n=>IntKind.i64.wrap (s+n)) 0
def UK(o:Option bQ)(h:List bH):Fact:=⟨fun v g=>Hg g v o h,fun _ _ _ hf k=>k.mono hf.le⟩
def Wv(xs:List Int):Fact:=⟨fun v g=> ∃b9 sv l,v= .func (.func 193) #[] #[.pointer (some ⟨b9,0,none⟩)]∧EP g b9 0 [sv]∧Rs g sv l∧mO l=xs∧l.length=6,
 fun _ _ _ hf ⟨b9,sv,l,e,h1,h2,h3⟩=>⟨b9,sv,l,e,h1.mono hf.le,h2.mono hf.le,h3⟩⟩
def qG(b:gn)(a:jJ)(h:List bH):Int:=Du (Dr (Dq b a (ja b a.waf a.time) h))
structure KY(b:gn):Prop where
 size:Fc b
 text:UH b
theorem zy{s:List UInt8}{f:bQ}(h:kW s= .inl f):valid f=true:=by
 unfold kW at h;split at h
 ·split at h
  ·rename_i hv;cases h;exact hv
  cases h
 cases h
theorem zA{b:gn}{w time:Int}{f:bQ}(h:ja b w time=some f):valid f=true:=by
 unfold ja at h;split at h
 ·cases h
 split at h
 ·cases h
 split at h
 ·rename_i hp;split at h
  ·cases h;exact zy hp
  cases h
 cases h
theorem Bb{f:bQ}(h:valid f=true): ∀s∈f.steps,s.next.length≤4:=by intro s hs;unfold valid at h;simp only[Bool.and_eq_true,List.all_eq_true]at h;have:=h.1.2 s hs;unfold bT at this;simp only[Bool.and_eq_true,decide_eq_true_eq]at this;omega
theorem KY.Dv{b:gn}(_:KY b)(w time:Int):QZ (ja b w time):=fun f hf s hs=>Nat.le_trans (Bb (zA hf) s hs) (by decide)
theorem Bc(v u:Value)(b:gn)(a:jJ)(h:List bH)(g:G)(bV:mG g v b)(aH:Rs g u h)(hb:KY b)(hl:h.length≤1000000)(db:jv g):CallsIn Wd 0 Tryz.prog 29 #[v,HR a,u] g.w (cF g fun _ r=>r= .int .i64 (qG b a h)):=by
 have hs:=St.start g;have aq:=G.le.refl g;obtain⟨sl,rfl,kx⟩:=bV;have bV:mG g (.agg ((List.range 11).map sl).toArray) b:=⟨sl,rfl,kx⟩
 refine pL Tryz.func29 rfl Tryz.ntmps29 rfl ?_;apply cM;refine ak rfl rfl (aO rfl hs rfl rfl ?_);clear hs;rintro b3 g1 hs ah;obtain⟨aq,aH,bV,db⟩:=eS ah aq aH bV db;obtain⟨g2,bL,aT,ah,aL⟩:=hs.ba (i:=0) rfl;replace hs:=aT;clear aT;rw[←bL];obtain⟨aq,aH,bV,db⟩:=eS ah aq aH bV db;have aC:=aL;clear aL;skip;refine ak rfl rfl (aO rfl hs rfl rfl ?_);clear hs;rintro b4 g1 hs ah;obtain⟨aq,aC,aH,bV,db⟩:=kO ah aq aC aH bV db;obtain⟨g2,bL,aT,ah,aL⟩:=hs.ba (i:=0) rfl;replace hs:=aT;clear aT;rw[←bL];obtain⟨aq,aC,aH,bV,db⟩:=kO ah aq aC aH bV db;have aR:=aL;clear aL;refine bj rfl ?_;apply cM;refine ak rfl rfl (aK T.ok rfl hs rfl rfl ?_);clear hs;rintro b7 g1 hs ah;obtain⟨aq,aC,aR,aH,bV,db⟩:=lR ah aq aC aR aH bV db;refine bA rfl (az T.ok 0 rfl hs rfl rfl rfl rfl rfl rfl rfl rfl rfl ?_);replace hs:=hs;rintro g1 hs ah;obtain⟨aq,aC,aR,aH,bV,db⟩:=lR ah aq aC aR aH bV db;replace hs:St g _ [.obj b7 (.cells #[.int .i64 0] 3 (0,0))]:=hs;apply bW;apply aD;apply aD;apply ea (eO (.f (UK (ja b a.waf a.time) h):: .f (Wv (Dr (Dq b a (ja b a.waf a.time) h)))::[])) 10 [(9,18)] (by kernel_rfl)
 ·refine Dm [[],[],[],[],[3],[],[5],[]] [.z aC,.z aR,.z aC,.z aR,.z aR] hs (by kernel_rfl) rfl ?_;refine ay (an (js:=[(2,11),(4,13),(6,15),(7,16)]) (by kernel_rfl) fun gd hf=>ai rfl (ai rfl (ai rfl (ai rfl (aj (aB rfl (au MX aJ rfl rfl rfl rfl rfl (Co _ _ b a.waf a.time h gd (bV.mono ((G.bu _).trans hf.le)) (aH.mono ((G.bu _).trans hf.le)) hb.text (db.mono ((G.bu _).trans hf.le))) fun g' v h1 h2=>⟨g',rfl,h1,h2⟩))))))) ?_;refine ay (an (js:=[(0,9),(1,10),(8,17),(8,17)]) (by kernel_rfl) fun gd hf=>ai rfl (ai rfl (aZ fun _ _=>aZ fun v8 h8=>aj (aB rfl (au Sk aJ rfl rfl rfl rfl rfl (Ds _ v8 b a _ h gd (bV.mono ((G.bu _).trans hf.le)) h8 hb.size hl (hb.Dv _ _)) fun g' v h1 h2=>⟨g',rfl,h1,h2⟩))))) ?_;exact fD
 intro g1 aP;refine aZ fun v9 h9=>aj ?_;replace hs:=hs.dr.call aP;have ah:=(G.bu _).trans aP.le;replace aq:=G.le.trans aq ah;unfold qG;generalize Dr (Dq b a (ja b a.waf a.time) h)=xs at*;obtain⟨b9,sv,l,rfl,Ww,Wx,jf,YX⟩:=h9;apply bW;apply aG;refine uh (N:=24) hs rfl N0 (Po b9 sv l g1 Ww Wx).UG rfl (fun _=>rfl)
  (fun pre L g'=>L=[.obj b7 (.cells #[.int .i64 (Du pre)] 3 (0,0))]∧G.le g g') (fun _ _ _ _=>False) (fun _ _ _ _ hle h=>⟨h.1,h.2.trans hle⟩) (fun _ _ _ _ _ _ h=>h) ⟨rfl,aq⟩
  (fun pre x L la g'=>la=[(7,.pointer (some ⟨b7,0,none⟩)),(8,.int .i64 x)]∧L=[.obj b7 (.cells #[.int .i64 (Du pre)] 3 (0,0))]∧G.le g g') (fun _ _ _ _ _ _ hle h=>⟨h.1,h.2.1,h.2.2.trans hle⟩) ?_ ?_ ?_ ?_
 ·rintro lp D ro pre x gr Lr M jf hle hs hI;apply aA;refine Wp 1 rfl ?_;apply aE;exact fun a ha=>⟨gr,Lr,_,rfl,G.le.refl _,hs,⟨rfl,hI⟩,ha.keep (by(repeat (first|exact trivial|refine⟨rfl,?_⟩)))⟩
 ·rintro lp D ro pre x gr Lr la M jf hle hs ⟨rfl,rfl,aq⟩;have cC:=G.le.refl gr;apply aG;apply aA;refine Wm 3 [.o 2] hs rfl ?_;refine bA rfl (az T.ok 2 rfl hs rfl rfl rfl rfl rfl rfl rfl rfl rfl ?_);replace hs:=hs;rintro g1 hs ah;obtain⟨aq,cC⟩:=cf ah aq cC;apply aE;apply bR;exact fun a ha=>⟨_,_,rfl,hs,cC,[.obj b7 (.cells #[.int .i64 (Du (pre++[x]))] 3 (0,0))],by unfold Du;rw[List.foldl_append];rfl,rfl,aq⟩
 ·rintro lp D o ys Lr ge rfl hle hs ⟨rfl,aq⟩;rw[jf]at hs;apply bR;apply ar;refine l_ [.o 2] hs rfl ?_;refine aI ?_;skip;exact Fg 1 rfl hs rfl rfl (fun g' jo fw=>jo.ret rfl)
 rintro c lp D o pre Lr ge _ _ _ h;exact h.elim
theorem uq{b:gn}(hb:Fc b)(w time:Int):(lS b w time).length≤1000000:=Nat.le_trans (List.length_filter_le ..) (rQ hb w)
def KZ(b:gn)(a:jJ):Int:=qG b a (lS b a.waf a.time)
theorem JW(v:Value)(b:gn)(a:jJ)(g:G)(bV:mG g v b)(hb:KY b)(db:jv g):CallsIn Wd 0 Tryz.prog 11 #[v,HR a] g.w (cF g fun _ r=>r= .int .i64 (KZ b a)):=by
 have hs:=St.start g;have aq:=G.le.refl g;obtain⟨sl,rfl,kx⟩:=bV;have bV:mG g (.agg ((List.range 11).map sl).toArray) b:=⟨sl,rfl,kx⟩
 refine enter Tryz.func11 rfl Tryz.ntmps11 rfl ?_;apply cM;refine ak rfl rfl (aO rfl hs rfl rfl ?_);clear hs;rintro b2 g1 hs ah;obtain⟨bV,db⟩:=cf ah bV db;obtain⟨g2,bL,aT,ah,aL⟩:=hs.ba (i:=0) rfl;replace hs:=aT;clear aT;rw[←bL];obtain⟨bV,db⟩:=cf ah bV db;have aC:=aL;clear aL;skip;refine ak rfl rfl (aO rfl hs rfl rfl ?_);clear hs;rintro b3 g1 hs ah;obtain⟨aC,bV,db⟩:=dy ah aC bV db;obtain⟨g2,bL,aT,ah,aL⟩:=hs.ba (i:=0) rfl;replace hs:=aT;clear aT;rw[←bL];obtain⟨aC,bV,db⟩:=dy ah aC bV db;have aR:=aL;clear aL;refine bj rfl ?_;apply aD;apply bP hs (iY (eQ (fe (.f (Fact.rs (lS b a.waf a.time))::fe [])))) 9 [(8,13)] (by kernel_rfl) rfl
 ·refine Dm [[],[],[],[],[3],[],[5]] [.z aC,.z aR,.z aC,.z aR,.z aR] hs (by kernel_rfl) rfl ?_;refine ay (an (js:=[(2,7),(4,9),(6,11)]) (by kernel_rfl) fun gd hf=>ai rfl (ai rfl (ai rfl (aj (aB rfl (au MU aJ rfl rfl rfl rfl rfl (Cn _ b a.waf a.time gd (bV.mono ((G.bu _).trans hf.le)) hb.size) fun g' v h1 h2=>⟨g',rfl,h1,h2⟩)))))) ?_;refine ay (an (js:=[(0,5),(1,6),(7,12),(7,12)]) (by kernel_rfl) fun gd hf=>ai rfl (ai rfl (aZ fun _ _=>aZ fun v8 h8=>aj (aB rfl (au Ku aJ rfl rfl rfl rfl rfl (Bc _ v8 b a _ gd (bV.mono ((G.bu _).trans hf.le)) h8 hb (uq hb.size _ _) (db.mono ((G.bu _).trans hf.le))) fun g' v h1 h2=>⟨g',rfl,h1,h2⟩))))) ?_;exact fD
 clear hs;intro g6 hs ah;refine bj rfl ?_;exact aI (aX rfl rfl (hs.ret rfl))
def wG(b:gn)(w time:Int):List Int:=uk (ja b w time) (lS b w time)
theorem Cr(v:Value)(b:gn)(w time:Int)(g:G)(bV:mG g v b)(hb:KY b)(db:jv g):CallsIn Wd 0 Tryz.prog 14 #[v,.int .i64 w,.int .i64 time] g.w (cF g fun g' r=>Rs g' r (wG b w time)):=by
 have hs:=St.start g;have aq:=G.le.refl g;obtain⟨sl,rfl,kx⟩:=bV;have bV:mG g (.agg ((List.range 11).map sl).toArray) b:=⟨sl,rfl,kx⟩
 refine enter Tryz.func14 rfl Tryz.ntmps14 rfl ?_;apply cM;refine ak rfl rfl (aO rfl hs rfl rfl ?_);clear hs;rintro b2 g1 hs ah;obtain⟨bV,db⟩:=cf ah bV db;obtain⟨g2,bL,aT,ah,aL⟩:=hs.ba (i:=0) rfl;replace hs:=aT;clear aT;rw[←bL];obtain⟨bV,db⟩:=cf ah bV db;have aC:=aL;clear aL;refine bj rfl ?_;apply aD;refine pP (l':=[(1,.int .i64 w),(2,.int .i64 time),(3,.pointer (some ⟨b2,0,none⟩))]) (by(repeat (first|exact trivial|refine⟨rfl,?_⟩))) ?_;apply ea (iY (eQ (.f (Fact.rs (lS b w time)):: .f (UK (ja b w time) (lS b w time)):: .f (Fact.rs (wG b w time))::[]))) 9 [(8,15)] (by kernel_rfl)
 ·refine Dm [[],[],[],[],[],[]] [.z aC,.z aC] hs (by kernel_rfl) rfl ?_;refine ay (an (js:=[(3,10),(4,11),(5,12)]) (by kernel_rfl) fun gd hf=>ai rfl (ai rfl (ai rfl (aj (aB rfl (au MU aJ rfl rfl rfl rfl rfl (Cn _ b w time gd (bV.mono ((G.bu _).trans hf.le)) hb.size) fun g' v h1 h2=>⟨g',rfl,h1,h2⟩)))))) ?_;refine ay (an (js:=[(0,7),(1,8),(2,9),(6,13),(6,13)]) (by kernel_rfl) fun gd hf=>ai rfl (ai rfl (ai rfl (aZ fun _ _=>aZ fun v6 h6=>aj (aB rfl (au MX aJ rfl rfl rfl rfl rfl (Co _ v6 b w time _ gd (bV.mono ((G.bu _).trans hf.le)) h6 hb.text (db.mono ((G.bu _).trans hf.le))) fun g' v h1 h2=>⟨g',rfl,h1,h2⟩)))))) ?_;refine ay (an (js:=[(7,14),(7,14)]) (by kernel_rfl) fun gd hf=>aZ fun _ _=>aZ fun v7 h7=>aj (aB rfl (au MY aJ rfl rfl rfl rfl rfl (Fu v7 _ _ gd h7 (uq hb.size _ _) (hb.Dv _ _)) fun g' v h1 h2=>⟨g',rfl,h1,h2⟩))) ?_;exact fD
 intro g1 aP;refine aZ fun v9 h9=>aj ?_;replace hs:=hs.dr.call aP;have ah:=(G.bu _).trans aP.le;refine bj rfl ?_;exact aI (aX rfl rfl (hs.ret h9))
end Go.Proofs.YtgehbndkogohpaaGreatDoor
namespace Go.K
open Go Go.RowKit
variable {F:Fence} {P:Program} {N:Nat} {ds:List Deferred} {l l':Env} {a:Act} {w:World} {Q:Exit→Act→World→Prop} {ops:Array Oper} {os:List Oper} {o:Oper}
variable {g0 g:G} {L L':List cS} {K:Value→World→Prop} {R:Ending→World→Prop}
theorem sI{α:Type}[El α]{tb:Tb}(dq:tb.ok P){t e:Nat}{ti ei:TI}{s x:Operand}{ad U7:Option Addr}{n m c2:Nat}{xs ys:List α}
  (ho:o.op= .call {callee:=.builtin .append,args:=#[s,x],argTypes:=#[t,t]}) (hv:ev l s=some (.slice ad n n)) (hx:ev l x=some (.slice U7 m c2)) (h1:Rs g (.slice ad n n) xs) (h2:Rs g (.slice U7 m c2) ys)
  (hn:n≠0) (hm:m≠0) (hi:tl tb t=some ti) (hd:ti.desc= .slice e) (hj:tl tb e=some ei) (hk:ei.size=El.k α) (hz:ei.zero.cells.size=El.k α) (hb:(n+m)*ei.bytes≤140737488355328) (Ca:n+m≤maxLen)
  (kk: ∀v g',a_ g g'→Rs g' v (xs++ys)→K v g'.w):cD F P N ds o l g.w Q K:=by
 obtain⟨⟨dd,Ho,he⟩,_⟩:=dq.at hi;rw[hd]at he;obtain rfl:=KD.of_slice he;obtain⟨_,inf,e1,e2,e3,e4⟩:=dq.at hj;obtain⟨lO,Qj,sF,nz⟩:=Src.lq h1;obtain⟨A3,news,zK,aT⟩:=Src.lq h2;obtain⟨b1,p1,rfl,Fz⟩:=nz.2.resolve_left hn;obtain⟨b2,p2,rfl,vr⟩:=aT.2.resolve_left hm;obtain⟨v',w',iU,dT,hg⟩:=run_append_arg_grows (P:=P) g.w t o.type e inf ei.zero (El.k α) ei.bytes Ho e1 e4 (by rw[e2,hk]) e3 hz (El.pos (α:=α)) ⟨b1,p1,none⟩ n n Qj nz.1
  (fun j u hu=>by rw[Addr.add_lit];exact Fz j u hu) ⟨b2,p2,none⟩ m c2 news aT.1 (fun j u hu=>by rw[Addr.add_lit];exact vr j u hu) (by omega) Ca hb
 have hf:=DU (g:=g) hg;have hlen:n+m=(xs++ys).length:=by rw[List.length_append,←lO,←A3]
 have hO:km e g (xs++ys) (⟨w',g.im,fun b h=>Nat.lt_of_lt_of_le (g.lt b h) hg.size⟩:G) v':=by
  refine⟨Qj++news,⟨?_,fun b hb hi=>?_⟩,cG.app (zK.mono hf.le) (sF.mono hf.le)⟩
  ·rw[←hlen];exact Row.r8 dT
  have:=IG dT b hb;have:=g.lt b hi;omega
 obtain⟨g2,bL,Bz,tg,rM⟩:=(St.start g).nU hf hO;refine eZ ho (w':=w') (fun a ha=>?_) (by have h:=kk v' g2 Bz.nC rM;rw[bL]at h;exact h);simp[resolve,invoke,builtin,ha.ev hv,ha.ev hx,iU]
end Go.K
namespace Go.K
open Go Go.RowKit
variable {F:Fence} {P:Program} {N:Nat} {ds:List Deferred} {l l':Env} {a:Act} {w:World} {Q:Exit→Act→World→Prop} {ops:Array Oper} {os:List Oper} {o:Oper}
variable {g0 g:G} {L L':List cS} {K:Value→World→Prop} {R:Ending→World→Prop}
theorem yK{α:Type}[El α]{tb:Tb}(dq:tb.ok P){t e:Nat}{ti ei:TI}{s x:Operand}{ad U7:Option Addr}{n m c2:Nat}{xs ys:List α}
  (ho:o.op= .call {callee:=.builtin .append,args:=#[s,x],argTypes:=#[t,t]}) (hv:ev l s=some (.slice ad n n)) (hx:ev l x=some (.slice U7 m c2)) (h1:Rs g (.slice ad n n) xs) (h2:Rs g (.slice U7 m c2) ys)
  (hc: ∀news,cG g news ys→ ∀u∈news,u.oneCell'=true) (hi:tl tb t=some ti) (hd:ti.desc= .slice e) (hj:tl tb e=some ei) (hk:ei.size=El.k α) (hz:ei.zero.cells.size=El.k α) (hb:(n+m)*ei.bytes≤140737488355328) (Ca:n+m≤maxLen)
  (kk: ∀v g',a_ g g'→Rs g' v (xs++ys)→K v g'.w):cD F P N ds o l g.w Q K:=by
 obtain⟨lO,Qj,sF,nz⟩:=Src.lq h1;obtain⟨A3,news,zK,aT⟩:=Src.lq h2;by_cases hn:n=0
 ·subst hn;obtain rfl:xs=[]:=List.eq_nil_of_length_eq_zero lO.symm;refine cd dq 0 ho ((St.start g).iN e (El.k α) ad) rfl hv hx hi hd hj hk (El.pos (α:=α)) hz aT (hc news zK) hb Ca fun a' c' g' hs hle=>?_;obtain⟨g2,bL,Bz,_,rM⟩:=hs.cK (i:=0) rfl (xs:=ys) (by simpa using zK.mono hle);have h:=kk _ g2 Bz.nC rM;rw[bL]at h;exact h
 by_cases hm:m=0
 ·subst hm;obtain rfl:ys=[]:=List.eq_nil_of_length_eq_zero A3.symm;obtain⟨b1,p1,rfl,Fz⟩:=nz.2.resolve_left hn;obtain⟨⟨dd,Ho,he⟩,_⟩:=dq.at hi;rw[hd]at he;obtain rfl:=KD.of_slice he;obtain⟨_,inf,e1,e2,e3,e4⟩:=dq.at hj;have Ri:(Builtin.firstCells inf.size 0 (.slice U7 0 c2)).run P g.w= .ok #[] g.w:=by cases U7<;>simp[Builtin.firstCells,loadCells,loadCellsFrom]
  refine eZ ho (w':=g.w) (v:=.slice (some ⟨b1,p1,none⟩) n n) (fun a ha=>?_) (kk _ g (a_.refl g) (by rw[List.append_nil];exact h1));simp[resolve,invoke,builtin,ha.ev hv,ha.ev hx,Builtin.append_,run_underlying Ho,sizeOf,typeInfo,e1,Builtin.lenOf,Ri,storeCells]
 exact sI dq ho hv hx h1 h2 hn hm hi hd hj hk hz hb Ca kk
end Go.K
namespace Go.Proofs.YtgehbndkogohpaaGreatDoor
open Go Go.K
set_option maxRecDepth 10000
attribute [local irreducible] W WL cD bc bK bd bg bh cq ck
set_option maxHeartbeats 1000000
def putAt(l:List Int)(n:Int):Nat:=(l.takeWhile fun x=>decide (x<n)).length
def S2(l:List Int)(n:Int):List Int:=if l[putAt l n]? =some n then l else l.take (putAt l n)++n::l.drop (putAt l n)
end Go.Proofs.YtgehbndkogohpaaGreatDoor
namespace Go.Proofs.YtgehbndkogohpaaGreatDoor
open Go Go.K
set_option maxRecDepth 10000
attribute [local irreducible] W WL cD bc bK bd bg bh cq ck
set_option maxHeartbeats 1000000
def K4(f:bQ)(h:List bH):List Int:=
 match h.getLast? with
 |none=>[0]
 |some x=>match dS f.steps x.step with
  |none=>[]
  |some s=>if decide (0≤s.back)&&decide (Fs (some f) h x.step<s.dI)then S2 s.next s.back else s.next
def WC(f:bQ):Prop:=∀s∈f.steps,s.next.length≤100000
end Go.Proofs.YtgehbndkogohpaaGreatDoor
namespace Go.Proofs.YtgehbndkogohpaaGreatDoor
open Go Go.K
set_option maxRecDepth 10000
attribute [local irreducible] W WL cD bc bK bd bg bh cq ck
set_option maxHeartbeats 1000000
def JY(s:Step)(tool idn waf step time:Int):bH:=⟨1,idn,1,0,false,time,IntKind.i64.wrap (time+s.min),waf,0,0,0,tool,0,step,s.cE,1,0,0,[]⟩
end Go.Proofs.YtgehbndkogohpaaGreatDoor
namespace Go.Proofs.YtgehbndkogohpaaGreatDoor
open Go
theorem yy: ∀(k n:Nat),n<10^(k+1)→(dec n).length≤k+1
 |0,n,h=>by rw[ic (by omega)];simp
 |k+1,n,h=>by
  by_cases h1:n<10
  ·rw[ic h1];simp
  rw[nd h1,List.length_append];have:=yy k (n/10) (by rw[Nat.pow_succ]at h;omega);simp only[List.length_cons,List.length_nil];omega
theorem dF{n:Int}(h:kK n):(cz n).length≤7:=yy 6 n.toNat (by have:=h.1;have:=h.2;simp;omega)
theorem u7{a b:Int}(h1:kK a)(h2:kK b):(iV a b).length≤16:=by have:=dF h1;have:=dF h2;unfold iV;simp only[List.length_append,List.length_cons];omega
theorem p_{c:UInt8}{k:Nat}: ∀{l:List (List UInt8)},(∀x∈l,x.length≤k)→(dP c l).length≤l.length*(k+1)
 |[],_=>Nat.zero_le _
 |[x],h=>by have:=h x (by simp);simp only[dP,List.length_cons,List.length_nil];omega
 |x::y::r,h=>by have h1:=h x (by simp);have h2:=p_ (c:=c) (l:=y::r) fun z hz=>h z (List.mem_cons_of_mem _ hz);rw[show dP c (x::y::r)=x++c::dP c (y::r)from rfl,List.length_append,List.length_cons];simp only[List.length_cons,Nat.add_mul,Nat.one_mul]at h2⊢;omega
theorem oZ{l:List Int}(h: ∀n∈l,kK n):(fq l).length≤l.length*8+1:=by
 unfold fq;split
 ·simp
 have:=p_ (c:=44) (l:=l.map cz) (k:=7) fun x hx=>by obtain⟨n,hn,rfl⟩:=List.mem_map.1 hx;exact dF (h n hn)
 rw[List.length_map]at this;omega
def fZ:List UInt8:=[115,116,101,112,32]
def dO:List UInt8:=[32,114,101,99,105,112,101,32]
def fM:List UInt8:=[32,116,111,111,108,115,32]
def ke:List UInt8:=[32,116,105,109,101,32]
def rf:List UInt8:=[32,110,101,120,116,32]
def ox:List UInt8:=[32,98,97,99,107,32]
def qb:List UInt8:=[32,108,105,109,105,116,32]
def ik:List UInt8:=[119,105,110,100,111,119,32]
def nk:List UInt8:=[109,111,118,101,32]
def u9(i:Nat)(s:Step):List UInt8:=fZ++dec i++dO++cz s.cE++fM++fq s.dt++ke++iV s.min s.max++rf++fq s.next
def Ah(s:Step):List UInt8:=if 0≤s.back then ox++cz s.back++qb++cz s.dI else []
theorem oy(i:Nat)(s:Step):ed i s=u9 i s++Ah s:=by
 unfold ed ow u9 Ah;by_cases h:0≤s.back
 ·rw[if_pos h,if_pos h];simp[dP,kA,jB,k9,oq,ot,ou,k_,fZ,dO,fM,ke,rf,ox,qb]
 rw[if_neg h,if_neg h];simp[dP,kA,jB,k9,oq,ot,fZ,dO,fM,ke,rf]
theorem iK(w:bZ):dE w=ik++cz w.src++[32]++cz w.dst++[32]++cz w.dI:=by unfold dE oX;simp[dP,ij,ik]
theorem lG(a b:Int):gY a b=nk++iV a b:=by unfold gY w7;simp[dP,ov,nk]
def f_:Nat→List Step→List UInt8
 |_,[]=>[]
 |k,s::r=>ed k s++10::f_ (k+1) r
def kg:List bZ→List UInt8
 |[]=>[]
 |w::r=>dE w++10::kg r
def gI(f:bQ):List UInt8:=gY f.bB f.bU++10::(f_ 0 f.steps++kg f.windows)
theorem GA{lo hi:Int}: ∀{l:List Int} {p:Int},iF lo hi p l=true→ ∀n∈l,lo≤n∧n≤hi
 |[],_,_,_,hn=>by cases hn
 |m::r,p,h,n,hn=>by
  unfold iF within at h;simp only[Bool.and_eq_true,decide_eq_true_eq]at h;rcases List.mem_cons.1 hn with rfl|hn
  ·exact h.1.1
  exact GA h.2 n hn
theorem rh{lo hi:Int}{l:List Int}(h:ascending l lo hi=true): ∀n∈l,lo≤n∧n≤hi:=by
 cases l with
 |nil=>intro n hn;cases hn
 |cons m r=>
  unfold ascending within at h;simp only[Bool.and_eq_true,decide_eq_true_eq]at h;intro n hn;rcases List.mem_cons.1 hn with rfl|hn
  ·exact h.1
  exact GA h.2 n hn
structure xe(s:Step):Prop where
 n:Kg s
 dt:s.dt.length≤8
 next:s.next.length≤4
theorem sP{s:Step}{n:Int}(hn:n≤1000000)(h:bT s n=true):xe s:=by
 unfold bT within at h;simp only[Bool.and_eq_true,Bool.or_eq_true,decide_eq_true_eq,beq_iff_eq]at h;obtain⟨⟨⟨⟨⟨⟨⟨h1,h2,h3⟩,h4⟩,h5⟩,h6⟩,h7⟩,h8⟩,h9⟩:=h;have ht:=rh h5;have hx:=rh h6;refine⟨⟨⟨by omega,by omega⟩,fun e=>?_,fun n hn=>?_,⟨by omega,by omega⟩,⟨by omega,by omega⟩,fun n hn=>?_,?_⟩,by omega,by omega⟩
 ·rw[e]at h2;simp at h2
 ·have:=ht n hn;exact⟨by omega,by omega⟩
 ·have:=hx n hn;exact⟨by omega,by omega⟩
 rcases h1 with h|⟨h,h'⟩
 ·exact .inl h
 exact .inr ⟨⟨by omega,by omega⟩,⟨by omega,by omega⟩⟩
theorem pB{w:bZ}{n:Int}(hn:n≤1000000)(h:de w n=true):kK w.src∧kK w.dst∧kK w.dI:=by unfold de within at h;simp only[Bool.and_eq_true,decide_eq_true_eq]at h;obtain⟨⟨⟨h1,h2⟩,_⟩,h3⟩:=h;exact⟨⟨by omega,by omega⟩,⟨by omega,by omega⟩,⟨by omega,by omega⟩⟩
theorem nf{f:bQ}(h:dA f=true):kK f.bB∧kK f.bU:=by unfold dA at h;simp only[Bool.and_eq_true,decide_eq_true_eq]at h;exact⟨⟨by omega,by omega⟩,⟨by omega,by omega⟩⟩
theorem u_{n:Int}: ∀{l pre:List bZ},dB n pre l=true→ ∀w∈l,de w n=true
 |[],_,_,_,hw=>by cases hw
 |v::r,pre,h,w,hw=>by
  unfold dB at h;simp only[Bool.and_eq_true]at h;rcases List.mem_cons.1 hw with rfl|hw
  ·exact h.1.1
  exact u_ h.2 w hw
structure Qx(f:bQ):Prop where
 min:kK f.bB
 max:kK f.bU
 n1:1≤f.steps.length
 n40:f.steps.length≤40
 steps: ∀s∈f.steps,xe s
 XT:f.windows.length≤20
 IV: ∀w∈f.windows,kK w.src∧kK w.dst∧kK w.dI
theorem CX{f:bQ}(h:valid f=true):Qx f:=by unfold valid within at h;simp only[Bool.and_eq_true,decide_eq_true_eq,List.all_eq_true]at h;obtain⟨⟨⟨⟨h1,h2,h3⟩,h4⟩,h5⟩,h6⟩:=h;exact⟨(nf h1).1,(nf h1).2,by omega,by omega,fun s hs=>sP (by omega) (h5 s hs),by omega,fun w hw=>pB (by omega) (u_ h6 w hw)⟩
theorem sf{i:Nat}{s:Step}(hi:i≤1000000)(h:xe s):(u9 i s).length≤160:=by have h1:=yy 6 i (by simp;omega);have h2:=dF h.n.cE;have h3:=oZ h.n.u6;have h4:=oZ h.n.next;have h5:=u7 h.n.min h.n.max;have:=h.dt;have:=h.next;unfold u9 fZ dO fM ke rf;simp only[List.length_append,List.length_cons,List.length_nil];omega
theorem xf{s:Step}(h:xe s):(Ah s).length≤27:=by
 unfold Ah;split
 ·rename_i hb;rcases h.n.back with⟨e,_⟩|⟨h1,h2⟩
  ·omega
  have:=dF h1;have:=dF h2;unfold ox qb;simp only[List.length_append,List.length_cons,List.length_nil];omega
 simp
theorem oz{w:bZ}(h:kK w.src∧kK w.dst∧kK w.dI):(dE w).length≤30:=by have:=dF h.1;have:=dF h.2.1;have:=dF h.2.2;rw[iK];unfold ik;simp only[List.length_append,List.length_cons,List.length_nil];omega
theorem yz{a b:Int}(h1:kK a)(h2:kK b):(gY a b).length≤21:=by have:=u7 h1 h2;rw[lG];unfold nk;simp only[List.length_append,List.length_cons,List.length_nil];omega
theorem va: ∀{l:List Step} {k:Nat},k+l.length≤1000000→(∀s∈l,xe s)→(f_ k l).length≤l.length*188
 |[],_,_,_=>Nat.zero_le _
 |s::r,k,hk,h=>by rw[List.length_cons]at hk;have h1:=sf (i:=k) (by omega) (h s (by simp));have h2:=xf (h s (by simp));have h3:=va (l:=r) (k:=k+1) (by omega) fun s hs=>h s (List.mem_cons_of_mem _ hs);unfold f_;rw[oy];simp only[List.length_append,List.length_cons];omega
theorem xg: ∀{l:List bZ},(∀w∈l,kK w.src∧kK w.dst∧kK w.dI)→(kg l).length≤l.length*31
 |[],_=>Nat.zero_le _
 |w::r,h=>by have h1:=oz (h w (by simp));have h3:=xg (l:=r) fun s hs=>h s (List.mem_cons_of_mem _ hs);unfold kg;simp only[List.length_append,List.length_cons];omega
theorem rA{f:bQ}(h:Qx f):(gI f).length≤8192:=by have h1:=yz h.min h.max;have h2:=va (k:=0) (by have:=h.n40;omega) h.steps;have h3:=xg h.IV;have:=h.n40;have:=h.XT;unfold gI;simp only[List.length_append,List.length_cons];omega
def aS(c n:Int):Int:=(if c<0 then -(c+1)else c).tmod n
theorem b_{c n:Int}(hn:0<n):0≤aS c n∧aS c n<n:=by
 unfold aS;have h:0≤(if c<0 then -(c+1)else c):=by split<;>omega
 exact⟨Int.tmod_nonneg _ h,Int.tmod_lt_of_pos _ hn⟩
theorem lb{c n:Int}(h:qN c)(hn:0<n):qN (c.tdiv n):=by
 unfold qN at h⊢;rcases Int.lt_or_le c 0 with h0|h0
 ·have h1:0≤(-c).tdiv n:=Int.tdiv_nonneg (by omega) (by omega);have h2:(-c).tdiv n≤ -c:=Int.tdiv_le_self _ (by omega);rw[Int.neg_tdiv]at h1 h2;omega
 have h1:0≤c.tdiv n:=Int.tdiv_nonneg h0 (by omega);have h2:c.tdiv n≤c:=Int.tdiv_le_self _ h0;omega
structure Y6 where
 y0:Int
 y1:Int
 y2:Int
 y3:Int
 y4:Int
 y5:Int
structure Y6.fit(y:Y6):Prop where
 h0:qN y.y0
 h1:qN y.y1
 h2:qN y.y2
 h3:qN y.y3
 h4:qN y.y4
 h5:qN y.y5
structure Y3 where
 z0:Int
 z1:Int
 z2:Int
structure Y3.fit(z:Y3):Prop where
 h0:qN z.z0
 h1:qN z.z1
 h2:qN z.z2
def zF:Y6:=⟨0,0,0,0,0,0⟩
def eV(y:Y6):List Int:=aS y.y2 6::if aS (y.y2.tdiv 6) 2=0 then [aS y.y2 6+1+aS (y.y2.tdiv 12) 3]else []
def fX(y:Y6)(n i:Nat):List Int:=
 if(i:Int)<n-1∧0<aS y.y3 12 then
  ((i:Int)+1)::if(i:Int)+2+aS (y.y3.tdiv 12) 3<n∧aS (y.y3.tdiv 36) 3=0 then [(i:Int)+2+aS (y.y3.tdiv 12) 3]else []
 else []
def mP(y:Y6)(n i:Nat):Step:=
 ⟨1+aS y.y0 5,eV y,1+aS y.y1 30,1+aS y.y1 30+aS (y.y1.tdiv 30) 20,fX y n i,if aS y.y4 4=0 then aS (y.y4.tdiv 4) (i+1)else -1,if aS y.y4 4=0 then 1+aS y.y5 3 else 0⟩
def eM(x:List Y6):Nat:=max 1 (min x.length 8)
def jT(x:List Y6)(k:Nat):List Step:=(List.range k).map fun i=>mP (x.getD i zF) (eM x) i
def sQ(n:Nat)(z:Y3):bZ:=⟨aS z.z0 n,aS z.z1 n,10+aS z.z2 150⟩
def sg(n:Nat)(l:List bZ)(z:Y3):List bZ:=if(sQ n z).src≠(sQ n z).dst∧follows l (sQ n z)=true then l++[sQ n z]else l
def gg(n:Nat)(zs:List Y3)(k:Nat):List bZ:=(zs.take k).foldl (sg n) []
def mk(x:List Y6)(zs:List Y3):bQ:=⟨2,5,jT x (eM x),gg (eM x) zs (min zs.length 4)⟩
end Go.Proofs.YtgehbndkogohpaaGreatDoor
namespace Go.Proofs.YtgehbndkogohpaaGreatDoor
open Go Go.K
set_option maxRecDepth 10000
attribute [local irreducible] W WL cD bc bK bd bg bh cq ck
set_option maxHeartbeats 4000000
theorem tI(c n:Int)(g:G)(hc:qN c)(hn:n≠0):CallsIn Wd 0 Tryz.prog 8 #[.int .i64 c,.int .i64 n] g.w (cF g fun _ r=>r= .int .i64 (aS c n)):=by
 have hs:=St.start g;refine enter Tryz.func8 rfl Tryz.ntmps8 rfl ?_;unfold qN at hc;refine aY rfl ?_;apply aD;refine aY rfl ?_;by_cases lU:c<0
 ·refine aM (b:=decide (c<0)) (by simp[lU]) rfl ?_;apply aA;refine bj rfl ?_;refine cN 2 rfl ?_;refine ak rfl rfl (oQ rfl rfl rfl hn ?_);refine bj rfl ?_;refine aI (aX rfl rfl (hs.ret ?_));unfold aS;rw[if_pos lU,wr (n:=c+1) (by omega) (by omega),wr (by omega) (by omega),Int.zero_sub]
 refine aV (b:=decide (c<0)) (by simp;omega) rfl ?_;apply aF;apply ar;refine cN 2 rfl ?_;refine ak rfl rfl (oQ rfl rfl rfl hn ?_);refine bj rfl ?_;refine aI (aX rfl rfl (hs.ret ?_));unfold aS;rw[if_neg lU]
theorem gO(c n:Int)(g:G)(hc:qN c)(hn:n≠0):CallsIn Wd 0 Tryz.prog 24 #[.int .i64 c,.int .i64 n] g.w (cF g fun _ r=>r= .int .i64 (aS c n)):=by
 have hs:=St.start g;refine enter Tryz.func24 rfl Tryz.ntmps24 rfl ?_;unfold qN at hc;refine aY rfl ?_;apply aD;refine aY rfl ?_;by_cases lU:c<0
 ·refine aM (b:=decide (c<0)) (by simp[lU]) rfl ?_;apply aA;refine bj rfl ?_;refine cN 2 rfl ?_;refine ak rfl rfl (oQ rfl rfl rfl hn ?_);refine bj rfl ?_;refine aI (aX rfl rfl (hs.ret ?_));unfold aS;rw[if_pos lU,wr (n:=c+1) (by omega) (by omega),wr (by omega) (by omega),Int.zero_sub]
 refine aV (b:=decide (c<0)) (by simp;omega) rfl ?_;apply aF;apply ar;refine cN 2 rfl ?_;refine ak rfl rfl (oQ rfl rfl rfl hn ?_);refine bj rfl ?_;refine aI (aX rfl rfl (hs.ret ?_));unfold aS;rw[if_neg lU]
theorem iW(c n:Int)(g:G)(hc:qN c)(hn:n≠0):CallsIn Wd 0 Tryz.prog 45 #[.int .i64 c,.int .i64 n] g.w (cF g fun _ r=>r= .int .i64 (aS c n)):=by
 have hs:=St.start g;refine enter Tryz.func45 rfl Tryz.ntmps45 rfl ?_;unfold qN at hc;refine aY rfl ?_;apply aD;refine aY rfl ?_;by_cases lU:c<0
 ·refine aM (b:=decide (c<0)) (by simp[lU]) rfl ?_;apply aA;refine bj rfl ?_;refine cN 2 rfl ?_;refine ak rfl rfl (oQ rfl rfl rfl hn ?_);refine bj rfl ?_;refine aI (aX rfl rfl (hs.ret ?_));unfold aS;rw[if_pos lU,wr (n:=c+1) (by omega) (by omega),wr (by omega) (by omega),Int.zero_sub]
 refine aV (b:=decide (c<0)) (by simp;omega) rfl ?_;apply aF;apply ar;refine cN 2 rfl ?_;refine ak rfl rfl (oQ rfl rfl rfl hn ?_);refine bj rfl ?_;refine aI (aX rfl rfl (hs.ret ?_));unfold aS;rw[if_neg lU]
def jU(n:Int):Fact:=⟨fun v g=> ∃b p,v= .pointer (some ⟨b,p,none⟩)∧EP g b p [.int .i64 n],fun _ _ _ hf ⟨b,p,e,h1⟩=>⟨b,p,e,h1.mono hf.le⟩⟩
instance:El Y6 where
 k:=6
 pos:=by omega
 rc _ cs y:=cs=[.int .i64 y.y0,.int .i64 y.y1,.int .i64 y.y2,.int .i64 y.y3,.int .i64 y.y4,.int .i64 y.y5]
 len h:=by rw[h];rfl
 mono _ h:=h
 one h:=by rw[h];simp[Value.oneCell']
instance:El Y3 where
 k:=3
 pos:=by omega
 rc _ cs y:=cs=[.int .i64 y.z0,.int .i64 y.z1,.int .i64 y.z2]
 len h:=by rw[h];rfl
 mono _ h:=h
 one h:=by rw[h];simp[Value.oneCell']
end Go.Proofs.YtgehbndkogohpaaGreatDoor
namespace Go.Proofs.YtgehbndkogohpaaGreatDoor
open Go Go.K
set_option maxRecDepth 10000
attribute [local irreducible] W WL cD bc bK bd bg bh cq ck
set_option maxHeartbeats 4000000
theorem tF(v u:Value)(l r:List Int)(g:G)(aH:Rs g v l)(aU:Rs g u r):CallsIn Wd 0 Tryz.prog 12 #[v,u] g.w (cF g fun _ x=>x= .bool (decide (l=r))):=by
  obtain⟨a,c,rfl⟩:=aH.isSlice;obtain⟨a2,c2,rfl⟩:=aU.isSlice;have hlen:=aH.dJ;unfold maxLen at hlen;have hs:=St.start g;refine enter Tryz.func12 rfl Tryz.ntmps12 rfl ?_;refine aY rfl ?_;apply aD;refine aY rfl ?_;by_cases Ej:l.length=r.length
  ·refine aV (b:=(l.length:Int) !=(r.length:Int)) (by simp;omega) rfl ?_;apply aF;apply ar;apply aD;refine aY rfl ?_;apply aG;have nL:=aH;have uD:=aU;have gM:=G.le.refl g;refine bM (fun m a' w=> ∃(k:Nat) (g2:G),w=g2.w∧St g g2 []∧G.le g g2∧k≤l.length∧m=l.length-k∧l.take k=r.take k∧
     Fr 26 [] [(0,.slice a l.length c),(1,.slice a2 r.length c2),(5,.int .i64 k)] a') l.length
    (fun a' ha=>⟨0,g,rfl,hs,gM,Nat.zero_le _,rfl,by simp,ha.keep (by(repeat (first|exact trivial|refine⟨rfl,?_⟩)))⟩) ?_
   clear hs gM aH aU;rintro m a' _ ⟨k,g2,rfl,hs,gM,hk,rfl,dx,eF⟩;have aH:=nL.mono gM;have aU:=uD.mono gM;revert a';apply cI;apply aD;refine aY rfl ?_;by_cases bC:k<l.length
   ·refine aM (b:=decide ((k:Int)<(l.length:Int))) (by simp;omega) rfl ?_;have Vf:k<r.length:=by omega
    apply aF;apply ar;apply aD;apply aG;apply aD;apply bP hs (eQ (.f (jU l[k])::(eQ (fe (.f (jU r[k])::(eQ [])))))) 9 [(8,25)] (by kernel_rfl) rfl
    ·refine Dx [[],[]] (by kernel_rfl) rfl ?_;refine ay (an (js:=[(0,17),(1,18)]) (by kernel_rfl) fun gd hf=>?_) ?_
     ·have dG:=(G.bu _).trans hf.le;refine ai rfl ?_;refine ai rfl ?_;apply aj;refine aB rfl ?_;refine aW T.ok rfl (aH.mono dG) (y:=l[k]) (cZ rfl bC) rfl rfl rfl rfl rfl rfl ?_;intro b p ys aL d_;exact⟨_,rfl,a_.refl _,b,p,rfl,by rw[←show ys=[Value.int .i64 l[k]]from d_];exact aL⟩
     refine ay (an (js:=[(2,19)]) (by kernel_rfl) fun gd hf=>?_) ?_
     ·skip;refine aZ fun v2 h2=>?_;apply aj;obtain⟨b,p,rfl,aL⟩:=h2;refine aB rfl ?_;refine bJ T.ok 0 rfl aL rfl rfl ?_;refine⟨_,rfl,a_.refl _,?_⟩;exact rfl
     refine Dx [[],[]] (by kernel_rfl) rfl ?_;refine ay (an (js:=[(4,21),(5,22)]) (by kernel_rfl) fun gd hf=>?_) ?_
     ·have dG:=(G.bu _).trans hf.le;refine ai rfl ?_;refine ai rfl ?_;apply aj;refine aB rfl ?_;refine aW T.ok rfl (aU.mono dG) (y:=r[k]) (cZ rfl Vf) rfl rfl rfl rfl rfl rfl ?_;intro b p ys aL d_;exact⟨_,rfl,a_.refl _,b,p,rfl,by rw[←show ys=[Value.int .i64 r[k]]from d_];exact aL⟩
     refine ay (an (js:=[(6,23)]) (by kernel_rfl) fun gd hf=>?_) ?_
     ·skip;refine aZ fun v6 h6=>?_;apply aj;obtain⟨b,p,rfl,aL⟩:=h6;refine aB rfl ?_;refine bJ T.ok 0 rfl aL rfl rfl ?_;refine⟨_,rfl,a_.refl _,?_⟩;exact rfl
     exact Dy [[3,7]] (by kernel_rfl) rfl
    clear hs;intro g1 hs ah;replace gM:=gM.trans ah;apply bW;by_cases he:l[k]=r[k]
    ·refine aV (b:=l[k] !=r[k]) (by simp[he]) rfl ?_;apply aF;apply bR;apply ar;apply aA;refine Wp 3 rfl ?_;apply aE;refine fun a ha=>⟨l.length-(k+1),by omega,k+1,_,rfl,hs,gM,by omega,rfl,?_,ha.keep ⟨rfl,rfl,kI rfl (by rw[wr (by omega) (by omega)];omega),trivial⟩⟩
     rw[List.take_succ_eq_append_getElem bC,List.take_succ_eq_append_getElem Vf,dx,he]
    refine aM (b:=l[k] !=r[k]) (by simp[he]) rfl ?_;refine aY rfl ?_;refine aI (aX rfl rfl (hs.ret ?_));rw[decide_eq_false (fun e=>he (by subst e;rfl))]
   refine aV (b:=decide ((k:Int)<(l.length:Int))) (by simp;omega) rfl ?_;rw[List.take_of_length_le (by omega),List.take_of_length_le (by omega)]at dx;apply bF;apply bG;apply bG;apply c_;apply ar;refine aY rfl ?_;refine aI (aX rfl rfl (hs.ret ?_));rw[decide_eq_true dx]
  refine aM (b:=(l.length:Int) !=(r.length:Int)) (by simp;omega) rfl ?_;refine aY rfl ?_;refine aI (aX rfl rfl (hs.ret ?_));rw[decide_eq_false (fun e=>Ej (by rw[e]))]
end Go.Proofs.YtgehbndkogohpaaGreatDoor
namespace Go.Proofs.YtgehbndkogohpaaGreatDoor
open Go Go.K
set_option maxRecDepth 10000
attribute [local irreducible] W WL cD bc bK bd bg bh cq ck
set_option maxHeartbeats 16000000
theorem sT(s:Step): ∀(l:List Step) (j:Nat),f_ j (l++[s])=f_ j l++(ed (j+l.length) s++[10])
 |[],j=>by simp[f_]
 |x::l,j=>by rw[List.cons_append];simp only[f_];rw[sT s l (j+1),List.length_cons,show j+1+l.length=j+(l.length+1)from by omega];simp
theorem vf(w:bZ): ∀l:List bZ,kg (l++[w])=kg l++(dE w++[10])
 |[]=>by simp[kg]
 |x::l=>by rw[List.cons_append];simp only[kg];rw[vf w l];simp
def kY(f:bQ):Value:=if valid f=true then .tuple #[.string (bs (gI f)),.int .i64 0]else .tuple #[.string (bs []),.int .i64 40]
theorem yF{f:bQ}(h:valid f=true):kY f= .tuple #[.string (bs (gI f)),.int .i64 0]:=by unfold kY;rw[if_pos h]
def An(n0 m:Nat)(s:List UInt8):Prop:=(m=0∧s≠[]∧dec n0=s)∨((0<m∨s=[])∧dec n0=dec m++s)
theorem An.next{n0 m:Nat}{s:List UInt8}(h:An n0 m s)(hc:s=[]∨0<m):An n0 (m/10) (UInt8.ofNat (48+m % 10)::s):=by
 have h2:dec n0=dec m++s:=by
  rcases h with⟨h1,h2,_⟩|⟨_,h3⟩
  ·rcases hc with h|h
   ·exact absurd h h2
   omega
  exact h3
 by_cases hm:m<10
 ·refine .inl ⟨by omega,by simp,?_⟩;rw[h2,ic hm,show m % 10=m by omega];rfl
 refine .inr ⟨.inl (by omega),?_⟩;rw[h2,nd hm];simp
theorem An.done{n0 m:Nat}{s:List UInt8}(h:An n0 m s)(hs:s≠[])(hm: ¬0<m):dec n0=s:=by
 rcases h with⟨_,_,h⟩|⟨h1,h2⟩
 ·exact h
 rcases h1 with h|h
 ·omega
 exact absurd h hs
theorem An.len{n0 m:Nat}{s:List UInt8}(h:An n0 m s):s.length≤(dec n0).length:=by
 rcases h with⟨_,_,h⟩|⟨_,h⟩
 ·rw[h];exact Nat.le_refl _
 rw[h,List.length_append];omega
end Go.Proofs.YtgehbndkogohpaaGreatDoor
namespace Go.Proofs.YtgehbndkogohpaaGreatDoor
open Go Go.K
set_option maxRecDepth 10000
attribute [local irreducible] W WL cD bc bK bd bg bh cq ck
set_option maxHeartbeats 1000000
structure WB(f:bQ):Prop where
 some_:f.steps≠[]
 dt: ∀s∈f.steps,s.dt≠[]
 next: ∀s∈f.steps,∀m∈s.next,0≤m∧m<(f.steps.length:Int)
 back: ∀s∈f.steps,s.back<(f.steps.length:Int)
 YY:WC f
def K5(f:bQ)(c:Int)(out:List bH):Int:=(K4 f out).getD (aS c (K4 f out).length).toNat 0
def PB(f:bQ)(waf idn time c:Int)(out:List bH):bH:=
 {JY ((dS f.steps (K5 f c out)).getD lB) (((dS f.steps (K5 f c out)).getD lB).dt.headD 0) (idn+out.length) waf (K5 f c out) (time+10*out.length)with til:=IntKind.i64.wrap (time+10*out.length+5)}
abbrev rF(ad:Option Addr)(c:Nat)(xs:List bH):cS:=.row 34 19 (.slice ad xs.length c) xs.length (fl xs)
end Go.Proofs.YtgehbndkogohpaaGreatDoor
namespace Go.Proofs.YtgehbndkogohpaaGreatDoor
open Go Go.K
set_option maxRecDepth 10000
attribute [local irreducible] W WL cD bc bK bd bg bh cq ck
set_option maxHeartbeats 1000000
def mi(t:List UInt8):bH:={iy with kind:=5,ver:=1,prod:=1,text:=t}
def mj(i:Nat):bH:={iy with kind:=4,ver:=1,waf:=(i+1:Nat),lot:=(1+(i+1)/3:Nat),prod:=1}
def pj(k h j:Nat):bH:={iy with kind:=6,idn:=(10*k+5*h+j+1:Nat),ver:=1,til:=1000000,tool:=k,cham:=h,rcp:=(j+1:Nat),rvn:=1}
def uB(n:Nat):bH:=pj (n/10) (n/5 % 2) (n % 5)
end Go.Proofs.YtgehbndkogohpaaGreatDoor
namespace Go.Proofs.YtgehbndkogohpaaGreatDoor
open Go Go.K
set_option maxRecDepth 10000
attribute [local irreducible] W WL cD bc bK bd bg bh cq ck
theorem Bj{f:bH}(h:eP f≠[]):eC f=true:=by
 unfold eP at h;cases hv:eC f with
 |true=>rfl
 |false=>rw[hv]at h;exact absurd rfl h
theorem zE{f:bH}(h:eC f=true):f.text.length≤8192:=by
 unfold eC at h;split at h
 ·cases h
 split at h
 ·cases h
 rename_i hc;simp only[Bool.or_eq_true,decide_eq_true_eq,not_or]at hc;omega
theorem H8{l:List bH}{day:Int}{i:Nat}{f:bH}(h:f∈(ofM l day).ls i):eC f=true:=by have h1:f∈gR (jl day l) i:=(fR _).mem_iff.1 h;obtain⟨k,hk,_⟩:=tM h1;obtain⟨_,h2⟩:=B2 day l;obtain⟨e,fB⟩:=h2 _ hk;exact Bj (by rw[←e];exact fB)
theorem Pz{l:List bH}(day:Int)(hl:l.length≤1000000):KY (ofM l day):=by
 refine⟨fun i=>?_,fun f hf=>?_⟩
 ·show(dN (lK i) (gR (jl day l) i)).length≤_;rw[fT];exact Nat.le_trans (tO _ _) (Nat.le_trans (y_ day l) hl)
 have:=zE (H8 (i:=4) hf);omega
def bn(c:Bool)(k:Int):Int:=bif c then k else 0
theorem PA(c1 c2 c3 c4 c5 c6:Bool):Du (Dr [c1,c2,c3,c4,c5,c6])=bn c1 1+bn c2 2+bn c3 4+bn c4 8+bn c5 16+bn c6 32:=by cases c1<;>cases c2<;>cases c3<;>cases c4<;>cases c5<;>cases c6<;>rfl
end Go.Proofs.YtgehbndkogohpaaGreatDoor
namespace Go.Proofs.YtgehbndkogohpaaGreatDoor
open Go Go.K Go.RowKit Go.ChangeShapes Go.WideShapes
set_option maxRecDepth 100000
theorem x9:ownKnob Tryz.prog.godebug=none:=by kernel_rfl
theorem laidOut:laidOutB Tryz.prog=true:=by kernel_rfl
theorem FZ:Tryz.prog.cellsOf 3=1:=by kernel_rfl
theorem F0:Tryz.prog.cellsOf 73=6:=by kernel_rfl
theorem sE:Tryz.prog.cellsOf 9=1:=by kernel_rfl
def uH:List (String×DataW Unit):=[("math/bits.deBruijn32tab",Rows.laid_math_bits_deBruijn32tab),("math/bits.deBruijn64tab",Rows.laid_math_bits_deBruijn64tab),("internal/strconv.uint64pow10",Rows.laid_internal_strconv_uint64pow10),("unicode/utf8.acceptRanges",Rows.laid_unicode_utf8_acceptRanges),("strconv.ErrRange",Rows.laid_strconv_ErrRange),("strconv.ErrSyntax",Rows.laid_strconv_ErrSyntax),("unicode/utf8.first",Rows.laid_unicode_utf8_first)]
theorem PW:Tryz.prog.globalNamed "strconv.ErrRange" =some 7:=by kernel_rfl
theorem PX:Tryz.prog.globalNamed "strconv.ErrSyntax" =some 6:=by kernel_rfl
theorem Tm:(Tryz.prog.globals[1]?).map (·.type)=some 331:=by kernel_rfl
theorem Tn:(Tryz.prog.globals[7]?).map (·.type)=some 119:=by kernel_rfl
theorem To:(Tryz.prog.globals[6]?).map (·.type)=some 119:=by kernel_rfl
theorem PY:(Rows.laid_internal_strconv_uint64pow10:DataW Unit)=Lib.tabData .u64 Lib.pow10Tab:=by kernel_rfl
theorem F1(u:TypeId)(h:Tryz.prog.typeName? 3 u=some "*errors.errorString"):u=367:=
 typeName_ptr_named (nm:= "errors.errorString") (by kernel_rfl) (by kernel_rfl) (by decide) u h
theorem x_{W:World}{b:Nat}{v:Value}(hc:W.cell? ⟨b,0,none⟩=some v):EP (vH W) b 0 [v]:=by
 refine⟨(r3 hc).2,fun j y hy=>?_⟩
 match j,hy with
 |0,hy=>simp at hy;subst hy;exact hc
 |j+1,hy=>simp at hy
theorem DH{W:World}(nN:W.ShapedOpen Tryz.prog): ∃m,W.cell? ⟨0,0,none⟩=some (.int .i64 m):=Tryz.laysM220.s1_3 W nN
theorem PZ{W:World}(h:laidMet Tryz.prog uH W)(nN:W.ShapedOpen Tryz.prog):jv (vH W):=by
 have h2:=h.tail.tail;rw[show(("internal/strconv.uint64pow10",Rows.laid_internal_strconv_uint64pow10):String×DataW Unit)=("internal/strconv.uint64pow10",Lib.tabData .u64 Lib.pow10Tab)from by rw[PY]]at h2;have hT:=Lib.tabIs_of_head Lu Tm Tryz.underlying331 Tryz.underlying261 (by kernel_rfl) (by kernel_rfl) h2;have h4:=h.tail.tail.tail.tail;have h5:=h4.tail;obtain⟨a,s,hv,_⟩:=laid_sentinel h4 PW Tn Tryz.underlying119 F1 Tryz.underlying367 Tryz.underlying369 rfl rfl Tryz.underlying9 (by kernel_rfl) sE;obtain⟨a2,s2,Uw,_⟩:=laid_sentinel h5 PX To Tryz.underlying119 F1 Tryz.underlying367 Tryz.underlying369 rfl rfl Tryz.underlying9 (by kernel_rfl) sE;have hc:=World.var?_cell PW hv 0;have vr:=World.var?_cell PX Uw 0;have hc:W.cell? ⟨7,0,none⟩=some (.iface 367 (.pointer (some a))):=by simpa using hc
 have vr:W.cell? ⟨6,0,none⟩=some (.iface 367 (.pointer (some a2))):=by simpa using vr
 obtain⟨m,hm⟩: ∃m,W.cell? ⟨0,0,none⟩=some (.int .i64 m):=DH nN;have hp:=hT.cell Lu 0 (by decide);exact⟨⟨m,x_ hm⟩,⟨(r3 hp).2,hT⟩,⟨_,x_ vr,.inr ⟨_,_,rfl⟩⟩,⟨_,x_ hc,.inr ⟨_,_,rfl⟩⟩⟩
theorem F2:J3 Tryz.prog 73 (α:=Y6) Y6.fit:=by
 intro H enc W fuel cs x h;obtain⟨hl,hi⟩:=Br Tryz.underlying73 Tryz.underlying3 FZ F0 h
 match cs,hl with
 |[c0,c1,c2,c3,c4,c5],_=>
  obtain⟨m0,e0,f0⟩:=hi 0 (by decide);obtain⟨m1,e1,f1⟩:=hi 1 (by decide);obtain⟨m2,e2,f2⟩:=hi 2 (by decide);obtain⟨m3,e3,f3⟩:=hi 3 (by decide);obtain⟨m4,e4,f4⟩:=hi 4 (by decide);obtain⟨m5,e5,f5⟩:=hi 5 (by decide);obtain rfl:=Option.some.inj e0;obtain rfl:=Option.some.inj e1;obtain rfl:=Option.some.inj e2;obtain rfl:=Option.some.inj e3;obtain rfl:=Option.some.inj e4;obtain rfl:=Option.some.inj e5;exact⟨⟨m0,m1,m2,m3,m4,m5⟩,rfl,⟨f0,f1,f2,f3,f4,f5⟩⟩
theorem uI{H:Type}{enc:TypeId×Value→H}{W:World}{v:Value}{d:DataW H}{p:List MemPlace}(lT:Value.okWide Tryz.prog W .any 0 22 v)(h:DataW.Trod enc Tryz.prog W 0 (fun _=>true) true 22 v d p):
  ∃x:List Y6,Rs (vH W) v x∧ ∀y∈x,y.fit:=by
 obtain⟨a,n,c,rfl⟩:=okWide_slice Tryz.underlying22 lT;obtain⟨fuel,hf⟩:=h;exact F3 (α:=Y6) Tryz.underlying22 F0 F2 hf
theorem pU{H:Type}{enc:TypeId×Value→H}{a:Assume}{C:Checked}{os:Os}{f:FuncId}{fn:Func}{s:ChangeSpec}{conds:List PathCond}{apart fresh handsOn again:Bool}{X:World→Array Value→Prop}
  (hX: ∀(w w':World) (args:Array Value),w.heap=w'.heap→X w args→X w' args)
  (own:ownKnob C.prog.godebug=none) (started:os.Started) (Lv:C.prog.inits.idxOf? f=none) (H0:C.prog.funcs[f]? =some fn)
  (witness: ∃(w:World) (tape:Tape) (i:Input),w.os=os∧(w.forCall tape i).Shaped C.prog∧i.vars=[]∧Input.okWide C.prog (w.forCall tape i) .any w.heap.size f i∧
   ((s.pre enc C.prog fn conds apart (w.forCall tape i).memory i.args∧X (w.forCall tape i).memory i.args)∧sizedMet enc C.prog fn (OpenSpec.ofChange s) apart (w.forCall tape i).memory i.args)∧a.holds C.prog (lone (Frame.enter C.prog f i.args .normal) [] (w.forCall tape i)))
  (qL: ∀(W:World) (args:Array Value) (ds gs:List (DataW H)) (before:List MemPlace),
   (∀(j:Nat) t v,fn.params[j]? =some t→args[j]? =some v→ ∃base,Value.okWide C.prog W .any base t v)→
   DataW.Whole enc C.prog fn.params.toList s.vars apart W args.toList ds gs before→X W args→W.ShapedOpen C.prog→
   Calls C.prog f args W fun e W'=> ∃v,e= .returned v∧s.post enc C.prog fn apart fresh handsOn again W args v W'):
  ReturnsInHanded a C os f .any (fun w args=>(s.pre enc C.prog fn conds apart w args∧X w args)∧sizedMet enc C.prog fn (OpenSpec.ofChange s) apart w args) (s.post enc C.prog fn apart fresh handsOn again):=by
 refine returnsInHanded_of_calls own started Lv witness ?_;intro w tape i _ nN _ lT gj _;obtain⟨_,_,_,W6,Tp,_,_,_,_,fu⟩:=lT;obtain rfl:W6=fn:=Option.some.inj (Tp.symm.trans H0);obtain⟨⟨⟨ds,gs,before,hw,_⟩,hx⟩,_⟩:=gj;have MF:=DataW.Whole.of_heap (w':=w.forCall tape i) (by rfl) hw;refine(qL (w.forCall tape i) i.args ds gs before (fun j t v h1 h2=>⟨_,fu j t v h1 h2⟩) MF (hX _ _ _ (by rfl) hx) nN).mono fun e W' ⟨v,he,hp⟩=>?_;subst he;exact ChangeSpec.post_blind hp
theorem Bs{f:FuncId}{args:Array Value}{W:World}{s:ChangeSpec}{fn:Func}{H:Type}{enc:TypeId×Value→H}{ds:List (DataW H)}{before:List MemPlace}
  (hr:(fn.params.toList.all fun t=>Tryz.prog.readableRec t&&decide (t<Tryz.prog.types.size))=true) (hv:s.vars=[]) (hs:s.fn H ds={results:=[.lit (.bool true)],args:=ds}) (Tq:fn.resultTypes=#[4])
  (hW:DataW.Whole enc Tryz.prog fn.params.toList s.vars false W args.toList ds [] before)
  (h:CallsIn Wd 0 Tryz.prog f args (vH W).w (cF (vH W) fun _ r=>r= .bool true)):
  Calls Tryz.prog f args W fun e W'=> ∃v,e= .returned v∧s.post enc Tryz.prog fn false true false false W args v W':=by
 refine(callsIn_wide.1 h).mono ?_;rintro _ _ ⟨g',v,rfl,hf,rfl,rfl⟩;exact⟨_,rfl,F4 laidOut hr hv hs Tq Tryz.underlying4 hW hf.below⟩
theorem Is(os:Os)(args:Array Value):laidMetH Tryz.prog uH ((World.laidAll Tryz.prog os uH).forCall (fun _ _=>0) ⟨#[],args,[]⟩).memory:=by rw[MakeChecks.laidMetH_plain _ _ _ (by kernel_rfl)];exact laidMet_laidAll _ (by kernel_rfl) (by kernel_rfl)
theorem qM{H:Type}{enc:TypeId×Value→H}{W:World}{v:Value}{d:DataW H}{p:List MemPlace}(lT:Value.okWide Tryz.prog W .any 0 3 v)(h:DataW.Trod enc Tryz.prog W 0 (fun _=>true) true 3 v d p):
  ∃n:Int,v= .int .i64 n∧qN n:=by
 obtain⟨n,rfl,_,_,hw⟩:=open_int Tryz.underlying3 lT h;exact⟨n,rfl,wf_i64 hw⟩
theorem trodAll_two{H:Type}{enc:TypeId×Value→H}{P:Program}{w:World}{base:Nat}{spare:Nat→Bool}{held:Bool}{t0 t1:TypeId}{args:Array Value}{ds:List (DataW H)}{ps:List MemPlace}(h:DataW.TrodAll enc P w base spare held [t0,t1] args.toList ds ps):
  ∃v0 v1 d0 d1 p0 p1,args=#[v0,v1]∧ds=[d0,d1]∧ps=p0++p1∧DataW.Trod enc P w base spare held t0 v0 d0 p0∧DataW.Trod enc P w base spare held t1 v1 d1 p1:=by
 obtain⟨v0,Y_,d0,Y',p0,q0,pk,rfl,rfl,h0,KH⟩:=trodAll_cons h;obtain⟨v1,Za,d1,Zb,p1,q1,rfl,rfl,rfl,h1,sF⟩:=trodAll_cons KH;obtain⟨rfl,rfl,rfl⟩:=trodAll_nil sF;exact⟨v0,v1,d0,d1,p0,p1,by cases args;simp_all,rfl,by simp,h0,h1⟩
end Go.Proofs.YtgehbndkogohpaaGreatDoor
namespace Go.Proofs.YtgehbndkogohpaaGreatDoor
def cmpL:List Int→List Int→Int
 |[],[]=>0
 |[],_::_=> -1
 |_::_,[]=>1
 |a::l,b::r=>if fE a b=0 then cmpL l r else fE a b
structure Wy where
 time:Int
 steps:List Int
def order(a b:Wy):Int:=Fb [fE a.time b.time,fE a.steps.length b.steps.length,cmpL a.steps b.steps]
end Go.Proofs.YtgehbndkogohpaaGreatDoor
namespace Go.Proofs.YtgehbndkogohpaaGreatDoor
open Go Go.K
set_option maxRecDepth 10000
attribute [local irreducible] W WL cD bc bK bd bg bh cq ck
set_option maxHeartbeats 2000000
theorem Bl(v u:Value)(l r:List Int)(g:G)(aH:Rs g v l)(aU:Rs g u r):CallsIn Wd 0 Tryz.prog 292 #[v,u] g.w (cF g fun _ x=>x= .int .i64 (cmpL l r)):=by
 obtain⟨a,c,rfl⟩:=aH.isSlice;obtain⟨a2,c2,rfl⟩:=aU.isSlice;have hlen:=aH.dJ;have zH:=aU.dJ;unfold maxLen at hlen zH;have hs:=St.start g;have nL:=aH;have uD:=aU;refine enter Tryz.func292 rfl Tryz.ntmps292 rfl ?_;refine aY rfl ?_;apply aD;refine aY rfl ?_;apply aG;refine bM (fun m a' w=> ∃(k:Nat) (g':G),w=g'.w∧St g g' []∧G.le g g'∧k≤l.length∧k≤r.length∧m=l.length-k∧cmpL (l.drop k) (r.drop k)=cmpL l r∧
  Fr 36 [] [(0,.slice a l.length c),(1,.slice a2 r.length c2),(9,.slice a l.length c),(10,.int .i64 l.length),(11,.int .i64 k)] a') l.length (fun a' ha=>⟨0,g,rfl,hs,G.le.refl g,Nat.zero_le _,Nat.zero_le _,rfl,rfl,ha.keep (by(repeat (first|exact trivial|refine⟨rfl,?_⟩)))⟩) ?_
 clear hs;rintro m a' _ ⟨k,g',rfl,hs,aq,hk,yU,rfl,dx,eF⟩;have aH:=nL.mono aq;have aU:=uD.mono aq;revert a';apply cI;refine aY rfl ?_;apply aD;by_cases bC:k<l.length
 ·refine aM (b:=decide ((k:Int)<(l.length:Int))) (by simp;omega) rfl ?_;apply aF;apply ar;apply aD;apply aG;refine cN 1 rfl ?_;refine ak rfl rfl (aW T.ok rfl aH (y:=l[k]) (by simp[dS,bC]) rfl rfl rfl rfl rfl rfl ?_);rintro b p ys aL rfl;refine Wm 1 [.e aL 0] (St.start _) rfl ?_;refine bj rfl ?_;apply aD;refine aY rfl ?_;by_cases Hj:r.length≤k
  ·refine aM (b:=decide ((r.length:Int)≤(k:Int))) (by simp;omega) rfl ?_;refine aY rfl ?_;refine aI (aX rfl rfl (hs.ret ?_));rw[←dx,List.drop_eq_getElem_cons bC,List.drop_of_length_le Hj,cmpL]
  have pQ:k<r.length:=by omega
  refine aV (b:=decide ((r.length:Int)≤(k:Int))) (by simp;omega) rfl ?_;rw[List.drop_eq_getElem_cons bC,List.drop_eq_getElem_cons pQ,cmpL]at dx;apply aF;apply ar;refine cN 2 rfl ?_;refine ak rfl rfl (aW T.ok rfl aU (y:=r[k]) (by simp[dS,pQ]) rfl rfl rfl rfl rfl rfl ?_);rintro b p ys aL rfl;refine Wm 1 [.e aL 0] (St.start _) rfl ?_;refine bj rfl ?_;refine cN 2 rfl ?_;refine ak rfl rfl (au AR aJ rfl rfl rfl rfl rfl (pO _ _ _) ?_);rintro g1 _ aP rfl;replace hs:=hs.call aP;have ah:=aP.le;replace aq:=G.le.trans aq ah;refine bj rfl ?_;refine aY rfl ?_;by_cases hz:fE l[k] r[k]=0
  ·refine aV (b:=fE l[k] r[k] !=0) (by simp[hz]) rfl ?_;rw[if_pos hz]at dx;apply aF;apply bR;apply ar;apply aA;refine Wp 2 rfl ?_;apply aE;exact fun a ha=>⟨l.length-(k+1),by omega,k+1,_,rfl,hs,aq,by omega,by omega,rfl,dx,ha.keep ⟨rfl,rfl,rfl,rfl,kI rfl (by rw[wr (by omega) (by omega)];omega),trivial⟩⟩
  refine aM (b:=fE l[k] r[k] !=0) (by simp[hz]) rfl ?_;rw[if_neg hz]at dx;refine aY rfl ?_;exact aI (aX rfl rfl (hs.ret (by rw[dx])))
 refine aV (b:=decide ((k:Int)<(l.length:Int))) (by simp;omega) rfl ?_;obtain rfl:k=l.length:=by omega
 apply bF;apply bG;apply bG;apply c_;apply ar;apply aD;refine aY rfl ?_;rw[List.drop_length]at dx;by_cases hr:l.length<r.length
 ·refine aM (b:=decide ((l.length:Int)<(r.length:Int))) (by simp;omega) rfl ?_;refine aY rfl ?_;refine aI (aX rfl rfl (hs.ret ?_));rw[←dx,List.drop_eq_getElem_cons hr,cmpL]
 refine aV (b:=decide ((l.length:Int)<(r.length:Int))) (by simp;omega) rfl ?_;apply aF;apply ar;refine aY rfl ?_;refine aI (aX rfl rfl (hs.ret ?_));rw[←dx,List.drop_of_length_le (by omega),cmpL]
def Bm(g:G)(cs:List Value)(w:Wy):Prop:=∃a n c,cs=[.int .i64 w.time,.slice a n c]∧Rs g (.slice a n c) w.steps
instance:El Wy where
 k:=2
 pos:=by omega
 rc:=Bm
 len h:=by obtain⟨_,_,_,rfl,_⟩:=h;rfl
 mono hle h:=by obtain⟨a1,n1,c1,e,h1⟩:=h;exact⟨a1,n1,c1,e,h1.mono hle⟩
 one h:=by obtain⟨_,_,_,rfl,_⟩:=h;simp[Value.oneCell']
def qH(g:G)(v:Value)(s:Wy):Prop:=∃cs,v= .agg cs.toArray∧Bm g cs s
theorem qH.mono{g g':G}{v:Value}{s:Wy}(hle:g.le g')(h:qH g v s):qH g' v s:=by obtain⟨cs,e,h⟩:=h;exact⟨cs,e,El.mono (α:=Wy) hle h⟩
theorem Cv(v u:Value)(x y:Wy)(g:G)(hv:qH g v x)(hu:qH g u y):
  CallsIn Wd 0 Tryz.prog 270 #[v,u] g.w (cF g fun _ r=>r= .int .i64 (order x y)):=by
 obtain⟨_,rfl,a1,n1,c1,rfl,aH⟩:=hv;obtain⟨_,rfl,a2,n2,c2,rfl,aU⟩:=hu;obtain⟨_,_,e⟩:=aH.isSlice;obtain⟨rfl,rfl,rfl⟩:=Value.slice.inj e;clear e;obtain⟨_,_,e⟩:=aU.isSlice;obtain⟨rfl,rfl,rfl⟩:=Value.slice.inj e;clear e;have hs:=St.start g;refine enter Tryz.func270 rfl Tryz.ntmps270 rfl ?_;apply cM;refine ak rfl rfl (aO rfl hs rfl rfl ?_);clear hs;rintro bx g1 hs ah;obtain⟨aH,aU⟩:=cf ah aH aU;skip;refine ak rfl rfl (aO rfl hs rfl rfl ?_);clear hs;rintro bz g1 hs ah;obtain⟨aH,aU⟩:=cf ah aH aU;refine bj rfl ?_;apply aD;apply bP hs (eO (eO (fe (.f (Fact.rs [fE x.time y.time,fE x.steps.length y.steps.length,cmpL x.steps y.steps])::(fe []))))) 19 [(18,23)] (by kernel_rfl) rfl
 ·refine Dm [[],[0],[],[2]] [.o 1,.o 0] hs (by kernel_rfl) rfl ?_;refine ay (an (js:=[(1,6),(3,8)]) (by kernel_rfl) fun gd hf=>?_) ?_
  ·skip;refine ai rfl ?_;refine ai rfl ?_;apply aj;refine aB rfl ?_;refine au AR aJ rfl rfl rfl rfl rfl (pO _ _ _) fun g' v h1 h2=>⟨g',rfl,h1,?_⟩
   exact h2
  refine Dm [[],[5],[6],[],[8],[9]] [.o 1,.o 0] hs (by kernel_rfl) rfl ?_;refine ay (an (js:=[(7,12),(10,15)]) (by kernel_rfl) fun gd hf=>?_) ?_
  ·skip;refine ai rfl ?_;refine ai rfl ?_;apply aj;refine aB rfl ?_;refine au AR aJ rfl rfl rfl rfl rfl (pO _ _ _) fun g' v h1 h2=>⟨g',rfl,h1,?_⟩
   exact h2
  refine Dm [[],[12],[],[14]] [.o 1,.o 0] hs (by kernel_rfl) rfl ?_;refine ay (an (js:=[(13,18),(15,20)]) (by kernel_rfl) fun gd hf=>?_) ?_
  ·have dG:=(G.bu _).trans hf.le;refine ai rfl ?_;refine ai rfl ?_;apply aj;refine aB rfl ?_;refine au OJ aJ rfl rfl rfl rfl rfl (Bl _ _ x.steps y.steps _ (aH.mono dG) (aU.mono dG)) fun g' v h1 h2=>⟨g',rfl,h1,?_⟩
   exact h2
  refine ay (an (js:=[(4,9),(11,16),(16,21)]) (by kernel_rfl) fun gd hf=>?_) ?_
  ·skip;refine ai rfl ?_;refine ai rfl ?_;refine ai rfl ?_;apply aj;refine aB rfl ?_;refine bD T.ok rfl (St.start gd) (vs:=[(0,.int .i64 (fE x.time y.time)),(1,.int .i64 (fE x.steps.length y.steps.length)),(2,.int .i64 (cmpL x.steps y.steps))]) (cells:=iw [fE x.time y.time,fE x.steps.length y.steps.length,cmpL x.steps y.steps]) rfl rfl rfl rfl rfl rfl (by decide) (by decide) (by kernel_rfl) rfl ?_;intro b g2 aT UN;obtain⟨g3,pf,vn,qI,ny⟩:=aT.cK (α:=Int) (i:=0) rfl (cG.ints _ [fE x.time y.time,fE x.steps.length y.steps.length,cmpL x.steps y.steps]);exact⟨g3,pf,vn.nC,ny⟩
  refine ay (an (js:=[(17,22)]) (by kernel_rfl) fun gd hf=>?_) ?_
  ·skip;refine aZ fun WG S3=>?_;apply aj;refine aB rfl ?_;refine au KC aJ rfl rfl rfl rfl rfl (KL _ [fE x.time y.time,fE x.steps.length y.steps.length,cmpL x.steps y.steps] _ S3) fun g' v h1 h2=>⟨g',rfl,h1,?_⟩
   exact h2
  exact fD
 clear hs;intro g1 hs ah;refine bj rfl ?_;exact aI (aX rfl rfl (hs.ret rfl))
end Go.Proofs.YtgehbndkogohpaaGreatDoor
namespace Go.Proofs.YtgehbndkogohpaaGreatDoor
def better(w:Wy)(o:Option Wy):Bool:=match o with
 |none=>true
 |some x=>decide (order w x<0)
def mK(w:Wy)(o:List (Option Wy))(n:Int):List (Option Wy):=if better w (o.getD n.toNat none)=true then o.set n.toNat (some w)else o
def fU(w:Wy)(o:List (Option Wy))(l:List Int):List (Option Wy):=l.foldl (mK w) o
theorem zr(w:Wy)(o:List (Option Wy))(n:Int):(mK w o n).length=o.length:=by unfold mK;split<;>simp
theorem pR(w:Wy)(l:List Int): ∀o,(fU w o l).length=o.length:=by
 induction l with
 |nil=>intro o;rfl
 |cons n r ih=>intro o;unfold fU at ih⊢;rw[List.foldl_cons,ih,zr]
theorem zt(w:Wy)(o:List (Option Wy))(l:List Int)(n:Int):fU w o (l++[n])=mK w (fU w o l) n:=by unfold fU;rw[List.foldl_append];rfl
def nS(out:List (Option Wy))(done:List Bool)(xJ:Int)(n:Nat):Int:=
 match out.getD n none with
 |none=>xJ
 |some w=>if done.getD n true=true then xJ else if xJ<0 then n else if better w (out.getD xJ.toNat none)=true then n else xJ
def iM(out:List (Option Wy))(done:List Bool):Int:=(List.range out.length).foldl (nS out done) (-1)
def xK(f:bQ):Nat→List (Option Wy)→List Bool→List (Option Wy)
 |0,out,_=>out
 |k+1,out,done=>
  if iM out done<0 then out else
  match out.getD (iM out done).toNat none with
  |none=>out
  |some v=>xK f k (fU ⟨v.time+(cn f (iM out done)).min+f.bB,v.steps++[iM out done]⟩ out (gA (cn f (iM out done)))) (done.set (iM out done).toNat true)
def ways(f:bQ)(start:Int):List (Option Wy):=
 xK f (f.steps.length+1) (fU ⟨f.bB,[]⟩ (List.replicate f.steps.length none) (gA (cn f start))) (List.replicate f.steps.length false)
end Go.Proofs.YtgehbndkogohpaaGreatDoor
namespace Go.Proofs.YtgehbndkogohpaaGreatDoor
open Go Go.K
set_option maxRecDepth 10000
attribute [local irreducible] W WL cD bc bK bd bg bh cq ck
set_option maxHeartbeats 2000000
instance:El (Option Wy) where
 k:=1
 pos:=by omega
 rc g cs o:=match o with
  |none=>cs=[.pointer none]
  |some w=> ∃b ys,cs=[.pointer (some ⟨b,0,none⟩)]∧EP g b 0 ys∧Bm g ys w
 len {g cs o} h:=by
  cases o with
  |none=>rw[show cs=[.pointer none]from h];rfl
  |some w=>obtain⟨b,ys,rfl,_⟩:=h;rfl
 mono {g g' cs o} hle h:=by
  cases o with
  |none=>exact h
  |some w=>obtain⟨b,ys,e,h1,h2⟩:=h;exact⟨b,ys,e,h1.mono hle,El.mono (α:=Wy) hle h2⟩
 one {g cs o} h:=by
  cases o with
  |none=>rw[show cs=[.pointer none]from h];simp[Value.oneCell']
  |some w=>obtain⟨b,ys,rfl,_⟩:=h;simp[Value.oneCell']
theorem cG.opt{g:G}: ∀{xs:List (Option Wy)} {cells:List Value},cG g cells xs→ ∀(n:Nat) (h:n<xs.length),∃c,cells[n]? =some c∧El.rc (α:=Option Wy) g [c] xs[n]
 |[],_,_,n,h=>by simp at h
 |x::xs,_,⟨c1,c2,e,h1,h2⟩,n,h=>by
  have hl:c1.length=1:=El.len (α:=Option Wy) h1;obtain⟨c,rfl⟩: ∃c,c1=[c]:=List.length_eq_one_iff.1 hl;subst e;cases n with
  |zero=>exact⟨c,rfl,h1⟩
  |succ n=>
   obtain⟨d,h3,h4⟩:=cG.opt h2 n (by simpa using h);exact⟨d,by simpa using h3,by simpa using h4⟩
theorem cG.Bn{g:G}{c:Value}{y:Option Wy}(hy:El.rc (α:=Option Wy) g [c] y): ∀{xs:List (Option Wy)} {cells:List Value},cG g cells xs→ ∀(n:Nat),cG g (cells.set n c) (xs.set n y)
 |[],_,h,n=>by rw[show _=[]from h];exact rfl
 |x::xs,_,⟨c1,c2,e,h1,h2⟩,n=>by
  have hl:c1.length=1:=El.len (α:=Option Wy) h1;obtain⟨d,rfl⟩: ∃c,c1=[c]:=List.length_eq_one_iff.1 hl;subst e;cases n with
  |zero=>exact⟨[c],c2,rfl,hy,h2⟩
  |succ n=>exact⟨[d],c2.set n c,rfl,h1,cG.Bn hy h2 n⟩
def x5(ob N:Nat)(cells:List Value):cS:=.row 278 1 (.slice (some ⟨ob,0,none⟩) N N) N cells
structure rW(g:G)(ob N bo bb:Nat):Prop where
 JZ:EP g bo 0 [.slice (some ⟨ob,0,none⟩) N N]
 MB:EP g bb 0 [.func (.func 270) #[] #[]]
theorem rW.mono{g g':G}{ob N bo bb:Nat}(h:rW g ob N bo bb)(hle:g.le g'):rW g' ob N bo bb:=⟨h.JZ.mono hle,h.MB.mono hle⟩
theorem J0(ob N bo bb:Nat)(g0 g:G)(L:List cS)(i:Nat)(out:List (Option Wy))(cells:List Value)(wv sv:Value)(wy:Wy)(s:Step)
  (hs:St g0 g L) (hi:L[i]? =some (x5 ob N cells)) (d_:cG g cells out) (vp:rW g ob N bo bb) (hw:qH g wv wy) (Bk:fV g sv s)
  (hr: ∀m∈gA s,0≤m∧m<(N:Int)) (S4:out.length=N):
  CallsIn Wd 0 Tryz.prog 271 #[wv,sv,.pointer (some ⟨bo,0,none⟩),.pointer (some ⟨bb,0,none⟩)] g.w
   fun e w'=> ∃g' ef,g'.w=w'∧e= .returned (.tuple #[])∧St g0 g' (L.set i (x5 ob N ef))∧cG g' ef (fU wy out (gA s))∧g.le g':=by
 have MC:i<L.length:=(List.getElem?_eq_some_iff.1 hi).1;have aq:=G.le.refl g;have UO:=Bk;obtain⟨_,rfl,a1,n1,c1,a2,n2,c2,rfl,aH,aU⟩:=id Bk;obtain⟨_,rfl,a3,n3,c3,rfl,bS⟩:=id hw;refine pL Tryz.func271 rfl Tryz.ntmps271 rfl ?_;apply cM;refine ak rfl rfl (aO rfl hs rfl rfl ?_);clear hs;rintro bw g1 hs ah;obtain⟨aq,bS⟩:=cf ah aq bS;replace Bk:=Bk.mono ah;obtain⟨g2,bL,aT,ah,aL⟩:=hs.ba (i:=0) rfl;replace hs:=aT;clear aT;rw[←bL];obtain⟨aq,bS⟩:=cf ah aq bS;replace Bk:=Bk.mono ah;have cU:=aL;clear aL;skip;refine ak rfl rfl (aO rfl hs rfl rfl ?_);clear hs;rintro bs g1 hs ah;obtain⟨aq,cU,bS⟩:=dy ah aq cU bS;replace Bk:=Bk.mono ah;obtain⟨g2,bL,aT,ah,aL⟩:=hs.ba (i:=0) rfl;replace hs:=aT;clear aT;rw[←bL];obtain⟨aq,cU,bS⟩:=dy ah aq cU bS;replace Bk:=Bk.mono ah;have aR:=aL;clear aL;apply bW;refine dz 1 [.z aR] (St.start _) rfl ?_;refine ak rfl rfl (au Jr aJ rfl rfl rfl rfl rfl (Cw _ _ _ Bk) ?_);rintro g4 v ki ⟨jW,eI,rfl,fr,WH⟩;replace hs:=hs.call ki;have ah:=ki.le;obtain⟨aq,aR,cU,bS⟩:=eS ah aq aR cU bS;apply bW;apply aG;have S5:rW _ ob N bo bb:=(vp.mono aq)
 refine xB (N:=36) hs rfl fr WH rfl (fun _=>rfl)
  (fun pre L' g'=> ∃ef,L'=L.set i (x5 ob N ef)∧cG g' ef (fU wy out pre)) (fun _ _ _ _=>False)
  (fun _ _ _ _ hle ⟨ef,h1,h2⟩=>⟨ef,h1,h2.mono hle⟩) (fun _ _ _ _ _ _ h=>h) ⟨cells,(uE hi).symm,d_.mono aq⟩
  (fun x=>[(6,.int .i64 x),(4,.pointer (some ⟨bw,0,none⟩)),(2,.pointer (some ⟨bo,0,none⟩)),(3,.pointer (some ⟨bb,0,none⟩))]) ?_ ?_ ?_ ?_
 ·intro x ro w;apply aA;refine Wp 1 rfl ?_;apply aE;exact fun a ha=>⟨rfl,ha.keep (by(repeat (first|exact trivial|refine⟨rfl,?_⟩)))⟩
 ·rintro lp D ro pre x rest gr Lr jf hle hs ⟨ef,rfl,fm⟩;have cC:=G.le.refl gr;have PE:=S5.mono hle;obtain⟨cU,bS⟩:=cf hle cU bS;clear aR aH aU;have aC:=PE.JZ;have aR:=PE.MB;obtain⟨h3,h4⟩:=hr x (by rw[jf];simp);have zg:(fU wy out pre).length=N:=by rw[pR,S4]
  have lX:x.toNat<(fU wy out pre).length:=by omega
  have Cx:(cS.obj lp (ro LoopState.busy)::cS.obj D fK::L.set i (x5 ob N ef))[i+2]? =some (x5 ob N ef):=by simp[MC]
  obtain⟨c,Fz,vr⟩:=cG.opt fm x.toNat lX;have wA:=zt wy out pre x;unfold mK at wA;have K8:(fU wy out pre).getD x.toNat none=(fU wy out pre)[x.toNat]:=by rw[List.getD_eq_getElem?_getD,List.getElem?_eq_getElem lX];rfl
  rw[K8]at wA;apply aG;apply aD;cases hb:(fU wy out pre)[x.toNat]with
  |none=>
   rw[hb]at vr wA;obtain rfl:c= .pointer none:=by simpa using(show [c]=[Value.pointer none]from vr)
   rw[show better wy none=true from rfl,if_pos rfl]at wA;apply bP (F:={Wd with round:=some lp}) hs (eO (eO (fe []))) 17 [(16,26)] (by kernel_rfl) rfl
   ·refine Dm [[],[]] [.e aC 0] (St.start _) (by kernel_rfl) rfl ?_;refine ay (an (js:=[(0,10),(1,11)]) (by kernel_rfl) fun gd hf=>?_) ?_
    ·have eJ:=hs.dr.call hf;refine ai rfl ?_;refine ai rfl ?_;apply aj;refine aB rfl ?_;refine dC T.ok rfl (eJ.own (i+2) _ Cx).1 h3 (by omega) rfl rfl rfl rfl rfl rfl ?_;intro b p hh;obtain⟨rfl,rfl⟩:ob=b∧0=p:=by simpa using hh
     refine⟨_,rfl,a_.refl _,?_⟩;exact rfl
    refine ay (an (js:=[(2,12)]) (by kernel_rfl) fun gd hf=>?_) ?_
    ·have eJ:=hs.dr.call hf;refine ai rfl ?_;apply aj;refine aB rfl ?_;refine dL T.ok (x.toNat*1) rfl (eJ.own (i+2) _ Cx).1 rfl (v:=.pointer none) (by show ef[x.toNat*1]? =_;rw[Nat.mul_one];exact Fz) ?_;refine⟨_,rfl,a_.refl _,?_⟩;exact rfl
    refine ay (an (js:=[(3,13)]) (by kernel_rfl) fun gd hf=>?_) ?_
    ·skip;refine ai rfl ?_;apply aj;refine aB rfl ?_;refine dw T.ok (neg:=false) rfl rfl rfl rfl rfl ?_;refine⟨_,rfl,a_.refl _,?_⟩;exact rfl
    exact Dy [[4],[5],[5],[5],[5],[8,9,5],[10,5],[11,5],[12,5],[6,7,13,5,5],[14,5],[5,15]] (by kernel_rfl) rfl
   clear hs;intro g1 hs ah;obtain⟨cC,aC,aR,cU,bS⟩:=kO ah cC aC aR cU bS;replace fm:=fm.mono ah;apply bW;refine aM rfl rfl ?_;apply aA;refine Wm 6 [.z aC,.z cU,.z cU] (St.start _) rfl ?_;refine ak rfl rfl (aQ T.ok rfl (vs:=[(0,.int .i64 wy.time),(1,.slice a3 n3 c3)]) (cells:=[.int .i64 wy.time,.slice a3 n3 c3]) rfl rfl rfl rfl [(0,1),(1,1)] rfl (by kernel_rfl) ?_);skip;refine ak rfl rfl (aO rfl hs rfl rfl ?_);clear hs;rintro bn g1 hs ah;obtain⟨cC,aC,aR,cU,bS⟩:=kO ah cC aC aR cU bS;replace fm:=fm.mono ah;obtain⟨g2,bL,aT,ah,aL⟩:=hs.ba (i:=0) rfl;replace hs:=aT;clear aT;rw[←bL];obtain⟨cC,aC,aR,cU,bS⟩:=kO ah cC aC aR cU bS;replace fm:=fm.mono ah;skip;refine ak rfl rfl (dC T.ok rfl (hs.own (i+2) _ Cx).1 h3 (by omega) rfl rfl rfl rfl rfl rfl ?_);rintro b p hh;obtain⟨rfl,rfl⟩:ob=b∧0=p:=by simpa using hh
   have fr:=fm.len;have H_:El.k (Option Wy)=1:=rfl;rw[zg,H_]at fr;refine bA rfl (gT T.ok (i+2) (x.toNat*1) (us:=[.pointer (some ⟨bn,0,none⟩)]) rfl hs Cx rfl rfl rfl rfl rfl rfl (by simp) (by simp;omega) (xs':=ef.set x.toNat (.pointer (some ⟨bn,0,none⟩))) ?_ ?_)
   ·rw[Nat.mul_one];unfold lh;rw[List.set_eq_take_append_cons_drop,if_pos (by omega)];simp
   rintro g5 hs ah;obtain⟨cC,aC,aR,cU,bS⟩:=kO ah cC aC aR cU bS;replace fm:=fm.mono ah;replace aL:=aL.mono ah;apply aE;apply bR;refine fun a ha=>⟨_,_,rfl,hs,cC,⟨ef.set x.toNat (.pointer (some ⟨bn,0,none⟩)),by show(L.set i _).set i _=_;rw[List.set_set];rfl,?_⟩⟩
   rw[wA];exact cG.Bn (show El.rc (α:=Option Wy) _ _ (some wy)from⟨bn,_,rfl,aL,_,_,_,rfl,bS⟩) fm _
  |some Bo=>
   rw[hb]at vr wA;obtain⟨H',ys,K9,hold,Hk⟩:=(show ∃b ys,[c]=[Value.pointer (some ⟨b,0,none⟩)]∧EP gr b 0 ys∧Bm gr ys Bo from vr)
   obtain rfl:c= .pointer (some ⟨H',0,none⟩):=by simpa using K9
   have WI:=Hk;obtain⟨a7,n7,c7,rfl,eh⟩:=Hk;apply bP (F:={Wd with round:=some lp}) hs (eO (eO (fe []))) 17 [(16,26)] (by kernel_rfl) rfl
   ·refine Dm [[],[]] [.e aC 0] (St.start _) (by kernel_rfl) rfl ?_;refine ay (an (js:=[(0,10),(1,11)]) (by kernel_rfl) fun gd hf=>?_) ?_
    ·have eJ:=hs.dr.call hf;refine ai rfl ?_;refine ai rfl ?_;apply aj;refine aB rfl ?_;refine dC T.ok rfl (eJ.own (i+2) _ Cx).1 h3 (by omega) rfl rfl rfl rfl rfl rfl ?_;intro b p hh;obtain⟨rfl,rfl⟩:ob=b∧0=p:=by simpa using hh
     refine⟨_,rfl,a_.refl _,?_⟩;exact rfl
    refine ay (an (js:=[(2,12)]) (by kernel_rfl) fun gd hf=>?_) ?_
    ·have eJ:=hs.dr.call hf;refine ai rfl ?_;apply aj;refine aB rfl ?_;refine dL T.ok (x.toNat*1) rfl (eJ.own (i+2) _ Cx).1 rfl (v:=.pointer (some ⟨H',0,none⟩)) (by show ef[x.toNat*1]? =_;rw[Nat.mul_one];exact Fz) ?_;refine⟨_,rfl,a_.refl _,?_⟩;exact rfl
    refine ay (an (js:=[(3,13)]) (by kernel_rfl) fun gd hf=>?_) ?_
    ·skip;refine ai rfl ?_;apply aj;refine aB rfl ?_;refine dw T.ok (neg:=false) rfl rfl rfl rfl rfl ?_;refine⟨_,rfl,a_.refl _,?_⟩;exact rfl
    refine Dm [[4],[5],[5],[5],[5]] [.e aR 0,.e cU 0,.e aC 0] (St.start _) (by kernel_rfl) rfl ?_;refine ay (an (js:=[(8,18),(9,19),(5,15)]) (by kernel_rfl) fun gd hf=>?_) ?_
    ·have eJ:=hs.dr.call hf;refine ai rfl ?_;refine ai rfl ?_;refine ai rfl ?_;apply aj;refine aB rfl ?_;refine dC T.ok rfl (eJ.own (i+2) _ Cx).1 h3 (by omega) rfl rfl rfl rfl rfl rfl ?_;intro b p hh;obtain⟨rfl,rfl⟩:ob=b∧0=p:=by simpa using hh
     refine⟨_,rfl,a_.refl _,?_⟩;exact rfl
    refine ay (an (js:=[(10,20),(5,15)]) (by kernel_rfl) fun gd hf=>?_) ?_
    ·have eJ:=hs.dr.call hf;refine ai rfl ?_;refine ai rfl ?_;apply aj;refine aB rfl ?_;refine dL T.ok (x.toNat*1) rfl (eJ.own (i+2) _ Cx).1 rfl (v:=.pointer (some ⟨H',0,none⟩)) (by show ef[x.toNat*1]? =_;rw[Nat.mul_one];exact Fz) ?_;refine⟨_,rfl,a_.refl _,?_⟩;exact rfl
    refine Dx [[11,5]] (by kernel_rfl) rfl ?_;refine ay (an (js:=[(12,22),(5,15)]) (by kernel_rfl) fun gd hf=>?_) ?_
    ·have dG:=(G.bu _).trans hf.le;refine ai rfl ?_;refine ai rfl ?_;apply aj;refine aB rfl ?_;refine bJ T.ok 0 rfl (hold.mono dG) rfl rfl ?_;refine⟨_,rfl,a_.refl _,?_⟩;exact rfl
    refine ay (an (js:=[(6,16),(7,17),(13,23),(5,15),(5,15)]) (by kernel_rfl) fun gd hf=>?_) ?_
    ·have dG:=(G.bu _).trans hf.le;refine ai rfl ?_;refine ai rfl ?_;refine ai rfl ?_;refine ai rfl ?_;refine ai rfl ?_;apply aj;refine aB rfl ?_;refine au JG aJ rfl rfl rfl rfl rfl (Cv _ _ wy Bo _ ⟨_,rfl,_,_,_,rfl,bS.mono dG⟩ ⟨_,rfl,_,_,_,rfl,eh.mono dG⟩) fun g' v h1 h2=>⟨g',rfl,h1,?_⟩
     exact h2
    exact Dy [[14,5],[5,15]] (by kernel_rfl) rfl
   clear hs;intro g1 hs ah;obtain⟨cC,aC,cU,bS⟩:=eS ah cC aC cU bS;replace fm:=fm.mono ah;apply bW;by_cases Ia:order wy Bo<0
   ·refine aM (b:=decide (order wy Bo<0)) (by simp[Ia]) rfl ?_;rw[show better wy (some Bo)=true from by simp[better,Ia],if_pos rfl]at wA;apply aA;refine Wm 6 [.z aC,.z cU,.z cU] (St.start _) rfl ?_;refine ak rfl rfl (aQ T.ok rfl (vs:=[(0,.int .i64 wy.time),(1,.slice a3 n3 c3)]) (cells:=[.int .i64 wy.time,.slice a3 n3 c3]) rfl rfl rfl rfl [(0,1),(1,1)] rfl (by kernel_rfl) ?_);skip;refine ak rfl rfl (aO rfl hs rfl rfl ?_);clear hs;rintro bn g1 hs ah;obtain⟨cC,bS⟩:=cf ah cC bS;replace fm:=fm.mono ah;obtain⟨g2,bL,aT,ah,aL⟩:=hs.ba (i:=0) rfl;replace hs:=aT;clear aT;rw[←bL];obtain⟨cC,bS⟩:=cf ah cC bS;replace fm:=fm.mono ah;skip;refine ak rfl rfl (dC T.ok rfl (hs.own (i+2) _ Cx).1 h3 (by omega) rfl rfl rfl rfl rfl rfl ?_);rintro b p hh;obtain⟨rfl,rfl⟩:ob=b∧0=p:=by simpa using hh
    have fr:=fm.len;have H_:El.k (Option Wy)=1:=rfl;rw[zg,H_]at fr;refine bA rfl (gT T.ok (i+2) (x.toNat*1) (us:=[.pointer (some ⟨bn,0,none⟩)]) rfl hs Cx rfl rfl rfl rfl rfl rfl (by simp) (by simp;omega) (xs':=ef.set x.toNat (.pointer (some ⟨bn,0,none⟩))) ?_ ?_)
    ·rw[Nat.mul_one];unfold lh;rw[List.set_eq_take_append_cons_drop,if_pos (by omega)];simp
    rintro g5 hs ah;obtain⟨cC,bS⟩:=cf ah cC bS;replace fm:=fm.mono ah;replace aL:=aL.mono ah;apply aE;apply bR;refine fun a ha=>⟨_,_,rfl,hs,cC,⟨ef.set x.toNat (.pointer (some ⟨bn,0,none⟩)),by show(L.set i _).set i _=_;rw[List.set_set];rfl,?_⟩⟩
    rw[wA];exact cG.Bn (show El.rc (α:=Option Wy) _ _ (some wy)from⟨bn,_,rfl,aL,_,_,_,rfl,bS⟩) fm _
   refine aV (b:=decide (order wy Bo<0)) (by simp[Ia]) rfl ?_;rw[show better wy (some Bo)=false from by simp[better,Ia],if_neg (by simp)]at wA;apply aF;apply bR;exact fun a ha=>⟨_,_,rfl,hs,cC,⟨ef,rfl,by rw[wA];exact fm⟩⟩
 ·rintro lp D o Lr ge hle hs ⟨ef,rfl,fm⟩;apply bR;refine EN 1 rfl hs rfl (fun g' jo fw=>?_);exact⟨g',ef,rfl,rfl,jo.drop 0,fm.mono fw,(aq.trans hle).trans fw⟩
 rintro c lp D o pre Lr ge _ _ _ h;exact h.elim
end Go.Proofs.YtgehbndkogohpaaGreatDoor
namespace Go.Proofs.YtgehbndkogohpaaGreatDoor
def vy(p:Wy→Prop)(out:List (Option Wy)):Prop:=∀w,some w∈out→p w
theorem vy.add{p:Wy→Prop}{out:List (Option Wy)}(h:vy p out){w:Wy}(hw:p w)(n:Int):vy p (mK w out n):=by
 intro x hx;unfold mK at hx;split at hx
 ·rcases List.mem_or_eq_of_mem_set hx with h1|h1
  ·exact h x h1
  obtain rfl:=Option.some.inj h1;exact hw
 exact h x hx
theorem vy.fU{p:Wy→Prop}{w:Wy}(hw:p w)(l:List Int): ∀{out:List (Option Wy)},vy p out→vy p (fU w out l):=by
 induction l with
 |nil=>exact fun h=>h
 |cons n r ih=>intro out h;exact ih (h.add hw n)
def fJ(out:List (Option Wy))(done:List Bool)(k:Nat):Int:=(List.range k).foldl (nS out done) (-1)
theorem sx(out:List (Option Wy))(done:List Bool)(k:Nat):fJ out done (k+1)=nS out done (fJ out done k) k:=by unfold fJ;rw[List.range_succ,List.foldl_append];rfl
theorem wB(out:List (Option Wy))(done:List Bool)(k:Nat):fJ out done k= -1∨(0≤fJ out done k∧fJ out done k<k∧(∃w,out.getD (fJ out done k).toNat none=some w)∧done.getD (fJ out done k).toNat true=false):=by
 induction k with
 |zero=>exact .inl rfl
 |succ k ih=>
  rw[sx];unfold nS;cases ho:out.getD k none with
  |none=>
   simp only;rcases ih with h|⟨h1,h2,h3⟩
   ·exact .inl h
   exact .inr ⟨h1,by omega,h3⟩
  |some w=>
   simp only;have keep:fJ out done k= -1∨(0≤fJ out done k∧fJ out done k<(k+1:Nat)∧(∃w,out.getD (fJ out done k).toNat none=some w)∧done.getD (fJ out done k).toNat true=false):=by
    rcases ih with h|⟨h1,h2,h3⟩
    ·exact .inl h
    exact .inr ⟨h1,by omega,h3⟩
   cases hd:done.getD k true with
   |true=>simpa using keep
   |false=>
    have new:((k:Int)= -1∨(0≤(k:Int)∧(k:Int)<(k+1:Nat)∧(∃w,out.getD (k:Int).toNat none=some w)∧done.getD (k:Int).toNat true=false)):=.inr ⟨by omega,by omega,⟨w,by simpa using ho⟩,by simpa using hd⟩;simp only[Bool.false_eq_true,if_false];split
    ·exact new
    split
    ·exact new
    exact keep
end Go.Proofs.YtgehbndkogohpaaGreatDoor
