/- Parts of the proof, from: The walk through permit's next: which steps come next. -/
import Derived.Test.YtgehbndkogohpaaGreatDoorYk
import Derived.Test.YtgehbndkogohpaaGreatDoorYe
import Derived.ArgAppend
import Derived.Test.YtgehbndkogohpaaGreatDoorYc
import Derived.Test.YtgehbndkogohpaaGreatDoorYf
import Derived.Test.YtgehbndkogohpaaGreatDoorYg
namespace Go.Proofs.YtgehbndkogohpaaGreatDoor
open Go Go.K
set_option maxRecDepth 10000
attribute [local irreducible] W WL cD bc bK bd bg bh cq ck
set_option maxHeartbeats 1000000
theorem oO{ad:Option Addr}{n c:Nat}{zs:List Int}{g0 g:G}{L:List cS}(hs:St g0 g (.row 3 1 (.slice ad n c) n (eK zs)::L)):
  CallsIn Wd 0 Tryz.prog 36 #[.slice ad n c] g.w
   (ek g fun g' r=>r= .slice ad (Lib.compact zs).length c∧St g0 g' (.row 3 1 (.slice ad (Lib.compact zs).length c) (Lib.compact zs).length (eK (Lib.compact zs))::L)):=by
 have hr:=hs.own 0 _ rfl;by_cases h0:n=0
 ·subst h0;have hz:zs=[]:=by have:=hr.1.1;rw[me,Nat.zero_mul]at this;exact List.eq_nil_of_length_eq_zero this
  subst hz;refine callsIn_wide.2 ((Tryz.slices_Compact_int_empty ad c g.w).mono ?_);rintro e w' ⟨rfl,rfl⟩;exact⟨g,_,rfl,rfl,G.le.refl g,rfl,hs⟩
 obtain⟨bk,off,rfl⟩:=hr.1.pos h0;obtain⟨hH,A_,rfl,o7,sB⟩:=hr.1.Ft h0;unfold maxLen at sB;have fr:=Lib.compact_length_le zs;refine callsIn_wide.2 ((Tryz.slices_Compact_int bk off c zs g.w hH (by omega) o7).mono ?_);rintro e w' ⟨rfl,q,rfl⟩;obtain⟨g2,bL,aT,ah⟩:=hs.putRow (i:=0) (q:=q) (os:=#[]) (d:=Lib.compact zs++List.replicate (zs.length-(Lib.compact zs).length) 0) rfl h0 (by simp;omega);have uj:=aT.zx (i:=0) (a:=(Lib.compact zs).length) rfl fr;rw[if_neg (by omega),Option.map_some,Addr.add_lit,Nat.zero_mul,Nat.add_zero,Nat.sub_zero,Nat.sub_zero]at uj;refine⟨g2,_,bL,rfl,ah,rfl,?_⟩;have e:(eK (Lib.compact zs++List.replicate (zs.length-(Lib.compact zs).length) 0)).take ((Lib.compact zs).length*1)=eK (Lib.compact zs):=by unfold eK;rw[Nat.mul_one,List.map_append,show(Lib.compact zs).length=((Lib.compact zs).map (Value.int .i64)).length from by simp,List.take_left]
 rw[←e];exact uj
def vB(o:Option bQ)(h:List bH)(n:Int)(s:Step):List Int:=
 Lib.compact (if 0≤s.back∧Fs o h n<s.dI then jH (s.next++[s.back])else s.next)
def uk(o:Option bQ)(h:List bH):List Int:=
 if o.isSome=false then []else if h=[]then [0]else match jL o (h.getLast?.getD iy).step with
  |none=>[]
  |some s=>vB o h (h.getLast?.getD iy).step s
def QZ(o:Option bQ):Prop:=∀f,o=some f→ ∀s∈f.steps,s.next.length≤100000
theorem Fu(v:Value)(o:Option bQ)(h:List bH)(g:G)(kn:Hg g v o h)(hl:h.length≤1000000)(ho:QZ o):CallsIn Wd 0 Tryz.prog 38 #[v] g.w (cF g fun g' r=>Rs g' r (uk o h)):=by
 have hs:=St.start g;have aq:=G.le.refl g;have mg:=kn;obtain⟨_,rfl,a1,n1,c1,a2,n2,c2,a3,c3,rfl,aU,bS,cH⟩:=kn;refine enter Tryz.func38 rfl Tryz.ntmps38 rfl ?_;apply cM;refine ak rfl rfl (aO rfl hs rfl rfl ?_);clear hs;rintro b1 g1 hs ah;obtain⟨aq,cH⟩:=cf ah aq cH;obtain⟨g2,bL,aT,ah,aL⟩:=hs.ba (i:=0) rfl;replace hs:=aT;clear aT;rw[←bL];obtain⟨aq,cH⟩:=cf ah aq cH;have aC:=aL;clear aL;replace mg:=mg.mono aq;refine bj rfl ?_;apply aD;apply aG;refine l_ [.z aC] (St.start _) rfl ?_;unfold uk;cases Pf:o.isSome with
 |false=>
  rw[if_pos rfl];refine aM rfl rfl ?_;refine aY rfl ?_;exact aI (aX rfl rfl (hs.ret (Rs.nil _)))
 |true=>
  rw[if_neg (by simp)];rw[Pf]at aC mg;refine aV rfl rfl ?_;refine l_ [.z aC] (St.start _) rfl ?_;rcases List.eq_nil_or_concat h with rfl|⟨hi,x,rfl⟩
  ·rw[if_pos rfl];refine aM (b:=(([]:List bH).length:Int)==0) rfl rfl ?_;apply cM;refine ak rfl rfl (bD T.ok rfl hs (vs:=[(0,.int .i64 ((0:Int)))]) (cells:=[.int .i64 ((0:Int))]) rfl rfl rfl rfl rfl rfl (by decide) (by decide) (by kernel_rfl) rfl ?_);rintro bl gl hs ah;obtain⟨aC,cH⟩:=cf ah aC cH;obtain⟨gz,iQ,cP,jq,eh⟩:=hs.cK (α:=Int) (xs:=[(0:Int)]) (i:=0) rfl (cG.ints _ [(0:Int)]);clear ah;have ah:=jq;rw[←iQ];replace hs:=cP;clear cP;obtain⟨aC,cH⟩:=cf ah aC cH;refine bj rfl ?_;exact aI (aX rfl rfl (hs.ret eh))
  rw[List.concat_eq_append]at*;rw[if_neg (by simp),List.getLast?_concat];show W _ _ _ _ _ _ _ _;refine aV (b:=((hi++[x]).length:Int)==0) (by simp;omega) rfl ?_;have Ej:(hi++[x]).length=hi.length+1:=by simp
  have jG:dS (hi++[x]) (IntKind.i64.wrap (((hi++[x]).length:Nat)-1))=some x:=by rw[wr (by omega) (by omega),Ej,show((hi.length+1:Nat):Int)-1=(hi.length:Nat)from by omega];unfold dS;rw[if_neg (by omega)];simp
  apply aF;apply bR;apply ar;refine dz 6 [.z aC,.z aC] (St.start _) rfl ?_;refine ak rfl rfl (aW T.ok rfl cH (y:=x) jG rfl rfl rfl rfl rfl rfl ?_);rintro b9 q9 ys aL rfl;refine Wp 1 rfl ?_;refine Wm 1 [.e aL 13] (St.start _) rfl ?_;clear aL;refine bj rfl ?_;refine dz 2 [.z aC] (St.start _) rfl ?_;refine ak rfl rfl (au Ez aJ rfl rfl rfl rfl rfl (Fp _ o (hi++[x]) x.step _ mg) ?_);rintro g6 _ lz ⟨cs,rfl,dH⟩;replace hs:=hs.call lz;have ah:=lz.le;replace aC:=aC.mono ah;replace mg:=mg.mono ah;show WL _ _ _ _ _ _ _ _ _;simp only[Option.getD_some];cases SY:jL o x.step with
  |none=>
   rw[SY]at dH;obtain⟨a7,n7,c7,a8,n8,c8,rfl,eh,ku⟩:=dH;refine Wp 3 rfl ?_;refine ak rfl rfl (aK T.ok rfl hs rfl rfl ?_);clear hs;rintro b4 g1 hs ah;obtain⟨aC,eh,ku⟩:=dy ah aC eh ku;skip;refine bA rfl (az T.ok 0 rfl hs rfl rfl rfl rfl rfl rfl rfl rfl rfl ?_);replace hs:=hs;rintro g1 hs ah;obtain⟨aC,eh,ku⟩:=dy ah aC eh ku;refine bj rfl ?_;apply aD;refine aY rfl ?_;refine aM rfl rfl ?_;refine aY rfl ?_;exact aI (aX rfl rfl (hs.ret (Rs.nil _)))
  |some s=>
   rw[SY]at dH;replace dH:qD g6 cs s:=dH;obtain⟨a7,n7,c7,a8,n8,c8,rfl,eh,ku⟩:=dH;have HD:s.next.length≤100000:=by
    cases o with
    |none=>cases Pf
    |some f=>exact ho f rfl s (List.mem_of_getElem? (rR SY).2.2)
   refine Wp 3 rfl ?_;refine ak rfl rfl (aK T.ok rfl hs rfl rfl ?_);clear hs;rintro b4 g1 hs ah;obtain⟨aC,ku⟩:=cf ah aC ku;replace mg:=mg.mono ah;skip;refine bA rfl (az T.ok 0 rfl hs rfl rfl rfl rfl rfl rfl rfl rfl rfl ?_);replace hs:=hs;rintro g1 hs ah;obtain⟨aC,ku⟩:=cf ah aC ku;replace mg:=mg.mono ah;obtain⟨g2,bL,aT,ah,aL⟩:=hs.ba (i:=0) rfl;replace hs:=aT;clear aT;rw[←bL];obtain⟨aC,ku⟩:=cf ah aC ku;replace mg:=mg.mono ah;have aR:=aL;clear aL;refine bj rfl ?_;apply aD;refine aY rfl ?_;refine aV rfl rfl ?_;apply aF;apply ar;refine dz 2 [.z aR] (St.start _) rfl ?_;clear lz;refine ak rfl rfl (au B4 aJ rfl rfl rfl rfl rfl (tC _ s.next _ ku (by omega)) ?_);rintro g7 v7 AJ ⟨cells,hh,hr⟩;obtain rfl:cells=eK s.next:=cG.qF hr;obtain⟨a5,c5,rfl⟩:=hh.1.form;replace hs:=hs.ft AJ hh;have ah:=AJ.le;obtain⟨aC,aR⟩:=cf ah aC aR;replace mg:=mg.mono ah;clear hr hh AJ;replace hs:St g g7 [.row 3 1 (.slice a5 s.next.length c5) s.next.length (eK s.next)]:=hs;clear eh ku aU bS cH jG;refine bj rfl ?_;apply aD;apply aD;cases Cp:decide (0≤s.back)with
   |false=>
    have KV:vB o (hi++[x]) x.step s=Lib.compact s.next:=by unfold vB;rw[if_neg (fun e=>(of_decide_eq_false Cp) e.1)]
    apply bP hs (eQ (.e (.bool false)::eO [])) 11 [(10,47)] (by kernel_rfl) rfl
    ·refine Dm [[],[0]] [.z aR] hs (by kernel_rfl) rfl ?_;refine ay (an (js:=[(1,38)]) (by kernel_rfl) fun gd hf=>ai rfl (aj (aB rfl (aN _ T.ok rfl ⟨gd,rfl,a_.refl _,congrArg Value.bool Cp⟩)))) ?_;exact Dz [[2],[3],[3],[4,5,3,3],[3],[7,3],[6,8,3],[3,9]] [] hs (by kernel_rfl) rfl
    clear hs;intro g8 hs ah;obtain⟨aC,aR⟩:=cf ah aC aR;apply bW;refine aV rfl rfl ?_;apply aF;apply ar;refine cN 1 rfl ?_;refine ak rfl rfl (du Hv aJ rfl rfl rfl rfl rfl (oO (zs:=s.next) hs) ?_)
    (repeat clear hs)
    rintro g12 _ ah ⟨rfl,hs⟩;obtain⟨aC,aR⟩:=cf ah aC aR;obtain⟨g13,um,uo,ah,rM⟩:=hs.cK (α:=Int) (i:=0) rfl (cG.ints _ _);rw[←um];(repeat clear hs);have hs:=uo;clear uo;obtain⟨aC,aR⟩:=cf ah aC aR;clear um;refine bj rfl ?_;exact aI (aX rfl rfl (hs.ret (show Rs _ _ (vB o (hi++[x]) x.step s)from by rw[KV];exact rM)))
   |true=>
    apply bP hs (eQ (.e (.bool true)::eO [])) 11 [(10,47)] (by kernel_rfl) rfl
    ·refine Dm [[],[0]] [.z aR] hs (by kernel_rfl) rfl ?_;refine ay (an (js:=[(1,38)]) (by kernel_rfl) fun gd hf=>ai rfl (aj (aB rfl (aN _ T.ok rfl ⟨gd,rfl,a_.refl _,congrArg Value.bool Cp⟩)))) ?_;exact Dz [[2],[3],[3],[4,5,3,3],[3],[7,3],[6,8,3],[3,9]] [.z aC,.c Nb fun g' h=>Pe _ o (hi++[x]) x.step g' (mg.mono h) hl,.z aR] hs (by kernel_rfl) rfl
    clear hs;intro g8 hs ah;replace aR:=aR.mono ah;apply bW;cases Cq:decide (Fs o (hi++[x]) x.step<s.dI)with
    |false=>
     have KV:vB o (hi++[x]) x.step s=Lib.compact s.next:=by unfold vB;rw[if_neg (fun e=>(of_decide_eq_false Cq) e.2)]
     refine aV rfl rfl ?_;apply aF;apply ar;refine cN 1 rfl ?_;refine ak rfl rfl (du Hv aJ rfl rfl rfl rfl rfl (oO (zs:=s.next) hs) ?_)
     (repeat clear hs)
     rintro g12 _ ah ⟨rfl,hs⟩;replace aR:=aR.mono ah;obtain⟨g13,um,uo,ah,rM⟩:=hs.cK (α:=Int) (i:=0) rfl (cG.ints _ _);rw[←um];(repeat clear hs);have hs:=uo;clear uo;replace aR:=aR.mono ah;clear um;refine bj rfl ?_;exact aI (aX rfl rfl (hs.ret (show Rs _ _ (vB o (hi++[x]) x.step s)from by rw[KV];exact rM)))
    |true=>
     have KV:vB o (hi++[x]) x.step s=Lib.compact (jH (s.next++[s.back])):=by unfold vB;rw[if_pos ⟨of_decide_eq_true Cp,of_decide_eq_true Cq⟩]
     refine aM rfl rfl ?_;refine dz 3 [.z aR] (St.start _) rfl ?_;refine ak rfl rfl (bD T.ok rfl hs (vs:=[(0,.int .i64 s.back)]) (cells:=[.int .i64 s.back]) rfl rfl rfl rfl rfl rfl (by decide) (by decide) (by kernel_rfl) rfl ?_);rintro b6 g9 hs ah;skip;refine ak rfl rfl (cd T.ok 1 rfl hs rfl rfl rfl rfl rfl rfl rfl (by decide) rfl (Src.fL (hs.own 0 _ rfl).1).2 (by simp[Value.oneCell']) (by show(s.next.length+1)*8≤_;omega) (by unfold maxLen;omega) ?_);rintro a6 c6 g10 hs ah;replace hs:St g g10 [.row 3 1 (.slice a6 (s.next.length+1) c6) (s.next.length+1) (eK (s.next++[s.back]))]:=by
      have:=hs.drop 0;have e:eK (s.next++[s.back])=eK s.next++[.int .i64 s.back]:=by simp[eK]
      rw[e];exact this
     refine bj rfl ?_;apply aA;refine Wp 1 rfl ?_;refine ak rfl rfl (du Kw aJ rfl rfl rfl rfl rfl (Ba (zs:=s.next++[s.back]) (by simp;omega) hs) ?_)
     (repeat clear hs)
     rintro g11 _ ah ⟨rfl,hs⟩;apply bW;refine cN 1 rfl ?_;refine ak rfl rfl (du Hv aJ rfl rfl rfl rfl rfl (oO (zs:=jH (s.next++[s.back])) hs) ?_)
     (repeat clear hs)
     rintro g12 _ ah ⟨rfl,hs⟩;obtain⟨g13,um,uo,ah,rM⟩:=hs.cK (α:=Int) (i:=0) rfl (cG.ints _ _);rw[←um];(repeat clear hs);have hs:=uo;clear uo;clear um;refine bj rfl ?_;exact aI (aX rfl rfl (hs.ret (show Rs _ _ (vB o (hi++[x]) x.step s)from by rw[KV];exact rM)))
end Go.Proofs.YtgehbndkogohpaaGreatDoor
namespace Go.Proofs.YtgehbndkogohpaaGreatDoor
open Go Go.K
set_option maxRecDepth 10000
attribute [local irreducible] W WL cD bc bK bd bg bh cq ck
set_option maxHeartbeats 1000000
theorem Pg(b5:Nat)(kc:List Value)(o:Option bQ)(h:List bH)(g:G)(aC:EP g b5 0 kc)(kn:Mz g kc o h):CallsIn Wd 0 Tryz.prog 185 #[.pointer (some ⟨b5,0,none⟩)] g.w (cF g fun _ r=>r= .bool (!o.isSome)):=by have hs:=St.start g;obtain⟨a1,n1,c1,a2,n2,c2,a3,c3,rfl,aU,bS,cH⟩:=kn;refine enter Tryz.func185 rfl Tryz.ntmps185 rfl ?_;refine aY rfl ?_;refine l_ [.z aC] (St.start _) rfl ?_;exact aI (aX rfl rfl (hs.ret rfl))
theorem Ph(b5 b4:Nat)(kc:List Value)(o:Option bQ)(h:List bH)(a:jJ)(g:G)(aC:EP g b5 0 kc)(aR:EP g b4 0 (vz a))(kn:Mz g kc o h)(hl:h.length≤1000000)(ho:QZ o):
  CallsIn Wd 0 Tryz.prog 186 #[.pointer (some ⟨b5,0,none⟩),.pointer (some ⟨b4,0,none⟩)] g.w (cF g fun _ r=>r= .bool (o.isSome&& !(uk o h).contains a.step)):=by
 have hs:=St.start g;have aq:=G.le.refl g;have mg:Hg g (.agg kc.toArray) o h:=⟨kc,rfl,kn⟩
 obtain⟨a1,n1,c1,a2,n2,c2,a3,c3,rfl,aU,bS,cH⟩:=kn;refine enter Tryz.func186 rfl Tryz.ntmps186 rfl ?_;refine aY rfl ?_;apply aD;cases Pf:o.isSome with
 |false=>
  rw[Pf]at aC mg;apply bP hs (eO (eQ [])) 10 [(9,12)] (by kernel_rfl) rfl
  ·exact Dz [[],[0],[1],[2],[3,2,2],[2],[5,2],[4,6,4,2],[7,2],[2,8]] [.z aC] hs (by kernel_rfl) rfl
  clear hs;intro g6 hs ah;obtain⟨aC,aR⟩:=cf ah aC aR;refine bj rfl ?_;exact aI (aX rfl rfl (hs.ret rfl))
 |true=>
  rw[Pf]at aC mg;apply bP hs (iY (.f (Fact.rs (uk o h))::iY (fe []))) 10 [(9,12)] (by kernel_rfl) rfl
  ·refine Dm [[],[0],[1],[2]] [.z aC,.z aC] hs (by kernel_rfl) rfl ?_;refine ay (an (js:=[(3,6),(2,5),(2,5)]) (by kernel_rfl) fun gd hf=>ai rfl (ai rfl (ai rfl (aj (aB rfl (au MY aJ rfl rfl rfl rfl rfl (Fu _ o h gd (mg.mono ((G.bu _).trans hf.le)) hl ho) fun g' v h1 h2=>⟨g',rfl,h1,h2⟩)))))) ?_;refine Dm [[2],[5,2]] [.z aR] hs (by kernel_rfl) rfl ?_;refine ay (an (js:=[(4,7),(6,9),(4,7),(2,5)]) (by kernel_rfl) fun gd hf=>aZ fun _ _=>ai rfl (aZ fun v4 h4=>ai rfl (aj (aB rfl (au EC aJ rfl rfl rfl rfl rfl (nW v4 (uk o h) a.step gd h4) fun g' v h1 h2=>⟨g',rfl,h1,h2⟩))))) ?_;exact Dz [[7,2],[2,8]] [] hs (by kernel_rfl) rfl
  clear hs;intro g6 hs ah;refine bj rfl ?_;exact aI (aX rfl rfl (hs.ret rfl))
theorem Pj(b8 b7 b4:Nat)(is:Bool)(cs:List Value)(s:Step)(a:jJ)(g:G)(aC:EP g b8 0 [.bool is])(aR:EP g b7 0 cs)(cU:EP g b4 0 (vz a))(dH:qD g cs s):
  CallsIn Wd 0 Tryz.prog 188 #[.pointer (some ⟨b8,0,none⟩),.pointer (some ⟨b7,0,none⟩),.pointer (some ⟨b4,0,none⟩)] g.w (cF g fun _ r=>r= .bool (is&& !s.dt.contains a.tool)):=by
 have hs:=St.start g;have aq:=G.le.refl g;obtain⟨a7,n7,c7,a8,n8,c8,rfl,eh,ku⟩:=dH;refine enter Tryz.func188 rfl Tryz.ntmps188 rfl ?_;cases is with
 |false=>
  refine aY rfl ?_;refine l_ [.z aC] (St.start _) rfl ?_;exact aI (aX rfl rfl (hs.ret rfl))
 |true=>
  refine aY rfl ?_;refine dz 6 [.z aC,.z aR,.z cU] (St.start _) rfl ?_;refine ak rfl rfl (au EC aJ rfl rfl rfl rfl rfl (nW _ s.dt a.tool _ eh) ?_);rintro g1 _ aP rfl;replace hs:=hs.call aP;have ah:=aP.le;refine bj rfl ?_;exact aI (aX rfl rfl (hs.ret rfl))
theorem Pk(b8 b7 b4:Nat)(is:Bool)(cs:List Value)(s:Step)(a:jJ)(g:G)(aC:EP g b8 0 [.bool is])(aR:EP g b7 0 cs)(cU:EP g b4 0 (vz a))(dH:qD g cs s):
  CallsIn Wd 0 Tryz.prog 189 #[.pointer (some ⟨b8,0,none⟩),.pointer (some ⟨b7,0,none⟩),.pointer (some ⟨b4,0,none⟩)] g.w (cF g fun _ r=>r= .bool (is&&s.cE !=a.rcp)):=by
 have hs:=St.start g;have aq:=G.le.refl g;obtain⟨a7,n7,c7,a8,n8,c8,rfl,eh,ku⟩:=dH;refine enter Tryz.func189 rfl Tryz.ntmps189 rfl ?_;cases is with
 |false=>
  refine aY rfl ?_;refine l_ [.z aC] (St.start _) rfl ?_;exact aI (aX rfl rfl (hs.ret rfl))
 |true=>
  refine aY rfl ?_;refine l_ [.z aC,.z aR,.z cU] (St.start _) rfl ?_;exact aI (aX rfl rfl (hs.ret rfl))
theorem Pm(b3 b4:Nat)(sl:Nat→Value)(b:gn)(a:jJ)(g:G)(aC:EP g b3 0 ((List.range 11).map sl))(aR:EP g b4 0 (vz a))(bV:mG g (.agg ((List.range 11).map sl).toArray) b):
  CallsIn Wd 0 Tryz.prog 190 #[.pointer (some ⟨b3,0,none⟩),.pointer (some ⟨b4,0,none⟩)] g.w (cF g fun _ r=>r= .bool (!b.nh.any (pd a.tool a.cham a.rcp a.rvn a.time))):=by
 have hs:=St.start g;have aq:=G.le.refl g;refine enter Tryz.func190 rfl Tryz.ntmps190 rfl ?_;refine aY rfl ?_;refine dz 11 [.z aC,.z aR,.z aR,.z aR,.z aR,.z aR] (St.start _) rfl ?_;refine ak rfl rfl (au NY aJ rfl rfl rfl rfl rfl (KR _ b a.tool a.cham a.rcp a.rvn a.time _ bV) ?_);rintro g1 _ aP rfl;replace hs:=hs.call aP;have ah:=aP.le;refine bj rfl ?_;exact aI (aX rfl rfl (hs.ret rfl))
theorem Pn(b3 b4:Nat)(sl:Nat→Value)(b:gn)(a:jJ)(g:G)(aC:EP g b3 0 ((List.range 11).map sl))(aR:EP g b4 0 (vz a))(bV:mG g (.agg ((List.range 11).map sl).toArray) b)(hb:Fc b):
  CallsIn Wd 0 Tryz.prog 192 #[.pointer (some ⟨b3,0,none⟩),.pointer (some ⟨b4,0,none⟩)] g.w (cF g fun _ r=>r= .bool (decide ((0:Int)<((mM b a).length:Nat)))):=by
 have hs:=St.start g;have aq:=G.le.refl g;refine enter Tryz.func192 rfl Tryz.ntmps192 rfl ?_;refine aY rfl ?_;refine dz 2 [.z aC,.z aR] (St.start _) rfl ?_;refine ak rfl rfl (au Ks aJ rfl rfl rfl rfl rfl (xM _ b a _ bV hb) ?_);rintro g1 _ aP hr;replace hs:=hs.call aP;have ah:=aP.le;obtain⟨a9,c9,rfl⟩:=hr.isSlice;refine bj rfl ?_;exact aI (aX rfl rfl (hs.ret rfl))
end Go.Proofs.YtgehbndkogohpaaGreatDoor
namespace Go.Proofs.YtgehbndkogohpaaGreatDoor
open Go Go.K
set_option maxRecDepth 10000
attribute [local irreducible] W WL cD bc bK bd bg bh cq ck
set_option maxHeartbeats 1000000
structure Q0 where
 num:Int
 fn:Value
 ok:Bool
instance:El Q0 where
 k:=2
 pos:=by omega
 rc g cs r:=cs=[.int .i64 r.num,r.fn]∧r.fn.oneCell'=true∧ ∀g',g.le g'→iE Tryz.prog r.fn [] g'.w (cF g' fun _ v=>v= .bool r.ok)
 len h:=by rw[h.1];rfl
 mono hle h:=⟨h.1,h.2.1,fun g' h'=>h.2.2 g' (hle.trans h')⟩
 one h:=by
  rw[h.1];intro c hc;rcases List.mem_cons.1 hc with rfl|hc
  ·rfl
  rw[List.mem_singleton.1 hc];exact h.2.1
def mO(l:List Q0):List Int:=(l.filter (·.ok)).map (·.num)
theorem Po(b9:Nat)(v:Value)(l:List Q0)(g:G)(Pp:EP g b9 0 [v])(KW:Rs g v l):
  tT Tryz.prog 193 #[.pointer (some ⟨b9,0,none⟩)] (fun n:Int=>[.int .i64 n]) (mO l) g:=by
 obtain⟨a,c,rfl⟩:=KW.isSlice;intro g1 hle yv J Jx hJ SE hy AX;have hlen:=KW.dJ;unfold maxLen at hlen;have aq:=G.le.refl g1;have aC:=Pp.mono hle;have JO:=KW.mono hle;refine enter Tryz.func193 rfl Tryz.ntmps193 rfl ?_;refine l_ [.z aC] (St.start _) rfl ?_;apply aG;refine bM (fun m a' w=> ∃(k:Nat) (g':G),w=g'.w∧G.le g1 g'∧k≤l.length∧m=l.length-k∧J (mO (l.take k)) g'∧
   Fr 22 [] [(0,yv),(1,.pointer (some ⟨b9,0,none⟩)),(5,.slice a l.length c),(6,.int .i64 (l.length:Nat)),(7,.int .i64 (k:Nat))] a') l.length
  (fun a' ha=>⟨0,g1,rfl,aq,Nat.zero_le _,rfl,AX,ha.keep (by(repeat (first|exact trivial|refine⟨rfl,?_⟩)))⟩) ?_
 clear aC aq;rintro m a' _ ⟨k,g',rfl,aq,hk,rfl,qu,eF⟩;have eh:=JO.mono aq;have hs:=St.start g';revert a';apply cI;refine aY rfl ?_;apply aD;by_cases bC:k<l.length
 ·refine aM (b:=decide ((k:Int)<(l.length:Int))) (by simp;omega) rfl ?_;have jG:=cZ (n:=((k:Nat):Int)) rfl bC;have rp:mO l=mO (l.take k)++(mO [l[k]]++mO (l.drop (k+1))):=by
   conv=>lhs;rw[←List.take_append_drop k l,List.drop_eq_getElem_cons bC]
   unfold mO;rw[List.filter_append,←List.singleton_append,List.filter_append,List.map_append,List.map_append]
  have fP:mO (l.take (k+1))=mO (l.take k)++mO [l[k]]:=by unfold mO;rw[List.take_succ_eq_append_getElem bC,List.filter_append,List.map_append]
  generalize l[k]=x at jG rp fP;apply aF;apply ar;apply aD;apply aG;apply cM;refine ak rfl rfl (aW T.ok rfl eh (y:=x) jG rfl rfl rfl rfl rfl rfl ?_);rintro bq pq ys aL ⟨rfl,nv,H0⟩;have aR:=aL;clear aL;refine Wm 1 [.e aR 0] (St.start _) rfl ?_;refine ak rfl rfl (aK T.ok rfl hs rfl rfl ?_);clear hs;rintro bx g1 hs ah;obtain⟨aq,aR⟩:=cf ah aq aR;skip;refine bA rfl (az T.ok 0 rfl hs rfl rfl rfl rfl rfl rfl (by show(true&&(x.fn.oneCell'&&true))=true;rw[nv];rfl) rfl rfl ?_);replace hs:=hs;rintro g2 hs ah;obtain⟨aq,aR⟩:=cf ah aq aR;obtain⟨g2,bL,aT,ah,aL⟩:=hs.ba (i:=0) rfl;replace hs:=aT;clear aT;rw[←bL];obtain⟨aq,aR⟩:=cf ah aq aR
  (repeat clear aR)
  have aR:=aL;clear aL;apply bW;refine dz 2 [.z aR] (St.start _) rfl ?_;refine ak rfl rfl (eE rfl rfl rfl rfl rfl rfl (H0 _ ((G.le.refl g').trans hs.le)) ?_);rintro g4 _ ki rfl;replace hs:=hs.call ki;have ah:=ki.le;obtain⟨aq,aR⟩:=cf ah aq aR;cases lT:x.ok with
  |false=>
   have e:mO [x]=[]:=by unfold mO;rw[List.filter_cons,lT];rfl
   rw[e,List.append_nil]at fP;refine bj rfl ?_;refine aV rfl rfl ?_;apply aF;apply bR;apply ar;apply aA;refine Wp 2 rfl ?_;apply aE;exact fun a ha=>⟨l.length-(k+1),by omega,k+1,_,rfl,aq,by omega,rfl,by rw[fP];exact hJ _ _ _ hs.nC qu,ha.keep ⟨rfl,rfl,rfl,rfl,kI rfl (by rw[wr (by omega) (by omega)];omega),trivial⟩⟩
  |true=>
   have e:mO [x]=[x.num]:=by unfold mO;rw[List.filter_cons,lT];rfl
   rw[e]at fP rp;refine Wm 4 [.z aR] (St.start _) rfl ?_;have He:=hJ _ _ _ hs.nC qu;refine ak rfl rfl (eo rfl rfl rfl rfl rfl rfl ((hy _ x.num _ _ rp aq He).mono ?_));rintro _ _ ⟨g5,bv,rfl,rfl,ah,ht,hf⟩;refine⟨_,rfl,?_⟩
   (repeat clear hs)
   replace aq:=G.le.trans aq ah;cases bv with
   |false=>
    refine bj rfl ?_;refine aM rfl rfl ?_;skip;refine aI ?_;apply hQ;apply eD;apply eD;apply hQ;refine s3 rfl ?_;exact⟨g5,_,rfl,rfl,aq,.inr ⟨_,⟨mO (l.drop (k+1)),by rw[List.append_assoc];exact rp.symm⟩,hf rfl⟩⟩
   |true=>
    refine bj rfl ?_;refine aV rfl rfl ?_;apply aF;apply bR;apply ar;apply aA;refine Wp 2 rfl ?_;apply aE;exact fun a ha=>⟨l.length-(k+1),by omega,k+1,_,rfl,aq,by omega,rfl,by rw[fP];exact ht rfl,ha.keep ⟨rfl,rfl,rfl,rfl,kI rfl (by rw[wr (by omega) (by omega)];omega),trivial⟩⟩
 refine aV (b:=decide ((k:Int)<(l.length:Int))) (by simp;omega) rfl ?_;apply bF;apply bG;apply bG;apply c_;refine kD rfl ⟨g',_,rfl,rfl,aq,.inl ?_⟩;rw[List.take_of_length_le (by omega)]at qu;exact qu
def Dq(b:gn)(a:jJ)(o:Option bQ)(h:List bH):List Bool:=
 [!o.isSome,o.isSome&& !(uk o h).contains a.step,(jL o a.step).isSome&& !((jL o a.step).getD lB).dt.contains a.tool,(jL o a.step).isSome&&((jL o a.step).getD lB).cE !=a.rcp,
  !b.nh.any (pd a.tool a.cham a.rcp a.rvn a.time),decide ((0:Int)<((mM b a).length:Nat))]
def Dr(l:List Bool):List Int:=(([1,2,4,8,16,32]:List Int).zip l).filterMap fun p=>if p.2 then some p.1 else none
theorem KX(f1 f2 f3 f4 f5 f6:Value)(c1 c2 c3 c4 c5 c6:Bool):mO [⟨1,f1,c1⟩,⟨2,f2,c2⟩,⟨4,f3,c3⟩,⟨8,f4,c4⟩,⟨16,f5,c5⟩,⟨32,f6,c6⟩]=Dr [c1,c2,c3,c4,c5,c6]:=by cases c1<;>cases c2<;>cases c3<;>cases c4<;>cases c5<;>cases c6<;>rfl
theorem Ds(v u:Value)(b:gn)(a:jJ)(o:Option bQ)(h:List bH)(g:G)(bV:mG g v b)(kn:Hg g u o h)(hb:Fc b)(hl:h.length≤1000000)(ho:QZ o):CallsIn Wd 0 Tryz.prog 95 #[v,HR a,u] g.w (cF g fun g' r=> ∃b9 sv l,r= .func (.func 193) #[] #[.pointer (some ⟨b9,0,none⟩)]∧EP g' b9 0 [sv]∧Rs g' sv l∧mO l=Dr (Dq b a o h)∧l.length=6):=by
 have hs:=St.start g;have aq:=G.le.refl g;obtain⟨sl,rfl,kx⟩:=bV;have bV:mG g (.agg ((List.range 11).map sl).toArray) b:=⟨sl,rfl,kx⟩
 obtain⟨kc,rfl,kn⟩:=kn;have mg:=kn;obtain⟨a1,n1,c1,a2,n2,c2,a3,c3,rfl,aU,bS,cH⟩:=kn;refine enter Tryz.func95 rfl Tryz.ntmps95 rfl ?_;apply cM;refine ak rfl rfl (aO rfl hs rfl rfl ?_);clear hs;rintro b3 g1 hs ah;obtain⟨aq,bV⟩:=cf ah aq bV;obtain⟨g2,bL,aT,ah,aL⟩:=hs.ba (i:=0) rfl;replace hs:=aT;clear aT;rw[←bL];obtain⟨aq,bV⟩:=cf ah aq bV;have df:=aL;clear aL;skip;refine ak rfl rfl (aO rfl hs rfl rfl ?_);clear hs;rintro b4 g1 hs ah;obtain⟨aq,df,bV⟩:=dy ah aq df bV;obtain⟨g2,bL,aT,ah,aL⟩:=hs.ba (i:=0) rfl;replace hs:=aT;clear aT;rw[←bL];obtain⟨aq,df,bV⟩:=dy ah aq df bV;have aR:=aL;clear aL;skip;refine ak rfl rfl (aO rfl hs rfl rfl ?_);clear hs;rintro b5 g1 hs ah;obtain⟨aq,aR,df,bV⟩:=eS ah aq aR df bV;obtain⟨g2,bL,aT,ah,aL⟩:=hs.ba (i:=0) rfl;replace hs:=aT;clear aT;rw[←bL];obtain⟨aq,aR,df,bV⟩:=eS ah aq aR df bV;have cU:=aL;clear aL;replace mg:=mg.mono aq;refine bj rfl ?_;refine dz 3 [.z cU,.z aR] (St.start _) rfl ?_;refine ak rfl rfl (au Ez aJ rfl rfl rfl rfl rfl (Fp _ o h a.step _ ⟨_,rfl,mg⟩) ?_);rintro g6 _ lz ⟨cs,rfl,dH⟩;replace hs:=hs.call lz;have ah:=lz.le;obtain⟨aR,cU,df,bV⟩:=eS ah aR cU df bV;replace mg:=mg.mono ah;unfold Dq;generalize(jL o a.step).isSome=is at*;generalize(jL o a.step).getD lB=s at*;obtain⟨a7,n7,c7,a8,n8,c8,rfl,eh,ku⟩:=dH;clear aU bS cH lz;refine Wp 3 rfl ?_;refine ak rfl rfl (aK T.ok rfl hs rfl rfl ?_);clear hs;rintro b7 g1 hs ah;obtain⟨aR,cU,eh,ku,df,bV⟩:=lR ah aR cU eh ku df bV;replace mg:=mg.mono ah;refine ak rfl rfl (aK T.ok rfl hs rfl rfl ?_);clear hs;rintro b8 g1 hs ah;obtain⟨aR,cU,eh,ku,df,bV⟩:=lR ah aR cU eh ku df bV;replace mg:=mg.mono ah;refine bA rfl (az T.ok 1 rfl hs rfl rfl rfl rfl rfl rfl rfl rfl rfl ?_);replace hs:=hs;rintro g1 hs ah;obtain⟨aR,cU,eh,ku,df,bV⟩:=lR ah aR cU eh ku df bV;replace mg:=mg.mono ah;refine bA rfl (az T.ok 0 rfl hs rfl rfl rfl rfl rfl rfl rfl rfl rfl ?_);replace hs:=hs;rintro g1 hs ah;obtain⟨aR,cU,eh,ku,df,bV⟩:=lR ah aR cU eh ku df bV;replace mg:=mg.mono ah;obtain⟨g2,bL,aT,ah,aL⟩:=hs.ba (i:=0) rfl;replace hs:=aT;clear aT;rw[←bL];obtain⟨aR,cU,eh,ku,df,bV⟩:=lR ah aR cU eh ku df bV;have MA:=aL;clear aL;replace mg:=mg.mono ah;obtain⟨g2,bL,aT,ah,aL⟩:=hs.ba (i:=0) rfl;replace hs:=aT;clear aT;rw[←bL];obtain⟨aR,cU,eh,ku,df,MA⟩:=lR ah aR cU eh ku df MA;replace bV:=bV.mono ah;have Q1:=aL;clear aL;replace mg:=mg.mono ah;apply bW;refine cN 1 rfl ?_;refine ak rfl rfl (aQ T.ok rfl (vs:=[(0,.int .i64 1),(1,(.func (.func 185) #[] #[.pointer (some ⟨b5,0,none⟩)]))]) (cells:=[.int .i64 1,(.func (.func 185) #[] #[.pointer (some ⟨b5,0,none⟩)])]) rfl rfl rfl rfl [(0,1),(1,1)] rfl (by kernel_rfl) ?_);refine Wp 1 rfl ?_;refine ak rfl rfl (aQ T.ok rfl (vs:=[(0,.int .i64 2),(1,(.func (.func 186) #[] #[.pointer (some ⟨b5,0,none⟩),.pointer (some ⟨b4,0,none⟩)]))]) (cells:=[.int .i64 2,(.func (.func 186) #[] #[.pointer (some ⟨b5,0,none⟩),.pointer (some ⟨b4,0,none⟩)])]) rfl rfl rfl rfl [(0,1),(1,1)] rfl (by kernel_rfl) ?_);refine Wp 1 rfl ?_;refine ak rfl rfl (aQ T.ok rfl (vs:=[(0,.int .i64 4),(1,(.func (.func 188) #[] #[.pointer (some ⟨b8,0,none⟩),.pointer (some ⟨b7,0,none⟩),.pointer (some ⟨b4,0,none⟩)]))]) (cells:=[.int .i64 4,(.func (.func 188) #[] #[.pointer (some ⟨b8,0,none⟩),.pointer (some ⟨b7,0,none⟩),.pointer (some ⟨b4,0,none⟩)])]) rfl rfl rfl rfl [(0,1),(1,1)] rfl (by kernel_rfl) ?_);refine Wp 1 rfl ?_;refine ak rfl rfl (aQ T.ok rfl (vs:=[(0,.int .i64 8),(1,(.func (.func 189) #[] #[.pointer (some ⟨b8,0,none⟩),.pointer (some ⟨b7,0,none⟩),.pointer (some ⟨b4,0,none⟩)]))]) (cells:=[.int .i64 8,(.func (.func 189) #[] #[.pointer (some ⟨b8,0,none⟩),.pointer (some ⟨b7,0,none⟩),.pointer (some ⟨b4,0,none⟩)])]) rfl rfl rfl rfl [(0,1),(1,1)] rfl (by kernel_rfl) ?_);refine Wp 1 rfl ?_;refine ak rfl rfl (aQ T.ok rfl (vs:=[(0,.int .i64 16),(1,(.func (.func 190) #[] #[.pointer (some ⟨b3,0,none⟩),.pointer (some ⟨b4,0,none⟩)]))]) (cells:=[.int .i64 16,(.func (.func 190) #[] #[.pointer (some ⟨b3,0,none⟩),.pointer (some ⟨b4,0,none⟩)])]) rfl rfl rfl rfl [(0,1),(1,1)] rfl (by kernel_rfl) ?_);refine Wp 1 rfl ?_;refine ak rfl rfl (aQ T.ok rfl (vs:=[(0,.int .i64 32),(1,(.func (.func 192) #[] #[.pointer (some ⟨b3,0,none⟩),.pointer (some ⟨b4,0,none⟩)]))]) (cells:=[.int .i64 32,(.func (.func 192) #[] #[.pointer (some ⟨b3,0,none⟩),.pointer (some ⟨b4,0,none⟩)])]) rfl rfl rfl rfl [(0,1),(1,1)] rfl (by kernel_rfl) ?_);skip;refine ak rfl rfl (bD T.ok rfl hs (vs:=[(0,.agg #[.int .i64 1,(.func (.func 185) #[] #[.pointer (some ⟨b5,0,none⟩)])]),(1,.agg #[.int .i64 2,(.func (.func 186) #[] #[.pointer (some ⟨b5,0,none⟩),.pointer (some ⟨b4,0,none⟩)])]),(2,.agg #[.int .i64 4,(.func (.func 188) #[] #[.pointer (some ⟨b8,0,none⟩),.pointer (some ⟨b7,0,none⟩),.pointer (some ⟨b4,0,none⟩)])]),(3,.agg #[.int .i64 8,(.func (.func 189) #[] #[.pointer (some ⟨b8,0,none⟩),.pointer (some ⟨b7,0,none⟩),.pointer (some ⟨b4,0,none⟩)])]),(4,.agg #[.int .i64 16,(.func (.func 190) #[] #[.pointer (some ⟨b3,0,none⟩),.pointer (some ⟨b4,0,none⟩)])]),(5,.agg #[.int .i64 32,(.func (.func 192) #[] #[.pointer (some ⟨b3,0,none⟩),.pointer (some ⟨b4,0,none⟩)])])]) (cells:=[.int .i64 1,(.func (.func 185) #[] #[.pointer (some ⟨b5,0,none⟩)]),.int .i64 2,(.func (.func 186) #[] #[.pointer (some ⟨b5,0,none⟩),.pointer (some ⟨b4,0,none⟩)]),.int .i64 4,(.func (.func 188) #[] #[.pointer (some ⟨b8,0,none⟩),.pointer (some ⟨b7,0,none⟩),.pointer (some ⟨b4,0,none⟩)]),.int .i64 8,(.func (.func 189) #[] #[.pointer (some ⟨b8,0,none⟩),.pointer (some ⟨b7,0,none⟩),.pointer (some ⟨b4,0,none⟩)]),.int .i64 16,(.func (.func 190) #[] #[.pointer (some ⟨b3,0,none⟩),.pointer (some ⟨b4,0,none⟩)]),.int .i64 32,(.func (.func 192) #[] #[.pointer (some ⟨b3,0,none⟩),.pointer (some ⟨b4,0,none⟩)])]) rfl rfl rfl rfl rfl rfl (by decide) (by decide) (by kernel_rfl) rfl ?_);clear hs;rintro bl gl hs ah;obtain⟨aR,cU,eh,ku,df,MA⟩:=lR ah aR cU eh ku df MA;obtain⟨Q1,bV⟩:=cf ah Q1 bV;replace mg:=mg.mono ah;obtain⟨gz,iQ,cP,ah,Dt⟩:=hs.cK (α:=Q0) (xs:=[⟨1,(.func (.func 185) #[] #[.pointer (some ⟨b5,0,none⟩)]),(!o.isSome)⟩,⟨2,(.func (.func 186) #[] #[.pointer (some ⟨b5,0,none⟩),.pointer (some ⟨b4,0,none⟩)]),(o.isSome&& !(uk o h).contains a.step)⟩,⟨4,(.func (.func 188) #[] #[.pointer (some ⟨b8,0,none⟩),.pointer (some ⟨b7,0,none⟩),.pointer (some ⟨b4,0,none⟩)]),(is&& !s.dt.contains a.tool)⟩,⟨8,(.func (.func 189) #[] #[.pointer (some ⟨b8,0,none⟩),.pointer (some ⟨b7,0,none⟩),.pointer (some ⟨b4,0,none⟩)]),(is&&s.cE !=a.rcp)⟩,⟨16,(.func (.func 190) #[] #[.pointer (some ⟨b3,0,none⟩),.pointer (some ⟨b4,0,none⟩)]),(!b.nh.any (pd a.tool a.cham a.rcp a.rvn a.time))⟩,⟨32,(.func (.func 192) #[] #[.pointer (some ⟨b3,0,none⟩),.pointer (some ⟨b4,0,none⟩)]),(decide ((0:Int)<((mM b a).length:Nat)))⟩]) (i:=0) rfl (⟨[.int .i64 1,(.func (.func 185) #[] #[.pointer (some ⟨b5,0,none⟩)])],_,rfl,⟨rfl,rfl,fun g' h'=>cW (first:=#[]) (args:=[]) (captured:=#[.pointer (some ⟨b5,0,none⟩)]) NT rfl (Pg b5 _ o h g' (cU.mono h') (mg.mono h'))⟩,⟨[.int .i64 2,(.func (.func 186) #[] #[.pointer (some ⟨b5,0,none⟩),.pointer (some ⟨b4,0,none⟩)])],_,rfl,⟨rfl,rfl,fun g' h'=>cW (first:=#[]) (args:=[]) (captured:=#[.pointer (some ⟨b5,0,none⟩),.pointer (some ⟨b4,0,none⟩)]) NU rfl (Ph b5 b4 _ o h a g' (cU.mono h') (aR.mono h') (mg.mono h') hl ho)⟩,⟨[.int .i64 4,(.func (.func 188) #[] #[.pointer (some ⟨b8,0,none⟩),.pointer (some ⟨b7,0,none⟩),.pointer (some ⟨b4,0,none⟩)])],_,rfl,⟨rfl,rfl,fun g' h'=>cW (first:=#[]) (args:=[]) (captured:=#[.pointer (some ⟨b8,0,none⟩),.pointer (some ⟨b7,0,none⟩),.pointer (some ⟨b4,0,none⟩)]) NV rfl (Pj b8 b7 b4 is _ s a g' (MA.mono h') (Q1.mono h') (aR.mono h') ⟨a7,n7,c7,a8,n8,c8,rfl,eh.mono h',ku.mono h'⟩)⟩,⟨[.int .i64 8,(.func (.func 189) #[] #[.pointer (some ⟨b8,0,none⟩),.pointer (some ⟨b7,0,none⟩),.pointer (some ⟨b4,0,none⟩)])],_,rfl,⟨rfl,rfl,fun g' h'=>cW (first:=#[]) (args:=[]) (captured:=#[.pointer (some ⟨b8,0,none⟩),.pointer (some ⟨b7,0,none⟩),.pointer (some ⟨b4,0,none⟩)]) NW rfl (Pk b8 b7 b4 is _ s a g' (MA.mono h') (Q1.mono h') (aR.mono h') ⟨a7,n7,c7,a8,n8,c8,rfl,eh.mono h',ku.mono h'⟩)⟩,⟨[.int .i64 16,(.func (.func 190) #[] #[.pointer (some ⟨b3,0,none⟩),.pointer (some ⟨b4,0,none⟩)])],_,rfl,⟨rfl,rfl,fun g' h'=>cW (first:=#[]) (args:=[]) (captured:=#[.pointer (some ⟨b3,0,none⟩),.pointer (some ⟨b4,0,none⟩)]) NX rfl (Pm b3 b4 sl b a g' (df.mono h') (aR.mono h') (bV.mono h'))⟩,⟨[.int .i64 32,(.func (.func 192) #[] #[.pointer (some ⟨b3,0,none⟩),.pointer (some ⟨b4,0,none⟩)])],_,rfl,⟨rfl,rfl,fun g' h'=>cW (first:=#[]) (args:=[]) (captured:=#[.pointer (some ⟨b3,0,none⟩),.pointer (some ⟨b4,0,none⟩)]) NZ rfl (Pn b3 b4 sl b a g' (df.mono h') (aR.mono h') (bV.mono h') hb)⟩,rfl⟩⟩⟩⟩⟩⟩);rw[←iQ];clear hs;replace hs:=cP;clear cP;skip;refine ak rfl rfl (aK T.ok rfl hs rfl rfl ?_);clear hs;rintro b9 g1 hs ah;skip;replace Dt:=Dt.mono ah;refine bA rfl (az T.ok 0 rfl hs rfl rfl rfl rfl rfl rfl rfl rfl rfl ?_);replace hs:=hs;rintro g1 hs ah;skip;replace Dt:=Dt.mono ah;obtain⟨g2,bL,aT,ah,aL⟩:=hs.ba (i:=0) rfl;replace hs:=aT;clear aT;rw[←bL];skip;replace Dt:=Dt.mono ah;apply bW;refine aY rfl ?_;exact aI (aX rfl rfl (hs.ret ⟨b9,_,_,rfl,aL,Dt,KX _ _ _ _ _ _ _ _ _ _ _ _,rfl⟩))
end Go.Proofs.YtgehbndkogohpaaGreatDoor
namespace Go.Proofs.YtgehbndkogohpaaGreatDoor
open Go Go.K
set_option maxRecDepth 10000
attribute [local irreducible] W WL cD bc bK bd bg bh cq ck
set_option maxHeartbeats 1000000
def Du(l:List Int):Int:=l.foldl (fun s n=>IntKind.i64.wrap (s+n)) 0
def UK(o:Option bQ)(h:List bH):Fact:=⟨fun v g=>Hg g v o h,fun _ _ _ hf k=>k.mono hf.le⟩
def Wv(xs:List Int):Fact:=⟨fun v g=> ∃b9 sv l,v= .func (.func 193) #[] #[.pointer (some ⟨b9,0,none⟩)]∧EP g b9 0 [sv]∧Rs g sv l∧mO l=xs∧l.length=6,
 fun _ _ _ hf ⟨b9,sv,l,e,h1,h2,h3⟩=>⟨b9,sv,l,e,h1.mono hf.le,h2.mono hf.le,h3⟩⟩
def qG(b:gn)(a:jJ)(h:List bH):Int:=Du (Dr (Dq b a (ja b a.waf a.time) h))
structure KY(b:gn):Prop where
 size:Fc b
 text:UH b
theorem zy{s:List UInt8}{f:bQ}(h:kW s= .inl f):valid f=true:=by
 unfold kW at h;split at h
 ·split at h
  ·rename_i hv;cases h;exact hv
  cases h
 cases h
theorem zA{b:gn}{w time:Int}{f:bQ}(h:ja b w time=some f):valid f=true:=by
 unfold ja at h;split at h
 ·cases h
 split at h
 ·cases h
 split at h
 ·rename_i hp;split at h
  ·cases h;exact zy hp
  cases h
 cases h
theorem Bb{f:bQ}(h:valid f=true): ∀s∈f.steps,s.next.length≤4:=by intro s hs;unfold valid at h;simp only[Bool.and_eq_true,List.all_eq_true]at h;have:=h.1.2 s hs;unfold bT at this;simp only[Bool.and_eq_true,decide_eq_true_eq]at this;omega
theorem KY.Dv{b:gn}(_:KY b)(w time:Int):QZ (ja b w time):=fun f hf s hs=>Nat.le_trans (Bb (zA hf) s hs) (by decide)
theorem Bc(v u:Value)(b:gn)(a:jJ)(h:List bH)(g:G)(bV:mG g v b)(aH:Rs g u h)(hb:KY b)(hl:h.length≤1000000)(db:jv g):CallsIn Wd 0 Tryz.prog 29 #[v,HR a,u] g.w (cF g fun _ r=>r= .int .i64 (qG b a h)):=by
 have hs:=St.start g;have aq:=G.le.refl g;obtain⟨sl,rfl,kx⟩:=bV;have bV:mG g (.agg ((List.range 11).map sl).toArray) b:=⟨sl,rfl,kx⟩
 refine pL Tryz.func29 rfl Tryz.ntmps29 rfl ?_;apply cM;refine ak rfl rfl (aO rfl hs rfl rfl ?_);clear hs;rintro b3 g1 hs ah;obtain⟨aq,aH,bV,db⟩:=eS ah aq aH bV db;obtain⟨g2,bL,aT,ah,aL⟩:=hs.ba (i:=0) rfl;replace hs:=aT;clear aT;rw[←bL];obtain⟨aq,aH,bV,db⟩:=eS ah aq aH bV db;have aC:=aL;clear aL;skip;refine ak rfl rfl (aO rfl hs rfl rfl ?_);clear hs;rintro b4 g1 hs ah;obtain⟨aq,aC,aH,bV,db⟩:=kO ah aq aC aH bV db;obtain⟨g2,bL,aT,ah,aL⟩:=hs.ba (i:=0) rfl;replace hs:=aT;clear aT;rw[←bL];obtain⟨aq,aC,aH,bV,db⟩:=kO ah aq aC aH bV db;have aR:=aL;clear aL;refine bj rfl ?_;apply cM;refine ak rfl rfl (aK T.ok rfl hs rfl rfl ?_);clear hs;rintro b7 g1 hs ah;obtain⟨aq,aC,aR,aH,bV,db⟩:=lR ah aq aC aR aH bV db;refine bA rfl (az T.ok 0 rfl hs rfl rfl rfl rfl rfl rfl rfl rfl rfl ?_);replace hs:=hs;rintro g1 hs ah;obtain⟨aq,aC,aR,aH,bV,db⟩:=lR ah aq aC aR aH bV db;replace hs:St g _ [.obj b7 (.cells #[.int .i64 0] 3 (0,0))]:=hs;apply bW;apply aD;apply aD;apply ea (eO (.f (UK (ja b a.waf a.time) h):: .f (Wv (Dr (Dq b a (ja b a.waf a.time) h)))::[])) 10 [(9,18)] (by kernel_rfl)
 ·refine Dm [[],[],[],[],[3],[],[5],[]] [.z aC,.z aR,.z aC,.z aR,.z aR] hs (by kernel_rfl) rfl ?_;refine ay (an (js:=[(2,11),(4,13),(6,15),(7,16)]) (by kernel_rfl) fun gd hf=>ai rfl (ai rfl (ai rfl (ai rfl (aj (aB rfl (au MX aJ rfl rfl rfl rfl rfl (Co _ _ b a.waf a.time h gd (bV.mono ((G.bu _).trans hf.le)) (aH.mono ((G.bu _).trans hf.le)) hb.text (db.mono ((G.bu _).trans hf.le))) fun g' v h1 h2=>⟨g',rfl,h1,h2⟩))))))) ?_;refine ay (an (js:=[(0,9),(1,10),(8,17),(8,17)]) (by kernel_rfl) fun gd hf=>ai rfl (ai rfl (aZ fun _ _=>aZ fun v8 h8=>aj (aB rfl (au Sk aJ rfl rfl rfl rfl rfl (Ds _ v8 b a _ h gd (bV.mono ((G.bu _).trans hf.le)) h8 hb.size hl (hb.Dv _ _)) fun g' v h1 h2=>⟨g',rfl,h1,h2⟩))))) ?_;exact fD
 intro g1 aP;refine aZ fun v9 h9=>aj ?_;replace hs:=hs.dr.call aP;have ah:=(G.bu _).trans aP.le;replace aq:=G.le.trans aq ah;unfold qG;generalize Dr (Dq b a (ja b a.waf a.time) h)=xs at*;obtain⟨b9,sv,l,rfl,Ww,Wx,jf,YX⟩:=h9;apply bW;apply aG;refine uh (N:=24) hs rfl N0 (Po b9 sv l g1 Ww Wx).UG rfl (fun _=>rfl)
  (fun pre L g'=>L=[.obj b7 (.cells #[.int .i64 (Du pre)] 3 (0,0))]∧G.le g g') (fun _ _ _ _=>False) (fun _ _ _ _ hle h=>⟨h.1,h.2.trans hle⟩) (fun _ _ _ _ _ _ h=>h) ⟨rfl,aq⟩
  (fun pre x L la g'=>la=[(7,.pointer (some ⟨b7,0,none⟩)),(8,.int .i64 x)]∧L=[.obj b7 (.cells #[.int .i64 (Du pre)] 3 (0,0))]∧G.le g g') (fun _ _ _ _ _ _ hle h=>⟨h.1,h.2.1,h.2.2.trans hle⟩) ?_ ?_ ?_ ?_
 ·rintro lp D ro pre x gr Lr M jf hle hs hI;apply aA;refine Wp 1 rfl ?_;apply aE;exact fun a ha=>⟨gr,Lr,_,rfl,G.le.refl _,hs,⟨rfl,hI⟩,ha.keep (by(repeat (first|exact trivial|refine⟨rfl,?_⟩)))⟩
 ·rintro lp D ro pre x gr Lr la M jf hle hs ⟨rfl,rfl,aq⟩;have cC:=G.le.refl gr;apply aG;apply aA;refine Wm 3 [.o 2] hs rfl ?_;refine bA rfl (az T.ok 2 rfl hs rfl rfl rfl rfl rfl rfl rfl rfl rfl ?_);replace hs:=hs;rintro g1 hs ah;obtain⟨aq,cC⟩:=cf ah aq cC;apply aE;apply bR;exact fun a ha=>⟨_,_,rfl,hs,cC,[.obj b7 (.cells #[.int .i64 (Du (pre++[x]))] 3 (0,0))],by unfold Du;rw[List.foldl_append];rfl,rfl,aq⟩
 ·rintro lp D o ys Lr ge rfl hle hs ⟨rfl,aq⟩;rw[jf]at hs;apply bR;apply ar;refine l_ [.o 2] hs rfl ?_;refine aI ?_;skip;exact Fg 1 rfl hs rfl rfl (fun g' jo fw=>jo.ret rfl)
 rintro c lp D o pre Lr ge _ _ _ h;exact h.elim
theorem uq{b:gn}(hb:Fc b)(w time:Int):(lS b w time).length≤1000000:=Nat.le_trans (List.length_filter_le ..) (rQ hb w)
def KZ(b:gn)(a:jJ):Int:=qG b a (lS b a.waf a.time)
theorem JW(v:Value)(b:gn)(a:jJ)(g:G)(bV:mG g v b)(hb:KY b)(db:jv g):CallsIn Wd 0 Tryz.prog 11 #[v,HR a] g.w (cF g fun _ r=>r= .int .i64 (KZ b a)):=by
 have hs:=St.start g;have aq:=G.le.refl g;obtain⟨sl,rfl,kx⟩:=bV;have bV:mG g (.agg ((List.range 11).map sl).toArray) b:=⟨sl,rfl,kx⟩
 refine enter Tryz.func11 rfl Tryz.ntmps11 rfl ?_;apply cM;refine ak rfl rfl (aO rfl hs rfl rfl ?_);clear hs;rintro b2 g1 hs ah;obtain⟨bV,db⟩:=cf ah bV db;obtain⟨g2,bL,aT,ah,aL⟩:=hs.ba (i:=0) rfl;replace hs:=aT;clear aT;rw[←bL];obtain⟨bV,db⟩:=cf ah bV db;have aC:=aL;clear aL;skip;refine ak rfl rfl (aO rfl hs rfl rfl ?_);clear hs;rintro b3 g1 hs ah;obtain⟨aC,bV,db⟩:=dy ah aC bV db;obtain⟨g2,bL,aT,ah,aL⟩:=hs.ba (i:=0) rfl;replace hs:=aT;clear aT;rw[←bL];obtain⟨aC,bV,db⟩:=dy ah aC bV db;have aR:=aL;clear aL;refine bj rfl ?_;apply aD;apply bP hs (iY (eQ (fe (.f (Fact.rs (lS b a.waf a.time))::fe [])))) 9 [(8,13)] (by kernel_rfl) rfl
 ·refine Dm [[],[],[],[],[3],[],[5]] [.z aC,.z aR,.z aC,.z aR,.z aR] hs (by kernel_rfl) rfl ?_;refine ay (an (js:=[(2,7),(4,9),(6,11)]) (by kernel_rfl) fun gd hf=>ai rfl (ai rfl (ai rfl (aj (aB rfl (au MU aJ rfl rfl rfl rfl rfl (Cn _ b a.waf a.time gd (bV.mono ((G.bu _).trans hf.le)) hb.size) fun g' v h1 h2=>⟨g',rfl,h1,h2⟩)))))) ?_;refine ay (an (js:=[(0,5),(1,6),(7,12),(7,12)]) (by kernel_rfl) fun gd hf=>ai rfl (ai rfl (aZ fun _ _=>aZ fun v8 h8=>aj (aB rfl (au Ku aJ rfl rfl rfl rfl rfl (Bc _ v8 b a _ gd (bV.mono ((G.bu _).trans hf.le)) h8 hb (uq hb.size _ _) (db.mono ((G.bu _).trans hf.le))) fun g' v h1 h2=>⟨g',rfl,h1,h2⟩))))) ?_;exact fD
 clear hs;intro g6 hs ah;refine bj rfl ?_;exact aI (aX rfl rfl (hs.ret rfl))
def wG(b:gn)(w time:Int):List Int:=uk (ja b w time) (lS b w time)
theorem Cr(v:Value)(b:gn)(w time:Int)(g:G)(bV:mG g v b)(hb:KY b)(db:jv g):CallsIn Wd 0 Tryz.prog 14 #[v,.int .i64 w,.int .i64 time] g.w (cF g fun g' r=>Rs g' r (wG b w time)):=by
 have hs:=St.start g;have aq:=G.le.refl g;obtain⟨sl,rfl,kx⟩:=bV;have bV:mG g (.agg ((List.range 11).map sl).toArray) b:=⟨sl,rfl,kx⟩
 refine enter Tryz.func14 rfl Tryz.ntmps14 rfl ?_;apply cM;refine ak rfl rfl (aO rfl hs rfl rfl ?_);clear hs;rintro b2 g1 hs ah;obtain⟨bV,db⟩:=cf ah bV db;obtain⟨g2,bL,aT,ah,aL⟩:=hs.ba (i:=0) rfl;replace hs:=aT;clear aT;rw[←bL];obtain⟨bV,db⟩:=cf ah bV db;have aC:=aL;clear aL;refine bj rfl ?_;apply aD;refine pP (l':=[(1,.int .i64 w),(2,.int .i64 time),(3,.pointer (some ⟨b2,0,none⟩))]) (by(repeat (first|exact trivial|refine⟨rfl,?_⟩))) ?_;apply ea (iY (eQ (.f (Fact.rs (lS b w time)):: .f (UK (ja b w time) (lS b w time)):: .f (Fact.rs (wG b w time))::[]))) 9 [(8,15)] (by kernel_rfl)
 ·refine Dm [[],[],[],[],[],[]] [.z aC,.z aC] hs (by kernel_rfl) rfl ?_;refine ay (an (js:=[(3,10),(4,11),(5,12)]) (by kernel_rfl) fun gd hf=>ai rfl (ai rfl (ai rfl (aj (aB rfl (au MU aJ rfl rfl rfl rfl rfl (Cn _ b w time gd (bV.mono ((G.bu _).trans hf.le)) hb.size) fun g' v h1 h2=>⟨g',rfl,h1,h2⟩)))))) ?_;refine ay (an (js:=[(0,7),(1,8),(2,9),(6,13),(6,13)]) (by kernel_rfl) fun gd hf=>ai rfl (ai rfl (ai rfl (aZ fun _ _=>aZ fun v6 h6=>aj (aB rfl (au MX aJ rfl rfl rfl rfl rfl (Co _ v6 b w time _ gd (bV.mono ((G.bu _).trans hf.le)) h6 hb.text (db.mono ((G.bu _).trans hf.le))) fun g' v h1 h2=>⟨g',rfl,h1,h2⟩)))))) ?_;refine ay (an (js:=[(7,14),(7,14)]) (by kernel_rfl) fun gd hf=>aZ fun _ _=>aZ fun v7 h7=>aj (aB rfl (au MY aJ rfl rfl rfl rfl rfl (Fu v7 _ _ gd h7 (uq hb.size _ _) (hb.Dv _ _)) fun g' v h1 h2=>⟨g',rfl,h1,h2⟩))) ?_;exact fD
 intro g1 aP;refine aZ fun v9 h9=>aj ?_;replace hs:=hs.dr.call aP;have ah:=(G.bu _).trans aP.le;refine bj rfl ?_;exact aI (aX rfl rfl (hs.ret h9))
end Go.Proofs.YtgehbndkogohpaaGreatDoor
namespace Go.Proofs.YtgehbndkogohpaaGreatDoor
open Go Go.K
set_option maxRecDepth 10000
attribute [local irreducible] W WL cD bc bK bd bg bh cq ck
set_option maxHeartbeats 1000000
abbrev rI(v:Value)(xs:List Int):cS:=.row 3 1 v xs.length (eK xs)
theorem Cs(a:Option Addr)(c:Nat)(xs:List Int)(x:Int):rI (.slice a (xs.length+1) c) (xs++[x])= .row 3 1 (.slice a (xs.length+1) c) (xs.length+1) (eK xs++[.int .i64 x]):=by show cS.row _ _ _ (xs++[x]).length (eK (xs++[x]))=_;rw[List.length_append];simp[eK]
theorem Fv(x p:bH)(b1:Nat)(g:G)(aC:EP g b1 0 (cg p)):CallsIn Wd 0 Tryz.prog 34 #[fv x,.pointer (some ⟨b1,0,none⟩)] g.w (cF g fun _ r=>r= .bool (x.idn==p.idn)):=by have hs:=St.start g;refine enter Tryz.func34 rfl Tryz.ntmps34 rfl ?_;apply cM;refine ak rfl rfl (aO rfl hs rfl rfl ?_);clear hs;rintro b2 g1 hs ah;replace aC:=aC.mono ah;obtain⟨g2,bL,aT,ah,aL⟩:=hs.ba (i:=0) rfl;replace hs:=aT;clear aT;rw[←bL];replace aC:=aC.mono ah;have aR:=aL;clear aL;refine bj rfl ?_;refine l_ [.z aR,.z aC] (St.start _) rfl ?_;exact aI (aX rfl rfl (hs.ret rfl))
def mh(b:gn)(p:bH):jJ:=⟨vC b p.waf p.time,p.step,p.tool,p.cham,p.rcp,p.rvn,p.time⟩
def K0(b:gn)(p:bH):List bH:=(mc b (mh b p).waf).takeWhile fun q=> !(q.idn==p.idn)
def Fw(b:gn)(p:bH):Bool:=qG b (mh b p) (K0 b p) !=0
def xP(b:gn):List Int:=Lib.compact (jH ((b.procs.filter (Fw b)).map (·.idn)))
theorem Fx{α:Type}{p:α→Bool}: ∀{l:List α},(∀x∈l,p x=false)→l.takeWhile (fun x=> !p x)=l
 |[],_=>rfl
 |x::l,h=>by rw[List.takeWhile_cons,h x (List.mem_cons_self ..)];show x::_=x::_;rw[Fx fun y hy=>h y (List.mem_cons_of_mem _ hy)]
theorem Ct{α:Type}{p:α→Bool}: ∀{l:List α} {k:Nat} (h:k<l.length),p l[k]=true→(∀j (h:j<l.length),j<k→p l[j]=false)→l.takeWhile (fun x=> !p x)=l.take k
 |x::l,0,_,hp,_=>by have hp:p x=true:=hp;rw[List.takeWhile_cons,hp];rfl
 |x::l,k+1,h,hp,dx=>by have h0:p x=false:=dx 0 (by simp) (by omega);rw[List.takeWhile_cons,h0];show x::_=x::_;rw[Ct (k:=k) (by simpa using h) hp fun j hj Ci=>dx (j+1) (by simpa using hj) (by omega)]
theorem Cu(v:Value)(b:gn)(g:G)(bV:mG g v b)(hb:KY b)(db:jv g):CallsIn Wd 0 Tryz.prog 13 #[v] g.w (cF g fun g' r=>Rs g' r (xP b)):=by
 have hs:=(St.start g).iN 3 1 none;have aq:=G.le.refl g;obtain⟨sl,rfl,kx⟩:=bV;have bV:mG g (.agg ((List.range 11).map sl).toArray) b:=⟨sl,rfl,kx⟩
 have aH:Rs g (sl 0) b.procs:=kx 0 (by decide);obtain⟨a,c,Pq⟩:=aH.isSlice;have hlen:b.procs.length≤1000000:=hb.size 0;refine enter Tryz.func13 rfl Tryz.ntmps13 rfl ?_;apply cM;refine ak rfl rfl (aO rfl hs rfl rfl ?_);clear hs;rintro b1 g1 hs ah;obtain⟨aq,aH,bV,db⟩:=eS ah aq aH bV db;obtain⟨g2,bL,aT,ah,aL⟩:=hs.ba (i:=0) rfl;replace hs:=aT;clear aT;rw[←bL];obtain⟨aq,aH,bV,db⟩:=eS ah aq aH bV db;have aC:=aL;clear aL;replace hs:St g _ [rI (.slice none 0 0) []]:=hs;refine bj rfl ?_;refine aY rfl ?_;apply aD;refine dz 2 [.z aC] (St.start _) rfl ?_;refine cY (.slice a b.procs.length c) (t:=10) rfl Pq ?_;rw[Pq]at aH;refine bj rfl ?_;apply aG;refine bM (fun m a' w=> ∃(i:Nat) (a3:Option Addr) (c3:Nat) (xs:List Int) (g':G),w=g'.w∧St g g' [rI (.slice a3 xs.length c3) xs]∧G.le g g'∧Rs g' (.slice a b.procs.length c) b.procs∧EP g' b1 0 ((List.range 11).map sl)∧mG g' (.agg ((List.range 11).map sl).toArray) b∧jv g'∧i≤b.procs.length∧((b.procs.take i).filter (Fw b)).map (·.idn)=xs∧m=b.procs.length-i∧
   Fr 62 [] [(1,.pointer (some ⟨b1,0,none⟩)),(3,.slice a3 xs.length c3),(10,.slice a b.procs.length c),(11,.int .i64 (b.procs.length:Nat)),(12,.int .i64 (i:Nat))] a') b.procs.length
  (fun a' ha=>⟨0,none,0,[],_,rfl,hs,aq,aH,aC,bV,db,Nat.zero_le _,rfl,rfl,ha.keep (by(repeat (first|exact trivial|refine⟨rfl,?_⟩)))⟩) ?_
 (repeat clear hs);(repeat clear aH);(repeat clear aq);(repeat clear aC);(repeat clear bV);(repeat clear db)
 rintro m a' _ ⟨i,a3,c3,xs,g',rfl,hs,aq,aH,aC,bV,db,hi,jf,rfl,eF⟩;have lX:xs.length≤i:=by rw[←jf,List.length_map];exact Nat.le_trans (List.length_filter_le ..) (by rw[List.length_take];omega)
 revert a';apply cI;refine aY rfl ?_;apply aD;by_cases bC:i<b.procs.length
 ·refine aM (b:=decide ((i:Int)<(b.procs.length:Int))) (decide_eq_true (by omega)) rfl ?_;have jG:dS b.procs (i:Int)=some b.procs[i]:=cZ rfl bC;have fP:((b.procs.take (i+1)).filter (Fw b)).map (·.idn)=xs++(if Fw b b.procs[i]then [b.procs[i].idn]else []):=by rw[List.take_add_one,List.getElem?_eq_getElem bC,List.filter_append,List.map_append,jf];congr 1;rw[Option.toList_some,List.filter_cons];split<;>rfl
  generalize b.procs[i]=x at jG fP;clear jf;apply aF;apply ar;apply aD;apply aG;apply cM;refine ak rfl rfl (aW T.ok rfl aH (y:=x) jG rfl rfl rfl rfl rfl rfl ?_);rintro b9 q9 UJ aL rfl;have aR:=aL;clear aL;refine Wm 1 [.e aR 0] (St.start _) rfl ?_;refine ak rfl rfl (aK T.ok rfl hs rfl rfl ?_);clear hs;rintro b5 g1 hs ah;obtain⟨aq,aC,aR,aH,bV,db⟩:=lR ah aq aC aR aH bV db;refine bA rfl (az T.ok 0 rfl hs rfl rfl rfl rfl rfl rfl rfl rfl rfl ?_);replace hs:=hs;rintro g1 hs ah;obtain⟨aq,aC,aR,aH,bV,db⟩:=lR ah aq aC aR aH bV db;obtain⟨g2,bL,aT,ah,aL⟩:=hs.ba (i:=0) rfl;replace hs:=aT;clear aT;rw[←bL];obtain⟨aq,aC,aR,aH,bV,db⟩:=lR ah aq aC aR aH bV db
  (repeat clear aR)
  have aR:=aL;clear aL;replace hs:St g _ [rI (.slice a3 xs.length c3) xs]:=hs;apply bW;apply aD;have s7:=hs;apply ea (eO (eO (eQ (.e (HR (mh b x)):: .f (Bd (G.dr _).w.heap.size [.int .i64 0,.int .i64 0,.int .i64 0,.int .i64 0,.int .i64 0,.int .i64 0,.int .i64 0] 39)::[])))) 20 [(18,34),(19,6)] (by kernel_rfl)
  ·refine Dm [[],[],[1],[],[3],[0,2,4],[],[6],[],[8],[],[10],[],[12],[],[14],[],[16]] [.z aC,.z aR,.z aR,.c MV fun g' h=>JX (.agg ((List.range 11).map sl).toArray) b x.waf x.time g' (bV.mono h) hb.size,.z aR,.z aR,.z aR,.z aR,.z aR,.z aR] hs (by kernel_rfl) rfl ?_;refine ay (an (js:=[(5,21),(7,23),(9,25),(11,27),(13,29),(15,31),(17,33)]) (by kernel_rfl) fun gd hf=>ai rfl (ai rfl (ai rfl (ai rfl (ai rfl (ai rfl (ai rfl (aj (aB rfl (aQ T.ok rfl (vs:=[(0,.int .i64 (vC b x.waf x.time)),(1,.int .i64 x.step),(2,.int .i64 x.tool),(3,.int .i64 x.cham),(4,.int .i64 x.rcp),(5,.int .i64 x.rvn),(6,.int .i64 x.time)]) (cells:=vz (mh b x)) rfl rfl rfl rfl [(0,1),(1,1),(2,1),(3,1),(4,1),(5,1),(6,1)] rfl (by kernel_rfl) ⟨gd,rfl,a_.refl _,rfl⟩)))))))))) ?_;refine ay (an (js:=[]) (by kernel_rfl) fun gd hf=>aj (aB rfl (aK T.ok rfl (St.start gd) rfl rfl fun b g' jo hle=>⟨g',rfl,jo.nC,b,rfl,Nat.le_trans hf.below.size (jo.own 0 _ rfl).1,(jo.own 0 _ rfl).2⟩))) ?_;exact fD
  intro g1 aP;refine ai rfl (aZ fun v6 h6=>aj ?_);obtain⟨b6,rfl,rS⟩:=h6
  (repeat clear hs)
  have hs:=s7.dr.ft aP rS;have ah:=(G.bu _).trans aP.le;obtain⟨aq,aC,aR,aH,bV,db⟩:=lR ah aq aC aR aH bV db;clear s7 rS aP;skip;refine bA rfl (az T.ok 0 rfl hs rfl rfl rfl rfl rfl rfl rfl rfl rfl ?_);replace hs:=hs;rintro g1 hs ah;obtain⟨aq,aC,aR,aH,bV,db⟩:=lR ah aq aC aR aH bV db;obtain⟨g2,bL,aT,ah,aL⟩:=hs.ba (i:=0) rfl;replace hs:=aT;clear aT;rw[←bL];obtain⟨aq,aC,aR,aH,bV,db⟩:=lR ah aq aC aR aH bV db;have cU:=aL;clear aL;replace hs:St g _ [rI (.slice a3 xs.length c3) xs]:=hs;apply bW;refine dz 3 [.z aC,.z cU] (St.start _) rfl ?_;refine ak rfl rfl (au MW aJ rfl rfl rfl rfl rfl (Fl _ b (mh b x).waf _ bV hb.size) ?_);rintro g6 _ lz lC;replace hs:=hs.call lz;have ah:=lz.le;obtain⟨aq,aC,aR,cU,aH,bV⟩:=lR ah aq aC aR cU aH bV;replace db:=db.mono ah;have My:=rQ hb.size (mh b x).waf;have Fy:Fw b x=(qG b (mh b x) ((mc b (mh b x).waf).takeWhile fun q=> !(q.idn==x.idn)) !=0):=rfl;generalize mc b (mh b x).waf=hm at lC My Fy;obtain⟨a7,c7,rfl⟩:=lC.isSlice;refine bj rfl ?_;apply aD;refine cN 2 rfl ?_;clear lz;refine ak rfl rfl (au Kv aJ rfl rfl rfl rfl rfl (uf _ _ hm (fun q=>q.idn==x.idn) _ lC (fun g' y _ h=>cW (first:=#[]) (args:=[fv y]) (captured:=#[.pointer (some ⟨b5,0,none⟩)]) RM rfl (Fv y x b5 g' (aR.mono h)))) ?_);rintro g1 _ aP rfl;replace hs:=hs.call aP;have ah:=aP.le;obtain⟨aq,aC,aR,cU,aH,lC⟩:=lR ah aq aC aR cU aH lC;obtain⟨bV,db⟩:=cf ah bV db;clear aP;refine bj rfl ?_;refine aY rfl ?_;rcases mL (fun q:bH=>q.idn==x.idn) hm with⟨tS,dx⟩|⟨k,hk,tS,xL,dx⟩
  ·rw[Fx dx]at Fy;refine aV (b:=decide (0≤lQ (fun q:bH=>q.idn==x.idn) hm)) (by rw[tS];rfl) rfl ?_;apply aF;apply ar;refine dz 3 [.z aC,.z cU] (St.start _) rfl ?_;refine ak rfl rfl (au Ku aJ rfl rfl rfl rfl rfl (Bc _ _ b (mh b x) (hm) _ bV lC hb My db) ?_);rintro g8 _ Fm rfl;replace hs:=hs.call Fm;have ah:=Fm.le;obtain⟨aq,aC,aR,cU,aH,lC⟩:=lR ah aq aC aR cU aH lC;obtain⟨bV,db⟩:=cf ah bV db;refine bj rfl ?_;rw[Fy]at fP;cases hz:(qG b (mh b x) (hm) !=0)with
   |false=>
    rw[hz]at fP;refine aV rfl rfl ?_;apply aF;apply bR;apply ar;apply aA;refine Wp 2 rfl ?_;apply aE;exact fun a ha=>⟨b.procs.length-(i+1),by omega,i+1,a3,c3,xs,_,rfl,hs,aq,aH,aC,bV,db,by omega,by rw[fP];exact List.append_nil _,rfl,ha.keep ⟨rfl,rfl,rfl,rfl,kI rfl (by rw[wr (by omega) (by omega)];omega),trivial⟩⟩
   |true=>
    rw[hz]at fP;refine aM rfl rfl ?_;apply aA;refine Wm 3 [.z aR] (St.start _) rfl ?_;refine ak rfl rfl (bD T.ok rfl hs (vs:=[(0,.int .i64 x.idn)]) (cells:=[.int .i64 x.idn]) rfl rfl rfl rfl rfl rfl (by decide) (by decide) (by kernel_rfl) rfl ?_);rintro QT g9 hs ah;obtain⟨aq,aC,aR,cU,aH,lC⟩:=lR ah aq aC aR cU aH lC;obtain⟨bV,db⟩:=cf ah bV db;skip;refine ak rfl rfl (cd T.ok 1 rfl hs rfl rfl rfl rfl rfl rfl rfl (by decide) rfl (Src.fL (hs.own 0 _ rfl).1).2 (by simp[Value.oneCell']) (by show(xs.length+1)*8≤_;omega) (by show xs.length+1≤maxLen;unfold maxLen;omega) ?_);rintro a6 c6 g10 hs ah;obtain⟨aq,aC,aR,cU,aH,lC⟩:=lR ah aq aC aR cU aH lC;obtain⟨bV,db⟩:=cf ah bV db;replace hs:St g g10 [rI (.slice a6 (xs.length+1) c6) (xs++[x.idn])]:=by rw[Cs];exact hs.drop 0
    refine Wp 1 rfl ?_;apply aE;apply bR;apply ar;apply aA;refine Wp 2 rfl ?_;apply aE;exact fun a ha=>⟨b.procs.length-(i+1),by omega,i+1,a6,c6,xs++[x.idn],_,rfl,by rw[show(xs++[x.idn]).length=xs.length+1 from by simp];exact hs,aq,aH,aC,bV,db,by omega,fP,rfl,ha.keep ⟨rfl,kV rfl (by simp),rfl,rfl,kI rfl (by rw[wr (by omega) (by omega)];omega),trivial⟩⟩
  rw[Ct hk xL dx]at Fy;refine aM (b:=decide (0≤lQ (fun q:bH=>q.idn==x.idn) hm)) (by rw[tS];simp) rfl ?_;rw[tS];apply aA;refine Wp 2 rfl ?_;obtain⟨_,Fz,vr⟩:=lC.Be;refine ak rfl rfl (kF T.ok rfl rfl rfl rfl rfl (a:=0) (b:=k) rfl ⟨_,rfl⟩ (by omega) (by omega) ?_);replace lC:=lC.cut (a:=0) (b:=k) (by omega) (by omega);rw[List.drop_zero]at lC;refine bj rfl ?_;refine dz 3 [.z aC,.z cU] (St.start _) rfl ?_;refine ak rfl rfl (au Ku aJ rfl rfl rfl rfl rfl (Bc _ _ b (mh b x) (hm.take k) _ bV lC hb (by rw[List.length_take];omega) db) ?_);rintro g8 _ Fm rfl;replace hs:=hs.call Fm;have ah:=Fm.le;obtain⟨aq,aC,aR,aH,bV,db⟩:=lR ah aq aC aR aH bV db;refine bj rfl ?_;rw[Fy]at fP;cases hz:(qG b (mh b x) (hm.take k) !=0)with
  |false=>
   rw[hz]at fP;refine aV rfl rfl ?_;apply aF;apply bR;apply ar;apply aA;refine Wp 2 rfl ?_;apply aE;exact fun a ha=>⟨b.procs.length-(i+1),by omega,i+1,a3,c3,xs,_,rfl,hs,aq,aH,aC,bV,db,by omega,by rw[fP];exact List.append_nil _,rfl,ha.keep ⟨rfl,rfl,rfl,rfl,kI rfl (by rw[wr (by omega) (by omega)];omega),trivial⟩⟩
  |true=>
   rw[hz]at fP;refine aM rfl rfl ?_;apply aA;refine Wm 3 [.z aR] (St.start _) rfl ?_;refine ak rfl rfl (bD T.ok rfl hs (vs:=[(0,.int .i64 x.idn)]) (cells:=[.int .i64 x.idn]) rfl rfl rfl rfl rfl rfl (by decide) (by decide) (by kernel_rfl) rfl ?_);rintro QT g9 hs ah;obtain⟨aq,aC,aH,bV,db⟩:=kO ah aq aC aH bV db;skip;refine ak rfl rfl (cd T.ok 1 rfl hs rfl rfl rfl rfl rfl rfl rfl (by decide) rfl (Src.fL (hs.own 0 _ rfl).1).2 (by simp[Value.oneCell']) (by show(xs.length+1)*8≤_;omega) (by show xs.length+1≤maxLen;unfold maxLen;omega) ?_);rintro a6 c6 g10 hs ah;obtain⟨aq,aC,aH,bV,db⟩:=kO ah aq aC aH bV db;replace hs:St g g10 [rI (.slice a6 (xs.length+1) c6) (xs++[x.idn])]:=by rw[Cs];exact hs.drop 0
   refine Wp 1 rfl ?_;apply aE;apply bR;apply ar;apply aA;refine Wp 2 rfl ?_;apply aE;exact fun a ha=>⟨b.procs.length-(i+1),by omega,i+1,a6,c6,xs++[x.idn],_,rfl,by rw[show(xs++[x.idn]).length=xs.length+1 from by simp];exact hs,aq,aH,aC,bV,db,by omega,fP,rfl,ha.keep ⟨rfl,kV rfl (by simp),rfl,rfl,kI rfl (by rw[wr (by omega) (by omega)];omega),trivial⟩⟩
 refine aV (b:=decide ((i:Int)<(b.procs.length:Int))) (decide_eq_false (by omega)) rfl ?_;rw[List.take_of_length_le (by omega)]at jf;apply bF;apply bG;apply bG;apply c_;apply ar;refine cN 1 rfl ?_;refine ak rfl rfl (du Kw aJ rfl rfl rfl rfl rfl (Ba (zs:=xs) (by omega) hs) ?_)
 (repeat clear hs)
 rintro g11 _ ah ⟨rfl,hs⟩;apply bW;refine cN 1 rfl ?_;refine ak rfl rfl (du Hv aJ rfl rfl rfl rfl rfl (oO (zs:=jH xs) hs) ?_)
 (repeat clear hs)
 rintro g12 _ ah ⟨rfl,hs⟩;obtain⟨g13,um,uo,ah,rM⟩:=hs.cK (α:=Int) (i:=0) rfl (cG.ints _ _);rw[←um];(repeat clear hs);have hs:=uo;clear uo;clear um;refine bj rfl ?_;refine aI (aX rfl rfl (hs.ret ?_));unfold xP;rw[jf];exact rM
end Go.Proofs.YtgehbndkogohpaaGreatDoor
namespace Go.K
open Go Go.RowKit
variable {F:Fence} {P:Program} {N:Nat} {ds:List Deferred} {l l':Env} {a:Act} {w:World} {Q:Exit→Act→World→Prop} {ops:Array Oper} {os:List Oper} {o:Oper}
variable {g0 g:G} {L L':List cS} {K:Value→World→Prop} {R:Ending→World→Prop}
theorem sI{α:Type}[El α]{tb:Tb}(dq:tb.ok P){t e:Nat}{ti ei:TI}{s x:Operand}{ad U7:Option Addr}{n m c2:Nat}{xs ys:List α}
  (ho:o.op= .call {callee:=.builtin .append,args:=#[s,x],argTypes:=#[t,t]}) (hv:ev l s=some (.slice ad n n)) (hx:ev l x=some (.slice U7 m c2)) (h1:Rs g (.slice ad n n) xs) (h2:Rs g (.slice U7 m c2) ys)
  (hn:n≠0) (hm:m≠0) (hi:tl tb t=some ti) (hd:ti.desc= .slice e) (hj:tl tb e=some ei) (hk:ei.size=El.k α) (hz:ei.zero.cells.size=El.k α) (hb:(n+m)*ei.bytes≤140737488355328) (Ca:n+m≤maxLen)
  (kk: ∀v g',a_ g g'→Rs g' v (xs++ys)→K v g'.w):cD F P N ds o l g.w Q K:=by
 obtain⟨⟨dd,Ho,he⟩,_⟩:=dq.at hi;rw[hd]at he;obtain rfl:=KD.of_slice he;obtain⟨_,inf,e1,e2,e3,e4⟩:=dq.at hj;obtain⟨lO,Qj,sF,nz⟩:=Src.lq h1;obtain⟨A3,news,zK,aT⟩:=Src.lq h2;obtain⟨b1,p1,rfl,Fz⟩:=nz.2.resolve_left hn;obtain⟨b2,p2,rfl,vr⟩:=aT.2.resolve_left hm;obtain⟨v',w',iU,dT,hg⟩:=run_append_arg_grows (P:=P) g.w t o.type e inf ei.zero (El.k α) ei.bytes Ho e1 e4 (by rw[e2,hk]) e3 hz (El.pos (α:=α)) ⟨b1,p1,none⟩ n n Qj nz.1
  (fun j u hu=>by rw[Addr.add_lit];exact Fz j u hu) ⟨b2,p2,none⟩ m c2 news aT.1 (fun j u hu=>by rw[Addr.add_lit];exact vr j u hu) (by omega) Ca hb
 have hf:=DU (g:=g) hg;have hlen:n+m=(xs++ys).length:=by rw[List.length_append,←lO,←A3]
 have hO:km e g (xs++ys) (⟨w',g.im,fun b h=>Nat.lt_of_lt_of_le (g.lt b h) hg.size⟩:G) v':=by
  refine⟨Qj++news,⟨?_,fun b hb hi=>?_⟩,cG.app (zK.mono hf.le) (sF.mono hf.le)⟩
  ·rw[←hlen];exact Row.r8 dT
  have:=IG dT b hb;have:=g.lt b hi;omega
 obtain⟨g2,bL,Bz,tg,rM⟩:=(St.start g).nU hf hO;refine eZ ho (w':=w') (fun a ha=>?_) (by have h:=kk v' g2 Bz.nC rM;rw[bL]at h;exact h);simp[resolve,invoke,builtin,ha.ev hv,ha.ev hx,iU]
end Go.K
namespace Go.Proofs.YtgehbndkogohpaaGreatDoor
open Go Go.K
set_option maxRecDepth 10000
attribute [local irreducible] W WL cD bc bK bd bg bh cq ck
set_option maxHeartbeats 1000000
def putAt(l:List Int)(n:Int):Nat:=(l.takeWhile fun x=>decide (x<n)).length
def S2(l:List Int)(n:Int):List Int:=if l[putAt l n]? =some n then l else l.take (putAt l n)++n::l.drop (putAt l n)
end Go.Proofs.YtgehbndkogohpaaGreatDoor
namespace Go.Proofs.YtgehbndkogohpaaGreatDoor
open Go Go.K
set_option maxRecDepth 10000
attribute [local irreducible] W WL cD bc bK bd bg bh cq ck
set_option maxHeartbeats 1000000
def K4(f:bQ)(h:List bH):List Int:=
 match h.getLast? with
 |none=>[0]
 |some x=>match dS f.steps x.step with
  |none=>[]
  |some s=>if decide (0≤s.back)&&decide (Fs (some f) h x.step<s.dI)then S2 s.next s.back else s.next
def WC(f:bQ):Prop:=∀s∈f.steps,s.next.length≤100000
end Go.Proofs.YtgehbndkogohpaaGreatDoor
namespace Go.Proofs.YtgehbndkogohpaaGreatDoor
open Go Go.K
set_option maxRecDepth 10000
attribute [local irreducible] W WL cD bc bK bd bg bh cq ck
set_option maxHeartbeats 1000000
def JY(s:Step)(tool idn waf step time:Int):bH:=⟨1,idn,1,0,false,time,IntKind.i64.wrap (time+s.min),waf,0,0,0,tool,0,step,s.cE,1,0,0,[]⟩
end Go.Proofs.YtgehbndkogohpaaGreatDoor
namespace Go.Proofs.YtgehbndkogohpaaGreatDoor
open Go
theorem yy: ∀(k n:Nat),n<10^(k+1)→(dec n).length≤k+1
 |0,n,h=>by rw[ic (by omega)];simp
 |k+1,n,h=>by
  by_cases h1:n<10
  ·rw[ic h1];simp
  rw[nd h1,List.length_append];have:=yy k (n/10) (by rw[Nat.pow_succ]at h;omega);simp only[List.length_cons,List.length_nil];omega
theorem dF{n:Int}(h:kK n):(cz n).length≤7:=yy 6 n.toNat (by have:=h.1;have:=h.2;simp;omega)
theorem u7{a b:Int}(h1:kK a)(h2:kK b):(iV a b).length≤16:=by have:=dF h1;have:=dF h2;unfold iV;simp only[List.length_append,List.length_cons];omega
theorem p_{c:UInt8}{k:Nat}: ∀{l:List (List UInt8)},(∀x∈l,x.length≤k)→(dP c l).length≤l.length*(k+1)
 |[],_=>Nat.zero_le _
 |[x],h=>by have:=h x (by simp);simp only[dP,List.length_cons,List.length_nil];omega
 |x::y::r,h=>by have h1:=h x (by simp);have h2:=p_ (c:=c) (l:=y::r) fun z hz=>h z (List.mem_cons_of_mem _ hz);rw[show dP c (x::y::r)=x++c::dP c (y::r)from rfl,List.length_append,List.length_cons];simp only[List.length_cons,Nat.add_mul,Nat.one_mul]at h2⊢;omega
theorem oZ{l:List Int}(h: ∀n∈l,kK n):(fq l).length≤l.length*8+1:=by
 unfold fq;split
 ·simp
 have:=p_ (c:=44) (l:=l.map cz) (k:=7) fun x hx=>by obtain⟨n,hn,rfl⟩:=List.mem_map.1 hx;exact dF (h n hn)
 rw[List.length_map]at this;omega
def fZ:List UInt8:=[115,116,101,112,32]
def dO:List UInt8:=[32,114,101,99,105,112,101,32]
def fM:List UInt8:=[32,116,111,111,108,115,32]
def ke:List UInt8:=[32,116,105,109,101,32]
def rf:List UInt8:=[32,110,101,120,116,32]
def ox:List UInt8:=[32,98,97,99,107,32]
def qb:List UInt8:=[32,108,105,109,105,116,32]
def ik:List UInt8:=[119,105,110,100,111,119,32]
def nk:List UInt8:=[109,111,118,101,32]
def u9(i:Nat)(s:Step):List UInt8:=fZ++dec i++dO++cz s.cE++fM++fq s.dt++ke++iV s.min s.max++rf++fq s.next
def Ah(s:Step):List UInt8:=if 0≤s.back then ox++cz s.back++qb++cz s.dI else []
theorem oy(i:Nat)(s:Step):ed i s=u9 i s++Ah s:=by
 unfold ed ow u9 Ah;by_cases h:0≤s.back
 ·rw[if_pos h,if_pos h];simp[dP,kA,jB,k9,oq,ot,ou,k_,fZ,dO,fM,ke,rf,ox,qb]
 rw[if_neg h,if_neg h];simp[dP,kA,jB,k9,oq,ot,fZ,dO,fM,ke,rf]
theorem iK(w:bZ):dE w=ik++cz w.src++[32]++cz w.dst++[32]++cz w.dI:=by unfold dE oX;simp[dP,ij,ik]
theorem lG(a b:Int):gY a b=nk++iV a b:=by unfold gY w7;simp[dP,ov,nk]
def f_:Nat→List Step→List UInt8
 |_,[]=>[]
 |k,s::r=>ed k s++10::f_ (k+1) r
def kg:List bZ→List UInt8
 |[]=>[]
 |w::r=>dE w++10::kg r
def gI(f:bQ):List UInt8:=gY f.bB f.bU++10::(f_ 0 f.steps++kg f.windows)
theorem GA{lo hi:Int}: ∀{l:List Int} {p:Int},iF lo hi p l=true→ ∀n∈l,lo≤n∧n≤hi
 |[],_,_,_,hn=>by cases hn
 |m::r,p,h,n,hn=>by
  unfold iF within at h;simp only[Bool.and_eq_true,decide_eq_true_eq]at h;rcases List.mem_cons.1 hn with rfl|hn
  ·exact h.1.1
  exact GA h.2 n hn
theorem rh{lo hi:Int}{l:List Int}(h:ascending l lo hi=true): ∀n∈l,lo≤n∧n≤hi:=by
 cases l with
 |nil=>intro n hn;cases hn
 |cons m r=>
  unfold ascending within at h;simp only[Bool.and_eq_true,decide_eq_true_eq]at h;intro n hn;rcases List.mem_cons.1 hn with rfl|hn
  ·exact h.1
  exact GA h.2 n hn
structure xe(s:Step):Prop where
 n:Kg s
 dt:s.dt.length≤8
 next:s.next.length≤4
theorem sP{s:Step}{n:Int}(hn:n≤1000000)(h:bT s n=true):xe s:=by
 unfold bT within at h;simp only[Bool.and_eq_true,Bool.or_eq_true,decide_eq_true_eq,beq_iff_eq]at h;obtain⟨⟨⟨⟨⟨⟨⟨h1,h2,h3⟩,h4⟩,h5⟩,h6⟩,h7⟩,h8⟩,h9⟩:=h;have ht:=rh h5;have hx:=rh h6;refine⟨⟨⟨by omega,by omega⟩,fun e=>?_,fun n hn=>?_,⟨by omega,by omega⟩,⟨by omega,by omega⟩,fun n hn=>?_,?_⟩,by omega,by omega⟩
 ·rw[e]at h2;simp at h2
 ·have:=ht n hn;exact⟨by omega,by omega⟩
 ·have:=hx n hn;exact⟨by omega,by omega⟩
 rcases h1 with h|⟨h,h'⟩
 ·exact .inl h
 exact .inr ⟨⟨by omega,by omega⟩,⟨by omega,by omega⟩⟩
theorem pB{w:bZ}{n:Int}(hn:n≤1000000)(h:de w n=true):kK w.src∧kK w.dst∧kK w.dI:=by unfold de within at h;simp only[Bool.and_eq_true,decide_eq_true_eq]at h;obtain⟨⟨⟨h1,h2⟩,_⟩,h3⟩:=h;exact⟨⟨by omega,by omega⟩,⟨by omega,by omega⟩,⟨by omega,by omega⟩⟩
theorem nf{f:bQ}(h:dA f=true):kK f.bB∧kK f.bU:=by unfold dA at h;simp only[Bool.and_eq_true,decide_eq_true_eq]at h;exact⟨⟨by omega,by omega⟩,⟨by omega,by omega⟩⟩
theorem u_{n:Int}: ∀{l pre:List bZ},dB n pre l=true→ ∀w∈l,de w n=true
 |[],_,_,_,hw=>by cases hw
 |v::r,pre,h,w,hw=>by
  unfold dB at h;simp only[Bool.and_eq_true]at h;rcases List.mem_cons.1 hw with rfl|hw
  ·exact h.1.1
  exact u_ h.2 w hw
structure Qx(f:bQ):Prop where
 min:kK f.bB
 max:kK f.bU
 n1:1≤f.steps.length
 n40:f.steps.length≤40
 steps: ∀s∈f.steps,xe s
 XT:f.windows.length≤20
 IV: ∀w∈f.windows,kK w.src∧kK w.dst∧kK w.dI
theorem CX{f:bQ}(h:valid f=true):Qx f:=by unfold valid within at h;simp only[Bool.and_eq_true,decide_eq_true_eq,List.all_eq_true]at h;obtain⟨⟨⟨⟨h1,h2,h3⟩,h4⟩,h5⟩,h6⟩:=h;exact⟨(nf h1).1,(nf h1).2,by omega,by omega,fun s hs=>sP (by omega) (h5 s hs),by omega,fun w hw=>pB (by omega) (u_ h6 w hw)⟩
theorem sf{i:Nat}{s:Step}(hi:i≤1000000)(h:xe s):(u9 i s).length≤160:=by have h1:=yy 6 i (by simp;omega);have h2:=dF h.n.cE;have h3:=oZ h.n.u6;have h4:=oZ h.n.next;have h5:=u7 h.n.min h.n.max;have:=h.dt;have:=h.next;unfold u9 fZ dO fM ke rf;simp only[List.length_append,List.length_cons,List.length_nil];omega
theorem xf{s:Step}(h:xe s):(Ah s).length≤27:=by
 unfold Ah;split
 ·rename_i hb;rcases h.n.back with⟨e,_⟩|⟨h1,h2⟩
  ·omega
  have:=dF h1;have:=dF h2;unfold ox qb;simp only[List.length_append,List.length_cons,List.length_nil];omega
 simp
theorem oz{w:bZ}(h:kK w.src∧kK w.dst∧kK w.dI):(dE w).length≤30:=by have:=dF h.1;have:=dF h.2.1;have:=dF h.2.2;rw[iK];unfold ik;simp only[List.length_append,List.length_cons,List.length_nil];omega
theorem yz{a b:Int}(h1:kK a)(h2:kK b):(gY a b).length≤21:=by have:=u7 h1 h2;rw[lG];unfold nk;simp only[List.length_append,List.length_cons,List.length_nil];omega
theorem va: ∀{l:List Step} {k:Nat},k+l.length≤1000000→(∀s∈l,xe s)→(f_ k l).length≤l.length*188
 |[],_,_,_=>Nat.zero_le _
 |s::r,k,hk,h=>by rw[List.length_cons]at hk;have h1:=sf (i:=k) (by omega) (h s (by simp));have h2:=xf (h s (by simp));have h3:=va (l:=r) (k:=k+1) (by omega) fun s hs=>h s (List.mem_cons_of_mem _ hs);unfold f_;rw[oy];simp only[List.length_append,List.length_cons];omega
theorem xg: ∀{l:List bZ},(∀w∈l,kK w.src∧kK w.dst∧kK w.dI)→(kg l).length≤l.length*31
 |[],_=>Nat.zero_le _
 |w::r,h=>by have h1:=oz (h w (by simp));have h3:=xg (l:=r) fun s hs=>h s (List.mem_cons_of_mem _ hs);unfold kg;simp only[List.length_append,List.length_cons];omega
def aS(c n:Int):Int:=(if c<0 then -(c+1)else c).tmod n
theorem b_{c n:Int}(hn:0<n):0≤aS c n∧aS c n<n:=by
 unfold aS;have h:0≤(if c<0 then -(c+1)else c):=by split<;>omega
 exact⟨Int.tmod_nonneg _ h,Int.tmod_lt_of_pos _ hn⟩
theorem lb{c n:Int}(h:qN c)(hn:0<n):qN (c.tdiv n):=by
 unfold qN at h⊢;rcases Int.lt_or_le c 0 with h0|h0
 ·have h1:0≤(-c).tdiv n:=Int.tdiv_nonneg (by omega) (by omega);have h2:(-c).tdiv n≤ -c:=Int.tdiv_le_self _ (by omega);rw[Int.neg_tdiv]at h1 h2;omega
 have h1:0≤c.tdiv n:=Int.tdiv_nonneg h0 (by omega);have h2:c.tdiv n≤c:=Int.tdiv_le_self _ h0;omega
structure Y6 where
 y0:Int
 y1:Int
 y2:Int
 y3:Int
 y4:Int
 y5:Int
structure Y6.fit(y:Y6):Prop where
 h0:qN y.y0
 h1:qN y.y1
 h2:qN y.y2
 h3:qN y.y3
 h4:qN y.y4
 h5:qN y.y5
structure Y3 where
 z0:Int
 z1:Int
 z2:Int
structure Y3.fit(z:Y3):Prop where
 h0:qN z.z0
 h1:qN z.z1
 h2:qN z.z2
def zF:Y6:=⟨0,0,0,0,0,0⟩
theorem IW:zF.fit:=⟨⟨by decide,by decide⟩,⟨by decide,by decide⟩,⟨by decide,by decide⟩,⟨by decide,by decide⟩,⟨by decide,by decide⟩,⟨by decide,by decide⟩⟩
def eV(y:Y6):List Int:=aS y.y2 6::if aS (y.y2.tdiv 6) 2=0 then [aS y.y2 6+1+aS (y.y2.tdiv 12) 3]else []
def fX(y:Y6)(n i:Nat):List Int:=
 if(i:Int)<n-1∧0<aS y.y3 12 then
  ((i:Int)+1)::if(i:Int)+2+aS (y.y3.tdiv 12) 3<n∧aS (y.y3.tdiv 36) 3=0 then [(i:Int)+2+aS (y.y3.tdiv 12) 3]else []
 else []
def mP(y:Y6)(n i:Nat):Step:=
 ⟨1+aS y.y0 5,eV y,1+aS y.y1 30,1+aS y.y1 30+aS (y.y1.tdiv 30) 20,fX y n i,if aS y.y4 4=0 then aS (y.y4.tdiv 4) (i+1)else -1,if aS y.y4 4=0 then 1+aS y.y5 3 else 0⟩
def eM(x:List Y6):Nat:=max 1 (min x.length 8)
theorem rU(x:List Y6):1≤eM x∧eM x≤8:=by unfold eM;omega
def jT(x:List Y6)(k:Nat):List Step:=(List.range k).map fun i=>mP (x.getD i zF) (eM x) i
theorem yA(x:List Y6)(k:Nat):jT x (k+1)=jT x k++[mP (x.getD k zF) (eM x) k]:=by unfold jT;rw[List.range_succ,List.map_append];rfl
theorem sC(x:List Y6)(k:Nat):(jT x k).length=k:=by simp[jT]
def sQ(n:Nat)(z:Y3):bZ:=⟨aS z.z0 n,aS z.z1 n,10+aS z.z2 150⟩
def sg(n:Nat)(l:List bZ)(z:Y3):List bZ:=if(sQ n z).src≠(sQ n z).dst∧follows l (sQ n z)=true then l++[sQ n z]else l
def gg(n:Nat)(zs:List Y3)(k:Nat):List bZ:=(zs.take k).foldl (sg n) []
theorem oA(n:Nat)(zs:List Y3)(k:Nat)(h:k<zs.length):gg n zs (k+1)=sg n (gg n zs k) zs[k]:=by unfold gg;rw[List.take_add_one,List.getElem?_eq_getElem h,List.foldl_append];rfl
theorem qd(n:Nat)(zs:List Y3): ∀k,k≤zs.length→(gg n zs k).length≤k
 |0,_=>by simp[gg]
 |k+1,h=>by
  have ih:=qd n zs k (by omega);rw[oA n zs k (by omega)];unfold sg;split
  ·rw[List.length_append];simp only[List.length_cons,List.length_nil];omega
  omega
def mk(x:List Y6)(zs:List Y3):bQ:=⟨2,5,jT x (eM x),gg (eM x) zs (min zs.length 4)⟩
theorem yB(y:Y6)(n i:Nat)(hi:i<n):bT (mP y n i) n=true:=by
 have p0:=b_ (c:=y.y0) (n:=5) (by omega);have p1:=b_ (c:=y.y1) (n:=30) (by omega);have p2:=b_ (c:=y.y1.tdiv 30) (n:=20) (by omega);have p3:=b_ (c:=y.y2) (n:=6) (by omega);have p4:=b_ (c:=y.y2.tdiv 12) (n:=3) (by omega);have p5:=b_ (c:=y.y3.tdiv 12) (n:=3) (by omega);have p6:=b_ (c:=y.y4.tdiv 4) (n:=(i:Int)+1) (by omega);have p7:=b_ (c:=y.y5) (n:=3) (by omega);have ht:ascending (eV y) 0 59=true∧within (eV y).length 1 8=true:=by
  unfold eV;split
  ·simp[ascending,iF,within];omega
  simp[ascending,iF,within];omega
 have hx:ascending (fX y n i) 0 (n-1)=true∧(fX y n i).length≤4:=by
  unfold fX;split
  ·rename_i h;split
   ·rename_i h';simp[ascending,iF,within];omega
   simp[ascending,iF,within];omega
  simp[ascending]
 have hb:((if aS y.y4 4=0 then aS (y.y4.tdiv 4) (i+1)else -1)== -1&&(if aS y.y4 4=0 then 1+aS y.y5 3 else 0)==0||within (if aS y.y4 4=0 then aS (y.y4.tdiv 4) (i+1)else -1) 0 (n-1)&&within (if aS y.y4 4=0 then 1+aS y.y5 3 else 0) 1 9)=true:=by
  split
  ·simp[within];right;omega
  simp
 unfold bT mP;simp only[ht.1,ht.2,hx.1,hb,Bool.true_and,Bool.and_true,Bool.and_eq_true,decide_eq_true_eq];have:=hx.2;refine⟨⟨⟨⟨?_,?_⟩,?_⟩,?_⟩,?_⟩
 ·omega
 ·unfold within;simp;omega
 ·omega
 ·omega
 omega
theorem oB{n:Int}{w:bZ}: ∀{l pre:List bZ},dB n pre (l++[w])=(dB n pre l&&(de w n&&follows (pre++l) w))
 |[],pre=>by simp[dB]
 |v::r,pre=>by rw[List.cons_append];unfold dB;rw[oB,List.append_assoc];simp[Bool.and_assoc]
theorem xh(n:Nat)(hn:1≤n)(zs:List Y3): ∀k,k≤zs.length→dB n [] (gg n zs k)=true
 |0,_=>by simp[gg,dB]
 |k+1,h=>by
  have ih:=xh n hn zs k (by omega);rw[oA n zs k (by omega)];generalize zs[k]=z;unfold sg;split
  ·rename_i hc;rw[oB,ih,List.nil_append,hc.2,Bool.and_true,Bool.true_and];have p0:=b_ (c:=z.z0) (n:=n) (by omega);have p1:=b_ (c:=z.z1) (n:=n) (by omega);have p2:=b_ (c:=z.z2) (n:=150) (by omega);have h1:=hc.1;unfold sQ at h1;unfold de sQ within;simp only[Bool.and_eq_true,decide_eq_true_eq,bne_iff_ne,ne_eq];exact⟨⟨⟨⟨by omega,by omega⟩,by omega,by omega⟩,h1⟩,by omega,by omega⟩
  exact ih
theorem GB(x:List Y6)(zs:List Y3):valid (mk x zs)=true:=by
 have hn:=rU x;have hl:=sC x (eM x);have hw:=qd (eM x) zs (min zs.length 4) (by omega);have hk:=xh (eM x) hn.1 zs (min zs.length 4) (by omega);unfold valid;simp only[Bool.and_eq_true,decide_eq_true_eq,List.all_eq_true];refine⟨⟨⟨⟨by simp[dA,mk],?_⟩,?_⟩,?_⟩,?_⟩
 ·unfold within mk;simp only[hl];simp;omega
 ·show((gg (eM x) zs (min zs.length 4)).length:Int)≤20;omega
 ·intro s hs;unfold mk at hs⊢;simp only[hl];unfold jT at hs;obtain⟨i,hi,rfl⟩:=List.mem_map.1 hs;exact yB _ _ i (List.mem_range.1 hi)
 unfold mk;simp only[hl];exact hk
end Go.Proofs.YtgehbndkogohpaaGreatDoor
namespace Go.Proofs.YtgehbndkogohpaaGreatDoor
open Go Go.K
set_option maxRecDepth 10000
attribute [local irreducible] W WL cD bc bK bd bg bh cq ck
set_option maxHeartbeats 4000000
theorem iW(c n:Int)(g:G)(hc:qN c)(hn:n≠0):CallsIn Wd 0 Tryz.prog 62 #[.int .i64 c,.int .i64 n] g.w (cF g fun _ r=>r= .int .i64 (aS c n)):=by
 have hs:=St.start g;refine enter Tryz.func62 rfl Tryz.ntmps62 rfl ?_;unfold qN at hc;refine aY rfl ?_;apply aD;refine aY rfl ?_;by_cases lU:c<0
 ·refine aM (b:=decide (c<0)) (by simp[lU]) rfl ?_;apply aA;refine bj rfl ?_;refine cN 2 rfl ?_;refine ak rfl rfl (oQ rfl rfl rfl hn ?_);refine bj rfl ?_;refine aI (aX rfl rfl (hs.ret ?_));unfold aS;rw[if_pos lU,wr (n:=c+1) (by omega) (by omega),wr (by omega) (by omega),Int.zero_sub]
 refine aV (b:=decide (c<0)) (by simp;omega) rfl ?_;apply aF;apply ar;refine cN 2 rfl ?_;refine ak rfl rfl (oQ rfl rfl rfl hn ?_);refine bj rfl ?_;refine aI (aX rfl rfl (hs.ret ?_));unfold aS;rw[if_neg lU]
theorem tI(c n:Int)(g:G)(hc:qN c)(hn:n≠0):CallsIn Wd 0 Tryz.prog 8 #[.int .i64 c,.int .i64 n] g.w (cF g fun _ r=>r= .int .i64 (aS c n)):=by
 have hs:=St.start g;refine enter Tryz.func8 rfl Tryz.ntmps8 rfl ?_;unfold qN at hc;refine aY rfl ?_;apply aD;refine aY rfl ?_;by_cases lU:c<0
 ·refine aM (b:=decide (c<0)) (by simp[lU]) rfl ?_;apply aA;refine bj rfl ?_;refine cN 2 rfl ?_;refine ak rfl rfl (oQ rfl rfl rfl hn ?_);refine bj rfl ?_;refine aI (aX rfl rfl (hs.ret ?_));unfold aS;rw[if_pos lU,wr (n:=c+1) (by omega) (by omega),wr (by omega) (by omega),Int.zero_sub]
 refine aV (b:=decide (c<0)) (by simp;omega) rfl ?_;apply aF;apply ar;refine cN 2 rfl ?_;refine ak rfl rfl (oQ rfl rfl rfl hn ?_);refine bj rfl ?_;refine aI (aX rfl rfl (hs.ret ?_));unfold aS;rw[if_neg lU]
theorem gO(c n:Int)(g:G)(hc:qN c)(hn:n≠0):CallsIn Wd 0 Tryz.prog 24 #[.int .i64 c,.int .i64 n] g.w (cF g fun _ r=>r= .int .i64 (aS c n)):=by
 have hs:=St.start g;refine enter Tryz.func24 rfl Tryz.ntmps24 rfl ?_;unfold qN at hc;refine aY rfl ?_;apply aD;refine aY rfl ?_;by_cases lU:c<0
 ·refine aM (b:=decide (c<0)) (by simp[lU]) rfl ?_;apply aA;refine bj rfl ?_;refine cN 2 rfl ?_;refine ak rfl rfl (oQ rfl rfl rfl hn ?_);refine bj rfl ?_;refine aI (aX rfl rfl (hs.ret ?_));unfold aS;rw[if_pos lU,wr (n:=c+1) (by omega) (by omega),wr (by omega) (by omega),Int.zero_sub]
 refine aV (b:=decide (c<0)) (by simp;omega) rfl ?_;apply aF;apply ar;refine cN 2 rfl ?_;refine ak rfl rfl (oQ rfl rfl rfl hn ?_);refine bj rfl ?_;refine aI (aX rfl rfl (hs.ret ?_));unfold aS;rw[if_neg lU]
theorem rk(v w:bZ)(g:G):CallsIn Wd 0 Tryz.prog 63 #[.agg (kh v).toArray,.agg (kh w).toArray] g.w (cF g fun _ r=>r= .bool (ly v w)):=by
 have hs:=St.start g;have aq:=G.le.refl g;unfold kh;refine enter Tryz.func63 rfl Tryz.ntmps63 rfl ?_;apply cM;refine ak rfl rfl (aO rfl hs rfl rfl ?_);clear hs;rintro bx g1 hs ah;obtain⟨g2,bL,aT,ah,aL⟩:=hs.ba (i:=0) rfl;replace hs:=aT;clear aT;rw[←bL];have aC:=aL;clear aL bL ah;skip;refine ak rfl rfl (aO rfl hs rfl rfl ?_);clear hs;rintro ZB g1 hs ah;replace aC:=aC.mono ah;obtain⟨g2,bL,aT,ah,aL⟩:=hs.ba (i:=0) rfl;replace hs:=aT;clear aT;rw[←bL];replace aC:=aC.mono ah;have aR:=aL;clear aL bL ah;refine bj rfl ?_;refine dz 6 [.z aC,.z aR] (St.start _) rfl ?_;unfold ly;cases h1:decide (v.src<w.src)with
 |true=>
  refine bj rfl ?_;refine aI ?_;skip;refine aX rfl rfl (hs.ret ?_);rfl
 |false=>
  refine Wm 6 [.z aC,.z aR] (St.start _) rfl ?_;cases h2:v.src==w.src with
  |false=>
   refine bj rfl ?_;refine aI ?_;skip;refine aX rfl rfl (hs.ret ?_);rfl
  |true=>
   refine Dk [.z aC,.z aR] (St.start _) rfl ?_;refine aI ?_;skip;refine aX rfl rfl (hs.ret ?_);rfl
def Ud(z:Y3):Fact:=
 ⟨fun v g=> ∃b p,v= .pointer (some ⟨b,p,none⟩)∧EP g b p [.int .i64 z.z0,.int .i64 z.z1,.int .i64 z.z2],fun _ _ _ hf ⟨b,p,e,h1⟩=>⟨b,p,e,h1.mono hf.le⟩⟩
def jU(n:Int):Fact:=⟨fun v g=> ∃b p,v= .pointer (some ⟨b,p,none⟩)∧EP g b p [.int .i64 n],fun _ _ _ hf ⟨b,p,e,h1⟩=>⟨b,p,e,h1.mono hf.le⟩⟩
instance:El Y6 where
 k:=6
 pos:=by omega
 rc _ cs y:=cs=[.int .i64 y.y0,.int .i64 y.y1,.int .i64 y.y2,.int .i64 y.y3,.int .i64 y.y4,.int .i64 y.y5]
 len h:=by rw[h];rfl
 mono _ h:=h
 one h:=by rw[h];simp[Value.oneCell']
instance:El Y3 where
 k:=3
 pos:=by omega
 rc _ cs y:=cs=[.int .i64 y.z0,.int .i64 y.z1,.int .i64 y.z2]
 len h:=by rw[h];rfl
 mono _ h:=h
 one h:=by rw[h];simp[Value.oneCell']
theorem rm: ∀(l:List bZ) (w:bZ),kL (l++[w])=kL l++kh w
 |[],w=>by simp[kL]
 |v::l,w=>by rw[List.cons_append];simp only[kL];rw[rm l w,List.append_assoc]
theorem Ee{l:List bZ}{v:bZ}(h:l.getLast? =some v):vj T 58 (kL l) ((l.length-1)*3)=some (.agg (kh v).toArray):=by
 obtain⟨r,rfl⟩: ∃r,l=r++[v]:=by
  rcases List.eq_nil_or_concat l with rfl|⟨r,x,rfl⟩
  ·cases h
  rw[List.concat_eq_append]at h⊢;rw[List.getLast?_append]at h;simp at h;exact⟨r,by rw[h]⟩
 rw[rm,List.length_append];have hl:=vg r;show(bif Nat.ble ((r.length+1-1)*3+3) (kL r++kh v).length then some (Value.agg (((kL r++kh v).drop ((r.length+1-1)*3)).take 3).toArray)else none)=_;rw[Nat.add_sub_cancel,Nat.ble_eq_true_of_le (by rw[List.length_append,hl];exact Nat.le_refl _),←hl,List.drop_left];rfl
end Go.Proofs.YtgehbndkogohpaaGreatDoor
