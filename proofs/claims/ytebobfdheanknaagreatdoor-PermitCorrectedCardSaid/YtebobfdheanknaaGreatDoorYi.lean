/- Parts of the proof, from: Sorting facts by a function that compares: blocks sorted, then merged. -/
import Derived.Test.YtebobfdheanknaaGreatDoorYh
import Derived.Test.YtebobfdheanknaaGreatDoorYg
import Derived.Test.YtebobfdheanknaaGreatDoorYb
import Derived.ChangeKeysEq
namespace Go.Proofs.YtebobfdheanknaaGreatDoor
open Go Go.K
set_option maxRecDepth 10000
attribute [local irreducible] W WL cT bu bX bA bB bD cW cG
set_option maxHeartbeats 8000000
def rV{α:Type}(k:α→Int×Int)(B:Nat):Nat→List α→List α
 |0,l=>dK k l
 |n+1,l=>dK k (l.take B)++rV k B n (l.drop B)
def bk{α:Type}(k:α→Int×Int)(B:Nat)(l:List α):List α:=rV k B (l.length/B) l
theorem px{α:Type}{k:α→Int×Int}{B:Nat}{l:List α}(h:l.length<B):bk k B l=dK k l:=by
 unfold bk;rw[Nat.div_eq_of_lt h];rfl
theorem nM{α:Type}{k:α→Int×Int}{B:Nat}{l:List α}(h0:0<B)(h:B≤l.length):bk k B l=dK k (l.take B)++bk k B (l.drop B):=by
 unfold bk
 rw[List.length_drop,Nat.div_eq_sub_div h0 h];rfl
theorem DL{α:Type}{k:α→Int×Int}{B:Nat}{l:List α}(h0:0<B)(h:l.length≤B):bk k B l=dK k l:=by
 rcases Nat.lt_or_ge l.length B with h1|h1
 ·exact px h1
 ·rw[nM h0 h1,List.take_of_length_le h,List.drop_of_length_le h,px (by simpa using h0)];simp[dK]
theorem fR{α:Type}{k:α→Int×Int}(l:List α):(dK k l).length=l.length:=(iM l).length_eq
theorem A1{α:Type}{k:α→Int×Int}{B:Nat}: ∀(n:Nat) (l:List α),(rV k B n l).length=l.length
 |0,l=>fR l
 |n+1,l=>by
  show(dK k (l.take B)++rV k B n (l.drop B)).length=_
  rw[List.length_append,fR,A1 n,List.length_take,List.length_drop];omega
theorem I8{α:Type}{k:α→Int×Int}{B:Nat}(l:List α):(bk k B l).length=l.length:=A1 _ l
theorem DN(tw:Bool){fo:Value}{kf:bc→Int×Int}{ad:Option Addr}{n c:Nat}{L:List cV}(Z:List bc){g0 g:G}(hn:Z.length=n)(hm:n≤1000000000)(hk:zG fo kf g)(hs:St g0 g (eP (ll tw) ad n c Z::L)):
  CallsIn Wd 0 Tryz.prog (M7 tw) #[.slice ad n c,.int .i64 (n:Nat),fo] g.w (eu g fun g' r=>r= .tuple #[]∧St g0 g' (eP (ll tw) ad n c (dK kf Z)::L)):=by
 cases tw
 case' false=>let tw:=false
 case' true=>let tw:=true
 all_goals
  have aq:=G.le.refl g
  first|refine enter Tryz.func193 rfl Tryz.ntmps193 rfl ?_|refine enter Tryz.func264 rfl Tryz.ntmps264 rfl ?_
  refine aX rfl ?_;refine aX rfl ?_;apply aB;apply aG
  refine bS (fun m a' w=> ∃(X Y:List bc) (g':G),w=g'.w∧St g0 g' (eP (ll tw) ad n c (X++Y)::L)∧G.le g g'∧X++bk kf 20 Y=bk kf 20 Z∧X.length+Y.length=n∧m=Y.length∧
    Fr 63 [] [(0,.slice ad n c),(1,.int .i64 (n:Nat)),(2,fo),(6,.int .i64 20),(7,.int .i64 (X.length:Nat)),(8,.int .i64 (X.length+20:Nat))] a') n
   (fun a' ha=>⟨[],Z,g,rfl,hs,aq,rfl,by simpa using hn,hn.symm,ha.keep ⟨rfl,rfl,rfl,rfl,rfl,rfl,trivial⟩⟩) ?_
  clear hs aq
  rintro m a' _ ⟨X,Y,g',rfl,hs,aq,h1,h2,rfl,eI⟩
  revert a'
  apply cQ;apply aB;refine aX rfl ?_
  by_cases bh:20≤Y.length
  ·refine aJ (b:=decide (((X.length+20:Nat):Int)≤((n:Nat):Int))) (by simp;omega) rfl ?_
   apply aE;apply au;apply aG;refine cP 4 rfl ?_
   have hS:(Y.take 20).length=20:=by rw[List.length_take];omega
   have hV:(Y.drop 20).length=Y.length-20:=List.length_drop
   refine cE (.int .i64 (X.length+(Y.take 20).length:Nat)) (t:=16) rfl (congrArg (Value.int .i64) (by rw[hS])) ?_
   refine an rfl rfl (dv (M3 tw) aI rfl rfl rfl rfl rfl (H3 tw X (Y.take 20) (Y.drop 20) (by omega) hm (hk.mono aq) (by rw[List.append_assoc,List.take_append_drop];exact hs)) ?_)
   clear hs
   rintro g5 _ ah ⟨rfl,hs⟩;replace aq:=G.le.trans aq ah
   apply cf;refine aX rfl ?_;apply ar;refine Wp 4 rfl ?_;apply aD;apply bU
   rw[nM (by decide) bh]at h1
   have hl:=fR (k:=kf) (Y.take 20)
   exact fun a ha=>⟨(Y.drop 20).length,by omega,X++dK kf (Y.take 20),Y.drop 20,g5,rfl,hs,aq,by rw[List.append_assoc];exact h1,by rw[List.length_append];omega,rfl,ha.keep ⟨rfl,rfl,rfl,rfl,kI rfl (by rw[List.length_append];omega),kI rfl (by rw[wr (by omega) (by omega),List.length_append];omega),trivial⟩⟩
  ·refine aS (b:=decide (((X.length+20:Nat):Int)≤((n:Nat):Int))) (by simp;omega) rfl ?_
   apply bE;apply bK;apply bK;apply dc;apply au;refine cP 4 rfl ?_
   refine cE (.int .i64 (X.length+Y.length:Nat)) (t:=25) rfl (congrArg (Value.int .i64) (by rw[h2])) ?_
   refine an rfl rfl (dv (M3 tw) aI rfl rfl rfl rfl rfl (H3 tw X Y [] (by simpa using h2.symm) hm (hk.mono aq) (by rw[List.append_nil];exact hs)) ?_)
   clear hs
   rintro g5 _ ah ⟨rfl,hs⟩;replace aq:=G.le.trans aq ah
   rw[List.append_nil,←px (k:=kf) (B:=20) (l:=Y) (by omega),h1]at hs
   clear h1 h2 bh
   apply cf;apply aG
   refine bS (fun m a' w=> ∃(B:Nat) (g':G),w=g'.w∧St g0 g' (eP (ll tw) ad n c (bk kf B Z)::L)∧G.le g g'∧1≤B∧B≤2000000000∧m=n-B∧
     Fr 63 [] [(0,.slice ad n c),(1,.int .i64 (n:Nat)),(2,fo),(6,.int .i64 (B:Nat))] a') (n-20)
    (fun a' ha=>⟨20,g5,rfl,hs,aq,by omega,by omega,rfl,ha.keep ⟨rfl,rfl,rfl,rfl,trivial⟩⟩) ?_
   clear hs aq
   rintro m a' _ ⟨B,g',rfl,hs,aq,hB,Wk,rfl,eI⟩
   revert a'
   apply cQ;apply aB;refine aX rfl ?_
   by_cases bh:B<n
   ·refine aJ (b:=decide (((B:Nat):Int)<((n:Nat):Int))) (by simp;omega) rfl ?_
    apply aE;apply au;apply aG;refine aX rfl ?_;apply aB;apply aG
    refine bS (fun m a' w=> ∃(X Y:List bc) (g':G),w=g'.w∧St g0 g' (eP (ll tw) ad n c (X++bk kf B Y)::L)∧G.le g g'∧X++bk kf (2*B) Y=bk kf (2*B) Z∧X.length+Y.length=n∧m=Y.length∧
      Fr 63 [] [(0,.slice ad n c),(1,.int .i64 (n:Nat)),(2,fo),(6,.int .i64 (B:Nat)),(7,.int .i64 (X.length:Nat)),(8,.int .i64 (X.length+2*B:Nat))] a') n
     (fun a' ha=>⟨[],Z,g',rfl,hs,aq,rfl,by simpa using hn,hn.symm,ha.keep ⟨rfl,rfl,rfl,rfl,rfl,kI rfl (by rw[wr (by omega) (by omega)];simp),trivial⟩⟩) ?_
    clear hs aq
    rintro m a' _ ⟨X,Y,g',rfl,hs,aq,h1,h2,rfl,eI⟩
    revert a'
    apply cQ;apply aB;refine aX rfl ?_
    by_cases hle:2*B≤Y.length
    ·refine aJ (b:=decide (((X.length+2*B:Nat):Int)≤((n:Nat):Int))) (by simp;omega) rfl ?_
     apply aE;apply au;apply aG;refine cP 7 rfl ?_
     have l1:(Y.take B).length=B:=by rw[List.length_take];omega
     have l2:((Y.drop B).take B).length=B:=by rw[List.length_take,List.length_drop];omega
     have l3:(Y.drop (2*B)).length=Y.length-2*B:=List.length_drop
     rw[nM (by omega) (by omega),nM (l:=Y.drop B) (by omega) (by rw[List.length_drop];omega),List.drop_drop,show B+B=2*B from by omega,←List.append_assoc,←List.append_assoc]at hs
     rw[nM (by omega) hle]at h1
     have e1:dK kf (Y.take (2*B))=lE kf (dK kf (Y.take B)) (dK kf ((Y.drop B).take B)):=by
      rw[←pb,show 2*B=B+B from by omega,List.take_add]
     have m1:=fR (k:=kf) (Y.take B)
     have m2:=fR (k:=kf) ((Y.drop B).take B)
     have s1:=jG (k:=kf) (Y.take B)
     have s2:=jG (k:=kf) ((Y.drop B).take B)
     have m4:=I8 (k:=kf) (B:=B) (Y.drop (2*B))
     generalize dK kf (Y.take B)=XA at hs e1 m1 s1
     generalize dK kf ((Y.drop B).take B)=XB at hs e1 m2 s2
     refine cE (.int .i64 (X.length+XA.length:Nat)) (t:=40) rfl (congrArg (Value.int .i64) (by rw[wr (by omega) (by omega)];omega)) ?_
     refine cE (.int .i64 (X.length+XA.length+XB.length:Nat)) (t:=41) rfl (congrArg (Value.int .i64) (by omega)) ?_
     refine an rfl rfl (dv (Ga tw) aI rfl rfl rfl rfl rfl (sQ tw hm _ X XA XB _ rfl (by omega) (by omega) s1 s2 (by omega) (hk.mono aq) hs) ?_)
     clear hs
     rintro g6 _ ah ⟨rfl,hs⟩;replace aq:=G.le.trans aq ah
     apply cf;refine aX rfl ?_;apply ar;refine Wp 5 rfl ?_;apply aD;apply bU
     rw[←e1]at hs
     have m3:=fR (k:=kf) (Y.take (2*B))
     have l4:(Y.take (2*B)).length=2*B:=by rw[List.length_take];omega
     exact fun a ha=>⟨(Y.drop (2*B)).length,by omega,X++dK kf (Y.take (2*B)),Y.drop (2*B),g6,rfl,hs,aq,by rw[List.append_assoc];exact h1,by rw[List.length_append];omega,rfl,ha.keep ⟨rfl,rfl,rfl,rfl,kI rfl (by rw[List.length_append];omega),kI rfl (by rw[wr (n:=2*_) (by omega) (by omega),wr (by omega) (by omega),List.length_append];omega),trivial⟩⟩
    ·refine aS (b:=decide (((X.length+2*B:Nat):Int)≤((n:Nat):Int))) (by simp;omega) rfl ?_
     apply bE;apply bK;apply bK;apply dc;apply au;apply aB;refine aX rfl ?_;refine aX rfl ?_
     rw[px (by omega)]at h1
     by_cases Wl:B<Y.length
     ·refine aJ (b:=decide (IntKind.i64.wrap (((X.length:Nat):Int)+((B:Nat):Int))<((n:Nat):Int))) (by rw[wr (by omega) (by omega)];simp;omega) rfl ?_
      apply ar;refine Wp 5 rfl ?_
      have l1:(Y.take B).length=B:=by rw[List.length_take];omega
      have l2:(Y.drop B).length=Y.length-B:=List.length_drop
      rw[nM (by omega) (by omega),px (l:=Y.drop B) (by omega),←List.append_assoc]at hs
      have e1:dK kf Y=lE kf (dK kf (Y.take B)) (dK kf (Y.drop B)):=by rw[←pb,List.take_append_drop]
      have m1:=fR (k:=kf) (Y.take B)
      have m2:=fR (k:=kf) (Y.drop B)
      have s1:=jG (k:=kf) (Y.take B)
      have s2:=jG (k:=kf) (Y.drop B)
      generalize dK kf (Y.take B)=XA at hs e1 m1 s1
      generalize dK kf (Y.drop B)=XB at hs e1 m2 s2
      refine cE (.int .i64 (X.length+XA.length:Nat)) (t:=57) rfl (congrArg (Value.int .i64) (by rw[wr (by omega) (by omega)];omega)) ?_
      refine cE (.int .i64 (X.length+XA.length+XB.length:Nat)) (t:=58) rfl (congrArg (Value.int .i64) (by omega)) ?_
      refine an rfl rfl (dv (Ga tw) aI rfl rfl rfl rfl rfl (sQ tw hm _ X XA XB [] rfl (by omega) (by omega) s1 s2 (by simp only[List.length_nil];omega) (hk.mono aq) (by rw[List.append_nil];exact hs)) ?_)
      clear hs
      rintro g6 _ ah ⟨rfl,hs⟩;replace aq:=G.le.trans aq ah
      apply cf;apply ar;refine Wp 3 rfl ?_;apply aD;apply bU
      rw[←e1,List.append_nil,h1]at hs
      exact fun a ha=>⟨n-2*B,by omega,2*B,g6,rfl,hs,aq,by omega,by omega,rfl,ha.keep ⟨rfl,rfl,rfl,kI rfl (by rw[wr (by omega) (by omega)];omega),trivial⟩⟩
     ·refine aS (b:=decide (IntKind.i64.wrap (((X.length:Nat):Int)+((B:Nat):Int))<((n:Nat):Int))) (by rw[wr (by omega) (by omega)];simp;omega) rfl ?_
      apply aE;apply au;apply ar;refine Wp 3 rfl ?_;apply aD;apply bU
      rw[DL (by omega) (by omega),h1]at hs
      exact fun a ha=>⟨n-2*B,by omega,2*B,g',rfl,hs,aq,by omega,by omega,rfl,ha.keep ⟨rfl,rfl,rfl,kI rfl (by rw[wr (by omega) (by omega)];omega),trivial⟩⟩
   ·refine aS (b:=decide (((B:Nat):Int)<((n:Nat):Int))) (by simp;omega) rfl ?_
    apply bE;apply bK;apply bK;apply dc
    rw[DL (by omega) (by omega)]at hs
    exact k5 rfl (eu.intro aq ⟨rfl,hs⟩)
theorem vm(tw:Bool){fo:Value}{kf:bc→Int×Int}{ad:Option Addr}{n c:Nat}{L:List cV}(Z:List bc){g0 g:G}(hn:Z.length=n)(hm:n≤1000000000)(hk:zG fo kf g)(hs:St g0 g (eP (ll tw) ad n c Z::L)):
  CallsIn Wd 0 Tryz.prog (M8 tw) #[.slice ad n c,fo] g.w (eu g fun g' r=>r= .tuple #[]∧St g0 g' (eP (ll tw) ad n c (dK kf Z)::L)):=by
 cases tw
 case' false=>let tw:=false
 case' true=>let tw:=true
 all_goals
  have aq:=G.le.refl g
  first|refine enter Tryz.func110 rfl Tryz.ntmps110 rfl ?_|refine enter Tryz.func199 rfl Tryz.ntmps199 rfl ?_
  apply ar;refine Wp 4 rfl ?_
  refine an rfl rfl (dv (Qm tw) aI rfl rfl rfl rfl rfl (DN tw Z hn hm hk hs) ?_)
  clear hs
  rintro g6 _ ah ⟨rfl,hs⟩;replace aq:=G.le.trans aq ah
  apply aD
  exact k5 rfl (eu.intro aq ⟨rfl,hs⟩)
theorem DO{fi:Nat}{kf:bc→Int×Int}{ad:Option Addr}{n c:Nat}{L:List cV}(Z:List bc){g0 g:G}(hn:Z.length=n)(hm:n≤1000000000)(hk:DC (.func (.func fi) #[] #[]) kf g)(hs:St g0 g (eP 54 ad n c Z::L)):
  CallsIn Wd 0 Tryz.prog 43 #[.slice ad n c,.func (.func fi) #[] #[]] g.w (eu g fun g' r=>r= .tuple #[]∧St g0 g' (eP 54 ad n c (dK kf Z)::L)):=by
 have aq:=G.le.refl g
 refine enter Tryz.func43 rfl Tryz.ntmps43 rfl ?_
 apply c_
 refine an rfl rfl (aR rfl hs rfl rfl ?_);clear hs;rintro b1 g1 hs ah;replace aq:=G.le.trans aq ah
 obtain⟨g2,bR,aU,ah,aL⟩:=hs.a_ (i:=0) rfl;replace hs:=aU;clear aU;rw[←bR];replace aq:=G.le.trans aq ah
 have aC:=aL;clear aL
 apply cf;apply ar;refine Wp 2 rfl ?_
 refine an rfl rfl (dv (M9 false) aI rfl rfl rfl rfl rfl (vm false Z hn hm (fun g' h x y=>de (first:=#[]) (args:=[fv x,fv y]) (captured:=#[.pointer (some ⟨b1,0,none⟩)]) Li rfl (DD x y g' (aC.mono h) (hk.mono (aq.trans h)))) hs) ?_)
 clear hs
 rintro g6 _ ah ⟨rfl,hs⟩;replace aq:=G.le.trans aq ah
 apply aD
 exact k5 rfl (eu.intro aq ⟨rfl,hs⟩)
end Go.Proofs.YtebobfdheanknaaGreatDoor
namespace Go.Proofs.YtebobfdheanknaaGreatDoor
open Go Go.K
set_option maxRecDepth 10000
attribute [local irreducible] W WL cT bu bX bA bB bD cW cG
set_option maxHeartbeats 8000000
def sR{κ:Type}[DecidableEq κ][fg κ](g:G)(b:Nat)(m:List (κ×Value)):Prop:=g.im b∧g.w.heap[b]? =some (et m)
theorem sR.mono{κ:Type}[DecidableEq κ][fg κ]{g g':G}{b:Nat}{m:List (κ×Value)}(h:sR g b m)(hle:g.le g'):sR g' b m:=⟨(hle b h.1).1,(hle b h.1).2.trans h.2⟩
theorem DP{κ:Type}[DecidableEq κ][fg κ]{g0 g:G}{L:List cV}(hs:St g0 g L){i b:Nat}{m:List (κ×Value)}(hi:L[i]? =some (.obj b (et m))): ∃g',g'.w=g.w∧St g0 g' (L.eraseIdx i)∧g.le g'∧sR g' b m:=
 ⟨g.fz _ fun b hb=>((hs.own i _ hi).lt b hb).2.1,rfl,hs.fz hi,G.ph _ _ _,.inr rfl,(hs.own i _ hi).2.1⟩
def sS(b:Nat)(sl:Nat→Value):cV:=.obj b (.cells ((List.range 11).map sl).toArray 35 (0,0))
def wz(sl:Nat→Value)(xs:Nat→List bc):List cV:=(List.range 11).map fun i=> .row 54 19 (sl i) (xs i).length (fl (xs i))
def xC{α:Type}(f:Nat→α)(i:Nat)(x:α):Nat→α:=fun j=>if j=i then x else f j
theorem Ge(sl:Nat→Value)(xs:Nat→List bc):(wz sl xs).length=11:=by simp[wz]
theorem wA{sl:Nat→Value}{xs:Nat→List bc}{i:Nat}(hi:i<11):(wz sl xs)[i]? =some (.row 54 19 (sl i) (xs i).length (fl (xs i))):=by
 unfold wz;rw[List.getElem?_map,List.getElem?_range hi];rfl
theorem A2{sl:Nat→Value}{xs:Nat→List bc}{i:Nat}(v:Value)(ys:List bc):(wz sl xs).set i (.row 54 19 v ys.length (fl ys))=wz (xC sl i v) (xC xs i ys):=by
 refine List.ext_getElem? fun j=> ?_
 unfold wz xC
 rw[List.getElem?_set,List.getElem?_map,List.getElem?_map,List.length_map]
 by_cases h:i=j
 ·subst h
  rcases Nat.lt_or_ge i 11 with hj|hj
  ·simp[hj]
  ·simp[hj,List.length_range]
 ·rw[if_neg h]
  rcases Nat.lt_or_ge j 11 with hj|hj
  ·rw[List.getElem?_range hj];simp only[Option.map_some];rw[if_neg fun e=>h e.symm];rw[if_neg fun e=>h e.symm]
  ·rw[List.getElem?_eq_none (by simpa using hj)];rfl
theorem Gf{sl:Nat→Value}{i:Nat}(hi:i<11)(v:Value):lF ((List.range 11).map sl) i [v]=(List.range 11).map (xC sl i v):=by
 have h:((List.range 11).map sl).set i v=(List.range 11).map (xC sl i v):=by
  refine List.ext_getElem? fun j=> ?_
  unfold xC
  rw[List.getElem?_set,List.getElem?_map,List.getElem?_map,List.length_map,List.length_range]
  by_cases h:i=j
  ·subst h;simp[hi]
  ·rw[if_neg h]
   rcases Nat.lt_or_ge j 11 with hj|hj
   ·rw[List.getElem?_range hj];simp only[Option.map_some];rw[if_neg fun e=>h e.symm]
   ·rw[List.getElem?_eq_none (by simpa using hj)];rfl
 rw[←h]
 unfold lF
 rw[List.set_eq_take_append_cons_drop,if_pos (by simpa using hi)]
 simp
def iI(g:G)(v:Value)(b:fX):Prop:=∃sl:Nat→Value,v= .agg ((List.range 11).map sl).toArray∧ ∀i,i<11→Rs g (sl i) (b.ls i)
theorem iI.mono{g g':G}{v:Value}{b:fX}(h:iI g v b)(hle:g.le g'):iI g' v b:=by
 obtain⟨sl,e,h⟩:=h;exact⟨sl,e,fun i hi=>(h i hi).mono hle⟩
instance{g g':G}{v:Value}{b:fX}:Mn (iI g v b) g g' (iI g' v b):=⟨fun h a=>a.mono h⟩
theorem cO.fl(g:G): ∀xs:List bc,cO g (Go.K.fl xs) xs
 |[]=>rfl
 |x::xs=>⟨bW x,Go.K.fl xs,sk x xs,rfl,cO.fl g xs⟩
theorem DQ{sl:Nat→Value}{i:Nat}(hi:i<11):ve T 24 ((List.range 11).map sl) i=some (sl i):=by
 show((List.range 11).map sl)[i]? =_
 rw[List.getElem?_map,List.getElem?_range hi];rfl
theorem ky: ∀(n:Nat) (js:List Nat),js.Nodup→(∀j∈js,j<n)→js.length≤n
 |0,[],_,_=>Nat.le_refl _
 |0,j::_,_,h=>absurd (h j (List.mem_cons_self ..)) (by omega)
 |n+1,js,hn,h=>by
  have ih:=ky n (js.erase n) (hn.erase n) (fun j hj=>by
   have h1:=h j (List.mem_of_mem_erase hj)
   have h2:j≠n:=fun e=>by subst e;exact(List.Nodup.not_mem_erase hn) hj
   omega)
  have:=List.length_erase (a:=n) (l:=js)
  split at this<;>omega
theorem vn{α:Type}: ∀{l:List α} {i:Nat} (x:α),i<l.length→(x::l.eraseIdx i).Perm (l.set i x)
 |[],_,_,h=>absurd h (Nat.not_lt_zero _)
 |y::l,0,x,_=>List.Perm.refl _
 |y::l,i+1,x,h=>(List.Perm.swap _ _ _).trans ((vn x (by simpa using h)).cons y)
theorem DR{g0:G}{sl:Nat→Value}{xs:Nat→List bc}: ∀(is:List Nat) {g:G} {R:List cV},St g0 g ((is.map fun i=> .row 54 19 (sl i) (xs i).length (fl (xs i)))++R)→ ∃g',g'.w=g.w∧St g0 g' R∧g.le g'∧ ∀i∈is,Rs g' (sl i) (xs i)
 |[],g,R,hs=>⟨g,rfl,hs,G.le.refl g,by simp⟩
 |i::is,g,R,hs=>by
  obtain⟨g1,e1,h1,h2,h3⟩:=hs.cL (α:=bc) (i:=0) rfl (cO.fl g (xs i))
  obtain⟨g2,e2,k1,k2,k3⟩:=DR is (g:=g1) h1
  refine⟨g2,e2.trans e1,k1,h2.trans k2,fun j hj=> ?_⟩
  rcases List.mem_cons.1 hj with rfl|hj
  ·exact h3.mono k2
  ·exact k3 j hj
theorem DS{M:KF}{js:List Nat}{j:Nat}{p:List UInt8×bc}(hp:M[j]? =some p)(i:Nat):gH (qw M (js++[j])) i=gH (qw M js) i++(if !p.2.gone&&decide (p.2.kind=(i:Int)+1)then [p.2]else []):=by
 rw[sH hp,Db]
 congr 1
 unfold gH
 rw[List.filter_cons]
 split<;>rfl
theorem BX{j:Nat}{q:Int×Value}(h:kx[j]? =some q):j<11∧q=((j:Int)+1,pv j):=by
 have bh:j<11:=by have:=(List.getElem?_eq_some_iff.1 h).1;exact this
 rcases ku bh with rfl|rfl|rfl|rfl|rfl|rfl|rfl|rfl|rfl|rfl|rfl<;>exact⟨bh,(Option.some.inj h).symm⟩
def H4(g0:G)(A:List cV)(sl:Nat→Value)(xs:Nat→List bc)(i:Nat)(f:bc)(ρ:Nat→Option Value)(g:G):Prop:=
 match ρ 6 with
 |none=>St g0 g (A++wz sl xs)
 |some v=>(∃a c,v= .slice a ((xs i).length+1) c)∧St g0 g (A++wz (xC sl i v) (xC xs i (xs i++[f])))
theorem DT{g0:G}{A:List cV}{sl:Nat→Value}{xs:Nat→List bc}{i:Nat}{f:bc}(ρ:Nat→Option Value)(g g':G)(hf:aZ g g')(h:H4 g0 A sl xs i f ρ g):H4 g0 A sl xs i f ρ g':=by
 unfold H4 at h⊢
 split at h
 ·exact h.call hf
 ·exact⟨h.1,h.2.call hf⟩
theorem DU{f:bc}(h:fp f≠[]):1≤f.kind∧f.kind≤11:=by
 have v1:fm f=true:=by cases e:fm f with|true=>rfl|false=>exact absurd (by unfold fp;rw[e];rfl) h
 obtain⟨s,hs,_⟩:=kQ v1
 obtain⟨_,_,_,_,_,_,h1,h2⟩:=mO hs
 exact⟨h1,h2⟩
theorem Na{sl:Nat→Value}(h: ∀i,i<11→(sl i).oneCell'=true):((((List.range 11).map sl).drop 0).take 11).all Value.oneCell'=true:=by
 rw[List.all_eq_true]
 intro v hv
 obtain⟨i,hi,rfl⟩:=List.mem_map.1 (List.mem_of_mem_drop (List.mem_of_mem_take hv))
 exact h i (List.mem_range.1 hi)
theorem Qs(v:Value)(l:List bc)(day:Int)(g:G)(aH:Rs g v l)(hl:l.length≤1000000):CallsIn Wd 0 Tryz.prog 13 #[v,.int .i64 day] g.w (cR g fun g' r=>iI g' r (ofM l day)):=by
 have hs:=St.start g
 have aq:=G.le.refl g
 obtain⟨a,c,rfl⟩:=aH.isSlice
 have hT:qJ (List UInt8) Tryz.prog 79 _:=zw T.ok rfl rfl rfl rfl rfl
 have hK:qJ Int Tryz.prog 82 _:=zw T.ok rfl rfl rfl rfl rfl
 refine enter Tryz.func13 rfl Tryz.ntmps13 rfl ?_
 apply c_
 refine an rfl rfl (aK T.ok rfl hs rfl rfl ?_);clear hs;rintro b4 g1 hs ah;obtain⟨aq,aH⟩:=cC ah aq aH
 apply cf;apply c_
 refine an rfl rfl (jH (κ:=List UInt8) rfl hs ?_)
 clear hs;intro bm g1 hs ah;obtain⟨aq,aH⟩:=cC ah aq aH
 refine ba rfl ?_;apply aB;refine aX rfl ?_;apply aG
 refine bS (fun m a' w=> ∃(i:Nat) (g':G),w=g'.w∧St g g' [.obj bm (et (cq (jU day (l.take i)))),sS b4 fun _=> .slice none 0 0]∧G.le g g'∧Rs g' (.slice a l.length c) l∧i≤l.length∧m=l.length-i∧
   Fr 91 [] [(1,.int .i64 day),(4,.pointer (some ⟨b4,0,none⟩)),(5,.map (some bm)),(19,.slice a l.length c),(20,.int .i64 (l.length:Nat)),(21,.int .i64 (i:Nat))] a') l.length
  (fun a' ha=>⟨0,g1,rfl,hs,aq,aH,Nat.zero_le _,rfl,ha.keep (by(repeat (first|exact trivial|refine⟨rfl,?_⟩)))⟩) ?_
 clear hs aH aq
 rintro m a' _ ⟨i,g',rfl,hs,aq,aH,hi,rfl,eI⟩
 revert a'
 apply cQ;refine aX rfl ?_;apply aB
 by_cases bh:i<l.length
 ·refine aJ (b:=decide ((i:Int)<(l.length:Int))) (decide_eq_true (by omega)) rfl ?_
  have ic:dA l (i:Int)=some l[i]:=cU rfl bh
  have fw:l.take (i+1)=l.take i++[l[i]]:=by rw[List.take_add_one,List.getElem?_eq_getElem bh];rfl
  generalize l[i]=x at*
  have jn:jU day (l.take (i+1))=iD day (jU day (l.take i)) x:=by rw[fw,C_]
  generalize jU day (l.take i)=M at hs jn
  apply aE;apply au;apply aB;apply aG;apply c_
  refine an rfl rfl (aW T.ok rfl aH (y:=x) ic rfl rfl rfl rfl rfl rfl ?_)
  rintro b p ys aL eK
  obtain rfl:ys=bW x:=eK
  have aC:=aL;clear aL
  refine Wm 1 [.e aC 0] (St.start _) rfl ?_
  refine an rfl rfl (aK T.ok rfl hs rfl rfl ?_);clear hs;rintro b7 g1 hs ah;obtain⟨aq,aH⟩:=cC ah aq aH
  refine bg rfl (aA T.ok 0 rfl hs rfl rfl rfl rfl rfl rfl rfl rfl rfl ?_);replace hs:=hs;rintro g1 hs ah;obtain⟨aq,aH⟩:=cC ah aq aH
  obtain⟨g2,bR,aU,ah,aL⟩:=hs.a_ (i:=0) rfl;replace hs:=aU;clear aU;rw[←bR];obtain⟨aq,aH⟩:=cC ah aq aH
  have aP:=aL;clear aL
  clear aC
  apply cf;refine dx 1 [.z aP] (St.start _) rfl ?_
  refine an rfl rfl (ay IQ aI rfl rfl rfl rfl rfl (Ds x _) ?_);rintro g1 _ aN rfl;replace hs:=hs.call aN;have ah:=aN.le;obtain⟨aq,aP,aH⟩:=ef ah aq aP aH
  refine ba rfl ?_;apply aB;refine cP 3 rfl ?_
  by_cases hk:fp x=[]
  ·refine cE (.bool true) (t:=29) rfl (congrArg Value.bool (by show((bs (fp x)).toList==(bs []).toList)=true;rw[cD,cD,hk];rfl)) ?_
   refine ba rfl ?_
   refine aJ rfl rfl ?_
   apply bE;apply bK;apply dc;apply au;apply ar;refine Wp 2 rfl ?_;apply aD
   have e:iD day M x=M:=by unfold iD;rw[if_pos (.inl hk)]
   rw[e]at jn
   exact fun a ha=>⟨l.length-(i+1),by omega,i+1,_,rfl,by rw[jn];exact hs,aq,aH,by omega,rfl,ha.keep ⟨rfl,rfl,rfl,rfl,rfl,kI rfl (by rw[wr (by omega) (by omega)];omega),trivial⟩⟩
  refine cE (.bool false) (t:=29) rfl (congrArg Value.bool (by show((bs (fp x)).toList==(bs []).toList)=false;rw[cD,cD];simp[hk])) ?_
  refine A3 [.z aP] (St.start _) rfl ?_
  by_cases hd:day<x.day
  ·refine aJ (b:=decide (day<x.day)) (decide_eq_true hd) rfl ?_
   apply bE;apply bK;apply dc;apply au;apply ar;refine Wp 2 rfl ?_;apply aD
   have e:iD day M x=M:=by unfold iD;rw[if_pos (.inr hd)]
   rw[e]at jn
   exact fun a ha=>⟨l.length-(i+1),by omega,i+1,_,rfl,by rw[jn];exact hs,aq,aH,by omega,rfl,ha.keep ⟨rfl,rfl,rfl,rfl,rfl,kI rfl (by rw[wr (by omega) (by omega)];omega),trivial⟩⟩
  refine aS (b:=decide (day<x.day)) (decide_eq_false hd) rfl ?_
  apply aE;apply au;refine cP 2 rfl ?_
  refine an rfl rfl (l_ hT rfl (hs.own 0 _ rfl).2.1 rfl (a:=fp x) rfl ?_)
  have hg:=AK (fp x) M
  have hb:iD day M x=if(match zt (fp x) M with|none=>true|some o=>oa x o)=true then mE (fp x) x M else M:=by
   unfold iD;exact if_neg (by simp[hk,hd])
  cases Nb:zt (fp x) M with
  |none=>
   rw[Nb]at hg hb
   refine cE (.tuple #[fv gF,.bool false]) (t:=38) rfl (by rw[hg];rfl) ?_
   refine Wp 3 rfl ?_
   refine an rfl rfl (aK T.ok rfl hs rfl rfl ?_);clear hs;rintro b9 g1 hs ah;obtain⟨aq,aP,aH⟩:=ef ah aq aP aH
   refine bg rfl (aA T.ok 0 rfl hs rfl rfl rfl rfl rfl rfl rfl rfl rfl ?_);replace hs:=hs;rintro g1 hs ah;obtain⟨aq,aP,aH⟩:=ef ah aq aP aH
   obtain⟨g2,bR,aU,ah,aL⟩:=hs.a_ (i:=0) rfl;replace hs:=aU;clear aU;rw[←bR];obtain⟨aq,aP,aH⟩:=ef ah aq aP aH
   have dO:=aL;clear aL
   refine ba rfl ?_;refine aX rfl ?_
   refine aJ rfl rfl ?_
   apply ar;refine Wm 3 [.z aP] (St.start _) rfl ?_
   refine bg rfl (dC hT 0 (.inl rfl) hs rfl rfl (a:=fp x) rfl rfl ?_)
   clear hs;intro g6 hs ah;obtain⟨aq,aP,dO,aH⟩:=dE ah aq aP dO aH
   replace hs:St g g6 [.obj bm (et (iX (fp x) (fv x) (cq M))),sS b4 fun _=> .slice none 0 0]:=hs
   rw[wg]at hs
   apply aD;apply bU;apply au;apply ar;refine Wp 2 rfl ?_;apply aD
   rw[hb,if_pos rfl]at jn
   exact fun a ha=>⟨l.length-(i+1),by omega,i+1,_,rfl,by rw[jn];exact hs,aq,aH,by omega,rfl,ha.keep ⟨rfl,rfl,rfl,rfl,rfl,kI rfl (by rw[wr (by omega) (by omega)];omega),trivial⟩⟩
  |some o=>
   rw[Nb]at hg hb
   refine cE (.tuple #[fv o,.bool true]) (t:=38) rfl (by rw[hg];rfl) ?_
   refine Wp 3 rfl ?_
   refine an rfl rfl (aK T.ok rfl hs rfl rfl ?_);clear hs;rintro b9 g1 hs ah;obtain⟨aq,aP,aH⟩:=ef ah aq aP aH
   refine bg rfl (aA T.ok 0 rfl hs rfl rfl rfl rfl rfl rfl rfl rfl rfl ?_);replace hs:=hs;rintro g1 hs ah;obtain⟨aq,aP,aH⟩:=ef ah aq aP aH
   obtain⟨g2,bR,aU,ah,aL⟩:=hs.a_ (i:=0) rfl;replace hs:=aU;clear aU;rw[←bR];obtain⟨aq,aP,aH⟩:=ef ah aq aP aH
   have dO:=aL;clear aL
   refine ba rfl ?_;refine dx 5 [.z aP,.z dO] (St.start _) rfl ?_
   refine an rfl rfl (ay PG aI rfl rfl rfl rfl rfl (zF x o _) ?_);rintro g1 _ aN rfl;replace hs:=hs.call aN;have ah:=aN.le;obtain⟨aq,aP,aH⟩:=ef ah aq aP aH
   refine ba rfl ?_
   cases hp:oa x o with
   |true=>
    refine aJ rfl rfl ?_
    apply ar;refine Wm 3 [.z aP] (St.start _) rfl ?_
    refine bg rfl (dC hT 0 (.inl rfl) hs rfl rfl (a:=fp x) rfl rfl ?_)
    clear hs;intro g6 hs ah;obtain⟨aq,aP,aH⟩:=ef ah aq aP aH
    replace hs:St g g6 [.obj bm (et (iX (fp x) (fv x) (cq M))),sS b4 fun _=> .slice none 0 0]:=hs
    rw[wg]at hs
    apply aD;apply bU;apply au;apply ar;refine Wp 2 rfl ?_;apply aD
    rw[hb,if_pos hp]at jn
    exact fun a ha=>⟨l.length-(i+1),by omega,i+1,_,rfl,by rw[jn];exact hs,aq,aH,by omega,rfl,ha.keep ⟨rfl,rfl,rfl,rfl,rfl,kI rfl (by rw[wr (by omega) (by omega)];omega),trivial⟩⟩
   |false=>
    refine aS rfl rfl ?_
    apply aE;apply bU;apply au;apply ar;refine Wp 2 rfl ?_;apply aD
    rw[hb,if_neg (by simp[hp])]at jn
    exact fun a ha=>⟨l.length-(i+1),by omega,i+1,_,rfl,by rw[jn];exact hs,aq,aH,by omega,rfl,ha.keep ⟨rfl,rfl,rfl,rfl,rfl,kI rfl (by rw[wr (by omega) (by omega)];omega),trivial⟩⟩
 ·refine aS (b:=decide ((i:Int)<(l.length:Int))) (decide_eq_false (by omega)) rfl ?_
  rw[List.take_of_length_le (by omega)]at hs
  have hM:=AM day l
  have Sy:=xK day l
  have Sz:ofM l day=⟨fun i=>dK (lj i) (gH (jU day l) i)⟩:=rfl
  rw[Sz]
  generalize jU day l=M at hs hM Sy
  clear Sz hi bh aH
  apply bE;apply bK;apply bK;apply dc;apply au;apply c_
  obtain⟨g2,bR,aU,ah,kz⟩:=DP hs (i:=0) rfl
  rw[←bR];replace hs:=aU;clear aU;replace aq:=G.le.trans aq ah;clear bR ah
  refine an rfl rfl (aK T.ok rfl hs rfl rfl ?_);clear hs;rintro we g1 hs ah;replace aq:=G.le.trans aq ah;replace kz:=kz.mono ah
  apply cf;apply c_
  refine an rfl rfl (ay PH aI rfl rfl rfl rfl rfl (F_ _) ?_)
  rintro g5 _ oe ⟨bk,rfl,rS,CX⟩
  have lq:sR g5 bk kx:=⟨rS,CX⟩;clear rS CX
  replace hs:=hs.call oe;have ah:=oe.le;replace aq:=G.le.trans aq ah;replace kz:=kz.mono ah
  clear oe
  refine ba rfl ?_;apply aB;refine cP 1 rfl ?_
  refine an rfl rfl (qM hT rfl kz.2 rfl hs ?_)
  clear hs;intro r1 g6 hs ah;replace aq:=G.le.trans aq ah;replace kz:=kz.mono ah;replace lq:=lq.mono ah
  iterate 11 replace hs:=hs.gI 54 19 none
  replace hs:St g g6 (wz (fun _=> .slice none 0 0) (fun _=>[])++[.obj r1 (wB bm (cq M).length #[]),sS we fun _=> .slice none 0 0,sS b4 fun _=> .slice none 0 0]):=hs
  replace hs:=hs.perm List.perm_append_comm
  apply cf;apply aG
  refine bS (fun m a' w=> ∃(seen:Array Nat) (sl:Nat→Value) (g':G),w=g'.w∧St g g' ([.obj r1 (wB bm (cq M).length seen),sS we sl,sS b4 fun _=> .slice none 0 0]++wz sl fun i=>gH (qw M seen.toList) i)∧G.le g g'∧sR g' bm (cq M)∧sR g' bk kx∧seen.toList.Nodup∧(∀j∈seen.toList,j<M.length)∧m=M.length-seen.toList.length∧
    Fr 91 [] [(4,.pointer (some ⟨b4,0,none⟩)),(11,.pointer (some ⟨we,0,none⟩)),(12,.map (some bk)),(54,.pointer (some ⟨r1,0,none⟩))] a') M.length
   (fun a' ha=>⟨#[],fun _=> .slice none 0 0,g6,rfl,hs,aq,kz,lq,by simp,by simp,rfl,ha.keep (by(repeat (first|exact trivial|refine⟨rfl,?_⟩)))⟩) ?_
  clear hs aq kz lq
  rintro m a' _ ⟨seen,sl,g',rfl,hs,aq,kz,lq,AN,bh,rfl,eI⟩
  have H5:=ky _ _ AN bh
  revert a'
  apply cQ;apply c_
  refine an rfl rfl (sT 0 rfl hs rfl kz.2 rfl (fun dh=> ?_) (fun j q g6 hq hj H6 ah=> ?_))
  rotate_left
  ·obtain⟨p,hp,rfl⟩:=IM hq
   have OU:j<M.length:=(List.getElem?_eq_some_iff.1 hp).1
   have wC:(seen.toList++[j]).Nodup:=List.nodup_append.2 ⟨AN,by simp,by intro a ha b hb;rw[List.mem_singleton.1 hb];rintro rfl;exact hj (by simpa using ha)⟩
   have rW: ∀k∈seen.toList++[j],k<M.length:=by intro k hk;rcases List.mem_append.1 hk with hk|hk;exact bh k hk;rw[List.mem_singleton.1 hk];exact OU
   have BY:=ky _ _ wC rW
   rw[List.length_append,List.length_singleton]at BY
   have jm: ∀i,gH (qw M (seen.push j).toList) i=gH (qw M seen.toList) i++(if !p.2.gone&&decide (p.2.kind=(i:Int)+1)then [p.2]else []):=fun i=>by rw[Array.toList_push];exact DS hp i
   have zI:=wh M seen.toList
   clear hs;replace hs:=H6;clear H6;replace aq:=G.le.trans aq ah;replace kz:=kz.mono ah;replace lq:=lq.mono ah
   replace hs:St g g6 ([.obj r1 (wB bm (cq M).length (seen.push j)),sS we sl,sS b4 fun _=> .slice none 0 0]++wz sl fun i=>gH (qw M seen.toList) i):=hs
   refine ba rfl ?_;apply aB
   refine aJ rfl rfl ?_
   apply aE;apply au;apply aG;apply c_
   refine an rfl rfl (qN 0 rfl hs rfl kz.2 rfl hq ?_)
   refine Wp 1 rfl ?_
   refine an rfl rfl (aK T.ok rfl hs rfl rfl ?_);clear hs;rintro Pq g1 hs ah;replace aq:=G.le.trans aq ah;replace kz:=kz.mono ah;replace lq:=lq.mono ah
   refine bg rfl (aA T.ok 0 rfl hs rfl rfl rfl rfl rfl rfl rfl rfl rfl ?_);replace hs:=hs;rintro g1 hs ah;replace aq:=G.le.trans aq ah;replace kz:=kz.mono ah;replace lq:=lq.mono ah
   obtain⟨g2,bR,aU,ah,aL⟩:=hs.a_ (i:=0) rfl;replace hs:=aU;clear aU;rw[←bR];replace aq:=G.le.trans aq ah;replace kz:=kz.mono ah;replace lq:=lq.mono ah
   have aP:=aL;clear aL
   apply cf;refine nK [.z aP] (St.start _) rfl ?_
   have Kt:=hM.2 p (List.mem_of_getElem? hp)
   rw[Kt.1]at Kt
   obtain⟨rS,CX⟩:=DU Kt.2
   clear Kt
   generalize p.2=f at*
   cases I9:f.gone with
   |true=>
    refine aS rfl rfl ?_
    apply aE;apply bU
    have e:(fun i=>gH (qw M seen.toList) i)=fun i=>gH (qw M (seen.push j).toList) i:=by funext i;rw[jm,I9];simp
    rw[e]at hs
    exact fun a ha=>⟨M.length-(seen.push j).toList.length,by rw[Array.toList_push,List.length_append,List.length_singleton];omega,seen.push j,sl,_,rfl,hs,aq,kz,lq,by rw[Array.toList_push];exact wC,by rw[Array.toList_push];exact rW,rfl,ha.keep (by(repeat (first|exact trivial|refine⟨rfl,?_⟩)))⟩
   |false=>
    refine aJ rfl rfl ?_
    obtain⟨i,kK⟩: ∃i:Nat,f.kind=(i:Int)+1:=⟨(f.kind-1).toNat,by omega⟩
    have hi:i<11:=by omega
    have SA:=BU rS CX
    rw[show(f.kind-1).toNat=i from by omega]at SA
    obtain⟨xs,I7⟩: ∃xs,xs=fun i=>gH (qw M seen.toList) i:=⟨_,rfl⟩
    have zJ: ∀i,gH (qw M seen.toList) i=xs i:=fun i=>by rw[I7]
    rw[←I7]at hs
    have e:xC xs i (xs i++[f])=fun i=>gH (qw M (seen.push j).toList) i:=by
     funext k;unfold xC;rw[jm,I9,kK,zJ]
     by_cases Dt:k=i
     ·subst Dt;simp
     ·rw[if_neg Dt,if_neg (by simp;omega),List.append_nil]
    have FJ:(xs i).length≤1000000:=by have:=sI (qw M seen.toList) i;rw[zJ]at this;omega
    clear jm zI hp zJ I7
    refine dx 3 [.z aP] (St.start _) rfl ?_
    refine an rfl rfl (l_ hK rfl lq.2 rfl (a:=f.kind) rfl ?_)
    refine cE (pv i) (t:=65) rfl (by rw[SA];rfl) ?_
    refine Wp 1 rfl ?_
    refine an rfl rfl (ay (Dw (ku hi)) aI rfl rfl rfl rfl rfl (H2 (ku hi) we _) ?_)
    rintro g7 _ uM rfl;replace hs:=hs.call uM;have ah:=uM.le;obtain⟨aq,aP⟩:=cC ah aq aP;replace kz:=kz.mono ah;replace lq:=lq.mono ah
    refine ba rfl ?_
    have hL:=hs.own (i+3) _ (wA hi)
    obtain⟨sa,sc,jr⟩:=hL.1.form
    clear hL
    apply lJ (eJ (fe (.e (.slice sa (xs i).length sc)::fe (.f (Fact.rs [f]):: .f Fact.any::[])))) 7 [(0,68),(6,74)] [6] [[3]] (H4 g [.obj r1 (wB bm (cq M).length (seen.push j)),sS we sl,sS b4 fun _=> .slice none 0 0] sl xs i f) DT (by unfold H4;exact hs.dr) (by kernel_rfl) ⟨cr _,cY,trivial⟩
    ·refine Um [[],[],[1]] [] (by kernel_rfl) rfl ?_
     refine bC (cH (js:=[(2,70)]) (by kernel_rfl) rfl fun ρ g8 h1 _ hle hJ=>cI rfl (bd (az rfl ?_))) ?_
     ·unfold H4 at hJ;rw[h1 0 [3] 6 rfl rfl (by simp)]at hJ
      exact eS T.ok 1 rfl hJ rfl rfl ((DQ hi).trans (by rw[jr])) ⟨g8,rfl,aZ.refl _,rfl⟩
     refine Um [[]] [.z aP] (by kernel_rfl) rfl ?_
     refine bC (cH (js:=[(4,72)]) (by kernel_rfl) rfl fun ρ g8 _ _ hle hJ=>cI rfl (bd (az rfl (bj T.ok rfl (St.start g8) (vs:=[(0,fv f)]) (cells:=bW f) rfl rfl rfl rfl rfl rfl (by decide) (by decide) (by kernel_rfl) rfl fun b g' iS _=> ?_)))) ?_
     ·obtain⟨g2,e1,e2,e3⟩:=kj (α:=bc) iS (xs:=[f]) ⟨bW f,[],(List.append_nil _).symm,rfl,rfl⟩
      exact⟨g2,e1,e2,e3⟩
     refine bC (il (js:=[(3,71),(5,73)]) (by kernel_rfl) rfl fun ρ g8 h1 _ h3 hle hJ=>cI rfl (cJ fun v5 h5=>bd ⟨rfl,?_⟩)) ?_
     ·unfold H4 at hJ;rw[h3]at hJ
      replace h5:Rs g8 v5 [f]:=h5
      obtain⟨a5,c5,rfl⟩:=h5.isSlice
      obtain⟨_,news,hn,gn⟩:=Src.jq h5
      obtain⟨c1,c2,rfl,rfl,rfl⟩:=hn
      rw[List.append_nil]at gn
      refine b_ T.ok (i+3) rfl hJ (wA hi) (by rw[jr];rfl) rfl rfl rfl rfl rfl (by decide) rfl gn (El.one (α:=bc) (g:=g8) (x:=f) rfl) (by show((xs i).length+1)*160≤_;omega) (by show(xs i).length+1≤maxLen;unfold maxLen;omega) fun a' c' g9 FL DV=>⟨g9,rfl,⟨DV,?_⟩,trivial⟩
      refine(show(∃a c,Value.slice a' ((xs i).length+1) c'= .slice a ((xs i).length+1) c)∧St g g9 (_++wz (xC sl i (.slice a' ((xs i).length+1) c')) (xC xs i (xs i++[f])))from⟨⟨a',c',rfl⟩,?_⟩)
      rw[←A2,List.length_append,List.length_singleton,lr]
      have e5:fl [f]=bW f:=List.append_nil _
      rw[e5]
      exact FL
     exact vc
    intro ρ g9 hle hJ dh
    refine cI rfl (fH rfl fun v6 _ r6=>bd ?_)
    unfold H4 at hJ;rw[r6]at hJ
    obtain⟨⟨a6,c6,rfl⟩,hs⟩:=hJ
    have ah:=(G.bJ _).trans hle;obtain⟨aq,aP⟩:=cC ah aq aP;replace kz:=kz.mono ah;replace lq:=lq.mono ah
    clear hle dh r6 ρ
    refine Wp 1 rfl ?_
    refine bg rfl (aA T.ok 1 rfl hs rfl rfl rfl rfl rfl rfl rfl (Nat.ble_eq_true_of_le (by show i+1≤11;omega)) (Gf hi _) ?_)
    clear hs;intro g10 hs ah;obtain⟨aq,aP⟩:=cC ah aq aP;replace kz:=kz.mono ah;replace lq:=lq.mono ah
    replace hs:St g g10 ([.obj r1 (wB bm (cq M).length (seen.push j)),sS we (xC sl i (.slice a6 ((xs i).length+1) c6)),sS b4 fun _=> .slice none 0 0]++wz (xC sl i (.slice a6 ((xs i).length+1) c6)) (xC xs i (xs i++[f]))):=hs
    rw[e]at hs
    apply aD;apply bU
    exact fun a ha=>⟨M.length-(seen.push j).toList.length,by rw[Array.toList_push,List.length_append,List.length_singleton];omega,seen.push j,_,_,rfl,hs,aq,kz,lq,by rw[Array.toList_push];exact wC,by rw[Array.toList_push];exact rW,rfl,ha.keep (by(repeat (first|exact trivial|refine⟨rfl,?_⟩)))⟩
  ·have rX:(qw M seen.toList).Perm M:=AO AN bh fun j hj=>by simpa using dh j (by rw[F0];exact hj)
   have lG: ∀i,(gH (qw M seen.toList) i).length≤1000000:=fun i=>by have:=sI (qw M seen.toList) i;have:=wh M seen.toList;omega
   have dm: ∀i,dK (lj i) (gH M i)=dK (lj i) (gH (qw M seen.toList) i):=fun i=>(zu hM (BQ rX i)).symm
   simp only[dm]
   clear rX dm AN bh H5 dh kz
   refine ba rfl ?_;apply aB
   refine aS rfl rfl ?_
   apply bE;apply bK;apply bK;apply dc;apply au;apply aB;refine cP 1 rfl ?_
   refine an rfl rfl (qM hK rfl lq.2 rfl hs ?_)
   clear hs;intro r2 g6 hs ah;replace aq:=G.le.trans aq ah;replace lq:=lq.mono ah
   replace hs:St g g6 ([.obj r2 (wB bk kx.length #[]),sS we sl,sS b4 fun _=> .slice none 0 0]++wz sl fun i=>gH (qw M seen.toList) i):=hs.drop 1
   generalize gH (qw M seen.toList)=xs at hs lG
   clear hM Sy hK
   apply cf;apply aG
   refine bS (fun m a' w=> ∃(seen:Array Nat) (ys:Nat→List bc) (g':G),w=g'.w∧St g g' ([.obj r2 (wB bk kx.length seen),sS we sl,sS b4 fun _=> .slice none 0 0]++wz sl ys)∧G.le g g'∧sR g' bk kx∧seen.toList.Nodup∧(∀j∈seen.toList,j<11)∧(∀i,ys i=if i∈seen.toList then dK (lj i) (xs i)else xs i)∧m=11-seen.toList.length∧
     Fr 91 [] [(4,.pointer (some ⟨b4,0,none⟩)),(11,.pointer (some ⟨we,0,none⟩)),(77,.pointer (some ⟨r2,0,none⟩))] a') 11
    (fun a' ha=>⟨#[],xs,g6,rfl,hs,aq,lq,by simp,by simp,by simp,rfl,ha.keep (by(repeat (first|exact trivial|refine⟨rfl,?_⟩)))⟩) ?_
   clear hs aq lq
   rintro m a' _ ⟨seen,ys,g',rfl,hs,aq,lq,AN,bh,H7,rfl,eI⟩
   have H5:=ky _ _ AN bh
   revert a'
   apply cQ;apply c_
   refine an rfl rfl (sT 0 rfl hs rfl lq.2 rfl (fun dh=> ?_) (fun j q g6 hq hj H6 ah=> ?_))
   rotate_left
   ·obtain⟨xW,rfl⟩:=BX hq
    have wD:j∉seen.toList:=by simpa using hj
    have wC:(seen.toList++[j]).Nodup:=List.nodup_append.2 ⟨AN,by simp,by intro a ha b hb;rw[List.mem_singleton.1 hb];rintro rfl;exact wD ha⟩
    have rW: ∀k∈seen.toList++[j],k<11:=by intro k hk;rcases List.mem_append.1 hk with hk|hk;exact bh k hk;rw[List.mem_singleton.1 hk];exact xW
    have BY:=ky _ _ wC rW
    rw[List.length_append,List.length_singleton]at BY
    clear hs;replace hs:=H6;clear H6;replace aq:=G.le.trans aq ah;replace lq:=lq.mono ah
    replace hs:St g g6 ([.obj r2 (wB bk kx.length (seen.push j)),sS we sl,sS b4 fun _=> .slice none 0 0]++wz sl ys):=hs
    refine ba rfl ?_;apply aB
    refine aJ rfl rfl ?_
    apply aE;apply au;apply aG;apply c_
    refine an rfl rfl (qN 0 rfl hs rfl lq.2 rfl hq ?_)
    refine Wp 1 rfl ?_
    refine an rfl rfl (aK T.ok rfl hs rfl rfl ?_);clear hs;rintro Pr g1 hs ah;replace aq:=G.le.trans aq ah;replace lq:=lq.mono ah
    refine bg rfl (aA T.ok 0 rfl hs rfl rfl rfl rfl rfl rfl rfl rfl rfl ?_);replace hs:=hs;rintro g1 hs ah;replace aq:=G.le.trans aq ah;replace lq:=lq.mono ah
    obtain⟨g2,bR,aU,ah,aL⟩:=hs.a_ (i:=0) rfl;replace hs:=aU;clear aU;rw[←bR];replace aq:=G.le.trans aq ah;replace lq:=lq.mono ah
    have aP:=aL;clear aL
    apply cf
    replace hs:St g _ ([.obj r2 (wB bk kx.length (seen.push j)),sS we sl,sS b4 fun _=> .slice none 0 0]++wz sl ys):=hs
    have hL:=hs.own (j+3) _ (wA xW)
    obtain⟨sa,sc,jr⟩:=hL.1.form
    clear hL
    apply bO hs (gE (.e (.slice sa (ys j).length sc)::eJ [])) 7 [(4,86),(6,88)] (by kernel_rfl) rfl
    ·refine Dm [[],[0],[1],[2]] [.z aP,.c (Dw (ku xW)) fun g _=>H2 (ku xW) we g] hs (by kernel_rfl) rfl ?_
     refine aw (ak (js:=[(3,85)]) (by kernel_rfl) fun gd hf=>ai rfl (aj (az rfl (eS T.ok 1 rfl (hs.dr.call hf) rfl rfl ((DQ xW).trans (by rw[jr])) ⟨gd,rfl,aZ.refl _,rfl⟩)))) ?_
     exact Dz [[],[5]] [.z aP] hs (by kernel_rfl) rfl
    clear hs;intro g8 hs ah;replace aq:=G.le.trans aq ah;replace lq:=lq.mono ah
    have aU:=hs.front (i:=j+3) (wA xW)
    rw[jr]at aU
    refine an rfl rfl (dv PI aI rfl rfl rfl rfl rfl (DO (fi:=rk j) (kf:=lj j) (ys j) rfl (by have:=lG j;rw[H7];split;rw[fR];all_goals omega) (fun g' _ f=>de (first:=#[]) (args:=[fv f]) (captured:=#[]) (I5 (ku xW)) rfl (MX (ku xW) f g')) aU) ?_)
    clear hs aU
    rintro g9 _ ah ⟨rfl,hs⟩;replace aq:=G.le.trans aq ah;replace lq:=lq.mono ah
    have e6:eP 54 sa (ys j).length sc (dK (lj j) (ys j))= .row 54 19 (sl j) (dK (lj j) (ys j)).length (fl (dK (lj j) (ys j))):=by rw[fR,jr]
    rw[e6]at hs
    replace hs:=hs.perm (vn _ (by rw[List.length_append,Ge];show j+3<3+11;omega))
    replace hs:St g g9 ([.obj r2 (wB bk kx.length (seen.push j)),sS we sl,sS b4 fun _=> .slice none 0 0]++(wz sl ys).set j (.row 54 19 (sl j) (dK (lj j) (ys j)).length (fl (dK (lj j) (ys j))))):=hs
    rw[A2,show xC sl j (sl j)=sl from by funext i;unfold xC;split<;>simp[*]]at hs
    apply aD;apply bU
    refine fun a ha=>⟨11-(seen.push j).toList.length,by rw[Array.toList_push,List.length_append,List.length_singleton];omega,seen.push j,_,_,rfl,hs,aq,lq,by rw[Array.toList_push];exact wC,by rw[Array.toList_push];exact rW,fun i=> ?_,rfl,ha.keep (by(repeat (first|exact trivial|refine⟨rfl,?_⟩)))⟩
    unfold xC
    rw[Array.toList_push]
    by_cases zK:i=j
    ·subst zK;rw[if_pos rfl,if_pos (by simp),H7,if_neg wD]
    ·rw[if_neg zK,H7];simp[zK]
   ·have Uc: ∀i,i<11→ys i=dK (lj i) (xs i):=fun i hi=>by rw[H7,if_pos (by simpa using dh i hi)]
    replace hs:=hs.perm List.perm_append_comm
    obtain⟨g7,BZ,B0,ah,py⟩:=DR (List.range 11) hs
    rw[←BZ];clear hs;replace hs:=B0;clear B0;clear BZ
    have h1: ∀i,i<11→(sl i).oneCell'=true:=fun i hi=>by
     obtain⟨a,c,e⟩:=(py i (List.mem_range.2 hi)).isSlice
     rw[e];rfl
    refine ba rfl ?_;apply aB
    refine aS rfl rfl ?_
    apply bE;apply bK;apply bK;apply dc;apply au;refine dx 1 [.o 1] hs rfl ?_
    refine bg rfl (aA T.ok 2 rfl hs rfl rfl rfl rfl rfl rfl (Na h1) rfl rfl ?_)
    clear hs;intro g8 hs ah
    apply cf
    refine aF (kJ T.ok 2 rfl hs rfl rfl rfl (hs.ret ⟨sl,rfl,fun i hi=> ?_⟩))
    have:=(py i (List.mem_range.2 hi)).mono ah
    rw[Uc i hi]at this
    exact this
end Go.Proofs.YtebobfdheanknaaGreatDoor
namespace Go.K
open Go Go.RowKit
variable {P:Program} {N:Nat} {l:Env} {g0 g:G} {L:List cV} {R:Ending→World→Prop}
theorem s7{fn:Func}{tb:Tb}(dn:tb.ok P)(i:Nat){t T b u:Nat}{cs:List Value}{E:TypeId}{fz:Nat×Nat}{v x:Value}(hr:fn.results=#[.cell t T,.tmp u])(hs:St g0 g L)(hi:L[i]? =some (.obj b (.cells cs.toArray E fz)))
  (hl:lk l t=some (.pointer (some ⟨b,0,none⟩))) (hv:ve tb T cs 0=some v) (hu:lk l u=some x) (hR:R (.returned (.tuple #[v,x])) g.w) (a:Act) (ha:Fr N [] l a):bodyPost P fn R .ret a g.w:=by
 refine⟨ha.defers,_,?_,hR⟩
 have:=iR (P:=P) (w:=g.w) (off:=0) (o:=0) dn hv (kg (hs.own i _ hi).2.1)
 simp only[Nat.add_zero]at this
 simp[results,hr,ha.get t _ hl,asAddr,this,ha.get u _ hu]
theorem NN{fn:Func}{tb:Tb}(dn:tb.ok P)(i:Nat){t T b u:Nat}{cs:List Value}{E:TypeId}{fz:Nat×Nat}{v x:Value}(hr:fn.results=#[.tmp u,.cell t T])(hs:St g0 g L)(hi:L[i]? =some (.obj b (.cells cs.toArray E fz)))
  (hl:lk l t=some (.pointer (some ⟨b,0,none⟩))) (hv:ve tb T cs 0=some v) (hu:lk l u=some x) (hR:R (.returned (.tuple #[x,v])) g.w) (a:Act) (ha:Fr N [] l a):bodyPost P fn R .ret a g.w:=by
 refine⟨ha.defers,_,?_,hR⟩
 have:=iR (P:=P) (w:=g.w) (off:=0) (o:=0) dn hv (kg (hs.own i _ hi).2.1)
 simp only[Nat.add_zero]at this
 simp[results,hr,ha.get t _ hl,asAddr,this,ha.get u _ hu]
end Go.K
namespace Go.Proofs.YtebobfdheanknaaGreatDoor
def visit(f:bV):Nat→List Bool→Int→List Bool
 |0,out,_=>out
 |k+1,out,n=>(jy (dG f n)).foldl (fun o m=>if o.getD m.toNat true then o else visit f k o m) (out.set n.toNat true)
def dT(f:bV)(k:Nat)(o:List Bool)(l:List Int):List Bool:=l.foldl (fun o m=>if o.getD m.toNat true then o else visit f k o m) o
theorem sV(f:bV)(k:Nat)(out:List Bool)(n:Int):visit f (k+1) out n=dT f k (out.set n.toNat true) (jy (dG f n)):=rfl
theorem uN(f:bV)(k:Nat)(o:List Bool)(pre:List Int)(x:Int):
  dT f k o (pre++[x])=if(dT f k o pre).getD x.toNat true=true then dT f k o pre else visit f k (dT f k o pre) x:=by
 unfold dT
 rw[List.foldl_append,List.foldl_cons,List.foldl_nil]
def ee(f:bV)(n:Int):List Bool:=visit f f.steps.length (List.replicate f.steps.length false) n
def jI:Nat→List Bool→List Int
 |_,[]=>[]
 |k,b::r=>(if b then [(k:Int)]else [])++jI (k+1) r
def reach(f:bV)(n:Int):List Int:=if given f [n]then jI 0 (ee f n)else []
def ends(f:bV):List Int:=(reach f 0).filter fun n=>xX (dG f n)
theorem mW(f:bV)(k:Nat)(hv: ∀o n,(visit f k o n).length=o.length∧(visit f k o n).count false≤o.count false)(l:List Int)(o:List Bool):
  (dT f k o l).length=o.length∧(dT f k o l).count false≤o.count false:=by
 induction l generalizing o with
 |nil=>exact⟨rfl,Nat.le_refl _⟩
 |cons m r ih=>
  unfold dT at ih⊢
  rw[List.foldl_cons]
  by_cases h:o.getD m.toNat true=true
  ·rw[if_pos h];exact ih o
  ·rw[if_neg h]
   have h1:=ih (visit f k o m)
   have h2:=hv o m
   exact⟨h1.1.trans h2.1,Nat.le_trans h1.2 h2.2⟩
theorem sW(o:List Bool)(i:Nat):(o.set i true).count false≤o.count false:=by
 by_cases h:i<o.length
 ·rw[List.count_set h];simp
 ·rw[List.set_eq_of_length_le (by omega)];exact Nat.le_refl _
theorem rl(f:bV)(k:Nat): ∀o n,(visit f k o n).length=o.length∧(visit f k o n).count false≤o.count false:=by
 induction k with
 |zero=>intro o n;exact⟨rfl,Nat.le_refl _⟩
 |succ k ih=>
  intro o n
  rw[sV]
  have h:=mW f k ih (jy (dG f n)) (o.set n.toNat true)
  exact⟨by rw[h.1];simp,Nat.le_trans h.2 (sW o _)⟩
theorem pz{o:List Bool}{i:Nat}(h:o[i]? =some false):(o.set i true).count false+1=o.count false:=by
 obtain⟨hi,he⟩:=List.getElem?_eq_some_iff.1 h
 rw[List.count_set hi,he]
 have:0<o.count false:=List.count_pos_iff.2 (List.mem_iff_getElem.2 ⟨i,hi,he⟩)
 simp;omega
theorem xY{back:Int}{l:List Int}{m:Int}(h:m∈eL back l):m∈l∨(m=back∧0≤back):=by
 induction l generalizing back with
 |nil=>
  unfold eL at h
  split at h
  ·simp at h;exact .inr ⟨h,by assumption⟩
  ·simp at h
 |cons n r ih=>
  unfold eL at h
  rw[List.mem_append]at h
  rcases h with h|h
  ·split at h
   ·simp at h;rename_i hc;exact .inr ⟨h,hc.1⟩
   ·simp at h
  ·rcases List.mem_cons.1 h with rfl|h
   ·exact .inl (List.mem_cons_self)
   ·rcases ih h with h|⟨h1,h2⟩
    ·exact .inl (List.mem_cons_of_mem _ h)
    ·split at h1
     ·rename_i hc;rw[if_pos hc]at h2;omega
     ·rename_i hc;rw[if_neg hc]at h2;exact .inr ⟨h1,h2⟩
theorem B1{lo hi p:Int}{l:List Int}(h:kU lo hi p l=true): ∀m∈l,lo≤m∧m≤hi∧p<m:=by
 induction l generalizing p with
 |nil=>simp
 |cons n r ih=>
  simp only[kU,within,Bool.and_eq_true,decide_eq_true_eq]at h
  intro m hm
  rcases List.mem_cons.1 hm with rfl|hm
  ·omega
  ·have:=ih h.2 m hm;omega
theorem uO{lo hi:Int}{l:List Int}(h:ascending l lo hi=true): ∀m∈l,lo≤m∧m≤hi:=by
 cases l with
 |nil=>simp
 |cons n r=>
  simp only[ascending,within,Bool.and_eq_true,decide_eq_true_eq]at h
  intro m hm
  rcases List.mem_cons.1 hm with rfl|hm
  ·omega
  ·have:=B1 h.2 m hm;omega
theorem sX{s:Step}{n:Int}(h:cg s n=true): ∀m∈s.next,0≤m∧m<n:=by
 unfold cg at h
 simp only[Bool.and_eq_true,decide_eq_true_eq]at h
 intro m hm
 have:=uO h.1.1.1.2 m hm
 omega
theorem zL{s:Step}{n:Int}(h:cg s n=true):s.back<n∨s.back= -1:=by
 unfold cg within at h
 simp only[Bool.and_eq_true,decide_eq_true_eq,Bool.or_eq_true,beq_iff_eq]at h
 rcases h.1.1.1.1.1.1.1 with h|h<;>omega
theorem xZ{f:bV}(h:valid f=true){n:Int}(h0:0≤n)(h1:n<f.steps.length): ∀m∈jy (dG f n),0≤m∧m<f.steps.length:=by
 intro m hm
 have hr:=oH h h0 h1
 rcases xY hm with h2|⟨rfl,h2⟩
 ·exact sX hr m h2
 ·rcases zL hr with h3|h3<;>omega
end Go.Proofs.YtebobfdheanknaaGreatDoor
namespace Go.Proofs.YtebobfdheanknaaGreatDoor
open Go Go.K
set_option maxRecDepth 10000
attribute [local irreducible] W WL cT bu bX bA bB bD cW cG
set_option maxHeartbeats 1000000
def tG(ob N:Nat)(out:List Bool):cV:=.row 4 1 (.slice (some ⟨ob,0,none⟩) N N) N (out.map Value.bool)
structure tH(g:G)(f:bV)(ob N bo bf bv:Nat):Prop where
 QO:EP g bo 0 [.slice (some ⟨ob,0,none⟩) N N]
 MW: ∃cs,EP g bf 0 cs∧qU g cs f
 SU:EP g bv 0 [.func (.func 154) #[] #[.pointer (some ⟨bo,0,none⟩),.pointer (some ⟨bf,0,none⟩),.pointer (some ⟨bv,0,none⟩)]]
theorem tH.mono{g g':G}{f:bV}{ob N bo bf bv:Nat}(h:tH g f ob N bo bf bv)(hle:g.le g'):tH g' f ob N bo bf bv:=
 ⟨h.QO.mono hle,by obtain⟨cs,h1,h2⟩:=h.MW;exact⟨cs,h1.mono hle,h2.mono hle⟩,h.SU.mono hle⟩
theorem GS(f:bV)(iG:valid f=true)(ob N bo bf bv:Nat)(hN:N=f.steps.length): ∀(k:Nat) (g0 g:G) (L:List cV) (i:Nat) (out:List Bool) (n:Int),
  St g0 g L→L[i]? =some (tG ob N out)→tH g f ob N bo bf bv→out.length=N→0≤n→out[n.toNat]? =some false→out.count false≤k→
  CallsIn Wd 0 Tryz.prog 154 #[.int .i64 n,.pointer (some ⟨bo,0,none⟩),.pointer (some ⟨bf,0,none⟩),.pointer (some ⟨bv,0,none⟩)] g.w
   fun e w'=> ∃g',g'.w=w'∧e= .returned (.tuple #[])∧St g0 g' (L.set i (tG ob N (visit f k out n)))∧g.le g':=by
 intro k
 induction k with
 |zero=>
  intro g0 g L i out n _ _ _ _ _ hn hc
  exact absurd (List.count_pos_iff.2 (List.mem_of_getElem? hn)) (by omega)
 |succ k ih=>
  intro g0 g L i out n hs hi Aa hlen h0 hn hc
  have bh:n.toNat<N:=by rw[←hlen];exact(List.getElem?_eq_some_iff.1 hn).1
  have O4:i<L.length:=(List.getElem?_eq_some_iff.1 hi).1
  have aq:=G.le.refl g
  have aC:=Aa.QO
  obtain⟨cs,aP,a1,n1,c1,a2,n2,c2,rfl,aH,aT⟩:=Aa.MW
  obtain⟨_,_,e⟩:=aH.isSlice;obtain⟨rfl,rfl,rfl⟩:=Value.slice.inj e;clear e
  have UC:=Aa
  refine qH Tryz.func154 rfl Tryz.ntmps154 rfl ?_
  refine dx 2 [.z aC] (St.start _) rfl ?_
  refine an rfl rfl (iy T.ok rfl (hs.own i _ hi).1 h0 bh rfl rfl rfl rfl rfl rfl ?_)
  rintro b p hh;obtain⟨rfl,rfl⟩:ob=b∧0=p:=by simpa using hh
  refine bg rfl (kD T.ok i (n.toNat*1) (us:=[.bool true]) rfl hs hi rfl rfl rfl rfl rfl rfl (by decide) (by simp;omega) (xs':=(out.set n.toNat true).map Value.bool) ?_ ?_)
  ·rw[Nat.mul_one,List.map_set]
   unfold lF
   rw[List.set_eq_take_append_cons_drop]
   simp[hlen,bh]
  rintro g1 hs ah;obtain⟨aq,aC,aP,aH⟩:=dE ah aq aC aP aH
  replace Aa:=Aa.mono ah
  apply cf;refine dx 3 [.z aP] (St.start _) rfl ?_
  have C1:n<f.steps.length:=by omega
  refine an rfl rfl (aW T.ok rfl aH (y:=dG f n) (by unfold dG;rw[cU (j:=n.toNat) (by omega) (by omega)];simp[List.getD_eq_getElem?_getD,show n.toNat<f.steps.length from by omega]) rfl rfl rfl rfl rfl rfl ?_)
  rintro b q ys aL eK
  have NT:ja _ (.agg ys.toArray) (dG f n):=⟨ys,rfl,eK⟩
  obtain⟨b1,b2,b3,b4,b5,b6,rfl,_,_⟩:=eK
  refine Wm 1 [.e aL 0] (St.start _) rfl ?_
  skip
  refine an rfl rfl (ay LG aI rfl rfl rfl rfl rfl (GR _ _ _ NT) ?_);rintro g4 v kL ⟨jR,eG,rfl,fY,UD⟩;replace hs:=hs.call kL
  have ah:=kL.le;obtain⟨aq,aC,aP⟩:=ef ah aq aC aP
  replace Aa:=Aa.mono ah
  apply cf;apply aG
  have NU:=rl f k
  have iU:=pz hn
  refine AY (N:=24) hs rfl fY UD rfl (fun _=>rfl)
   (fun pre L' _=>L'=L.set i (tG ob N (dT f k (out.set n.toNat true) pre))) (fun _ _ _ _=>False)
   (fun _ _ _ _ _ h=>h) (fun _ _ _ _ _ _ h=>h) rfl (fun x=>[(5,.int .i64 x),(1,.pointer (some ⟨bo,0,none⟩)),(2,.pointer (some ⟨bf,0,none⟩)),(3,.pointer (some ⟨bv,0,none⟩))]) ?_ ?_ ?_ ?_
  ·intro x ro w
   apply ar;refine Wp 1 rfl ?_;apply aD
   exact fun a ha=>⟨rfl,ha.keep (by(repeat (first|exact trivial|refine⟨rfl,?_⟩)))⟩
  ·rintro lp D ro pre x rest gr Lr jm hle hs rfl
   have Aa:=Aa.mono hle
   have cN:=G.le.refl gr
   have aC:=Aa.QO
   obtain⟨cs',aP,SV⟩:=Aa.MW
   have dO:=Aa.SU
   obtain⟨h3,h4⟩:=xZ iG h0 C1 x (by rw[jm];simp)
   have Kt:=mW f k NU pre (out.set n.toNat true)
   have uI:(dT f k (out.set n.toNat true) pre).length=N:=by rw[Kt.1];simp[hlen]
   have lG:x.toNat<(dT f k (out.set n.toNat true) pre).length:=by omega
   have QP:(cV.obj lp (ro LoopState.busy)::cV.obj D fM::L.set i (tG ob N (dT f k (out.set n.toNat true) pre)))[i+2]? =some (tG ob N (dT f k (out.set n.toNat true) pre)):=by
    simp[O4]
   have k_:dT f k (out.set n.toNat true) (pre++[x])=if(dT f k (out.set n.toNat true) pre)[x.toNat]=true then dT f k (out.set n.toNat true) pre else visit f k (dT f k (out.set n.toNat true) pre) x:=by
    rw[uN,List.getD_eq_getElem?_getD,List.getElem?_eq_getElem lG]
    rfl
   apply aG;refine dx 2 [.z aC] (St.start _) rfl ?_
   refine an rfl rfl (iy T.ok rfl (hs.own (i+2) _ QP).1 h3 (by omega) rfl rfl rfl rfl rfl rfl ?_)
   rintro b p hh;obtain⟨rfl,rfl⟩:ob=b∧0=p:=by simpa using hh
   refine an rfl rfl (iP T.ok (x.toNat*1) rfl (hs.own (i+2) _ QP).1 rfl (v:=.bool ((dT f k (out.set n.toNat true) pre)[x.toNat])) (by show(List.map Value.bool _)[x.toNat*1]? =_;rw[Nat.mul_one,List.getElem?_map,List.getElem?_eq_getElem lG];rfl) ?_)
   refine ba rfl ?_
   cases hb:(dT f k (out.set n.toNat true) pre)[x.toNat]with
   |true=>
    refine aS rfl rfl ?_
    apply aE;apply bU
    exact fun a ha=>⟨_,_,rfl,hs,cN,by rw[k_,if_pos hb]⟩
   |false=>
    refine aJ rfl rfl ?_
    apply ar;refine Wm 2 [.z dO] (St.start _) rfl ?_
    have nh:=ih g0 gr _ (i+2) _ x hs QP Aa uI h3 (by rw[List.getElem?_eq_getElem lG,hb]) (by omega)
    have QQ:=de (first:=#[]) (args:=[.int .i64 x]) (captured:=#[.pointer (some ⟨bo,0,none⟩),.pointer (some ⟨bf,0,none⟩),.pointer (some ⟨bv,0,none⟩)]) HG rfl nh
    refine an rfl rfl (eT rfl rfl rfl rfl rfl rfl (QQ.mono ?_))
    rintro _ _ ⟨g5,rfl,rfl,ED,ah⟩
    refine⟨_,rfl,?_⟩
    replace cN:=G.le.trans cN ah
    apply aD;apply bU
    exact fun a ha=>⟨_,_,rfl,ED,cN,by rw[k_,if_neg (by simp[hb]),List.set_set]⟩
  ·rintro lp D o Lr ge hle hs rfl
   apply bU
   refine H0 1 rfl hs rfl (fun g' iS fL=> ?_)
   refine⟨g',rfl,rfl,?_,(aq.trans hle).trans fL⟩
   have:=iS.drop 0
   rw[sV]
   exact this
  ·rintro c lp D o pre Lr ge _ _ _ h
   exact h.elim
end Go.Proofs.YtebobfdheanknaaGreatDoor
namespace Go.Proofs.YtebobfdheanknaaGreatDoor
open Go Go.K
set_option maxRecDepth 10000
attribute [local irreducible] W WL cT bu bX bA bB bD cW cG
set_option maxHeartbeats 1000000
theorem cO.Ij(g:G): ∀xs:List Bool,cO g (xs.map Value.bool) xs
 |[]=>rfl
 |x::xs=>⟨[.bool x],xs.map Value.bool,rfl,rfl,cO.Ij g xs⟩
theorem nQ{f:bV}(h:valid f=true):1≤f.steps.length∧f.steps.length≤40:=by
 unfold valid within at h
 simp only[Bool.and_eq_true,decide_eq_true_eq]at h
 omega
theorem qV(v:Value)(f:bV)(n:Int)(g:G)(fk:fA g v f)(iG:valid f=true)(h0:0≤n)(h1:n<f.steps.length):
  CallsIn Wd 0 Tryz.prog 69 #[v,.int .i64 n] g.w (cR g (jZ 4 g (ee f n))):=by
 obtain⟨a1,n1,c1,a2,n2,c2,rfl,aH,aT⟩:=id fk
 obtain⟨_,_,e⟩:=aH.isSlice;obtain⟨rfl,rfl,rfl⟩:=Value.slice.inj e;clear e
 have hlen:=nQ iG
 have hs:=St.start g
 refine enter Tryz.func69 rfl Tryz.ntmps69 rfl ?_
 apply c_
 refine an rfl rfl (aR rfl hs rfl rfl ?_);clear hs;rintro bf g1 hs ah;obtain⟨aH,aT⟩:=cC ah aH aT
 refine ba rfl ?_;refine dx 3 [.o 0] hs rfl ?_
 obtain⟨g2,bR,aU,ah,aL⟩:=hs.a_ (i:=0) rfl;replace hs:=aU;clear aU;rw[←bR];obtain⟨aH,aT⟩:=cC ah aH aT
 have aC:=aL;clear aL
 skip
 refine an rfl rfl (yr T.ok rfl hs rfl rfl rfl rfl rfl rfl (by decide) rfl (by show 1*f.steps.length≤_;omega) (by unfold maxLen;omega) ?_);rintro ob g1 hs ah;obtain⟨aC,aH,aT⟩:=ef ah aC aH aT
 skip
 refine an rfl rfl (aK T.ok rfl hs rfl rfl ?_);clear hs;rintro bo g1 hs ah;obtain⟨aC,aH,aT⟩:=ef ah aC aH aT
 skip
 refine bg rfl (aA T.ok 0 rfl hs rfl rfl rfl rfl rfl rfl rfl rfl rfl ?_);replace hs:=hs;rintro g1 hs ah;obtain⟨aC,aH,aT⟩:=ef ah aC aH aT
 obtain⟨g2,bR,aU,ah,aL⟩:=hs.a_ (i:=0) rfl;replace hs:=aU;clear aU;rw[←bR];obtain⟨aC,aH,aT⟩:=ef ah aC aH aT
 have aP:=aL;clear aL
 apply cf;apply c_
 refine an rfl rfl (aK T.ok rfl hs rfl rfl ?_);clear hs;rintro bv g1 hs ah;obtain⟨aC,aP,aH,aT⟩:=dE ah aC aP aH aT
 apply cf;refine cP 1 rfl ?_
 refine bg rfl (aA T.ok 0 rfl hs rfl rfl rfl rfl rfl rfl rfl rfl rfl ?_);replace hs:=hs;rintro g1 hs ah;obtain⟨aC,aP,aH,aT⟩:=dE ah aC aP aH aT
 obtain⟨g2,bR,aU,ah,aL⟩:=hs.a_ (i:=0) rfl;replace hs:=aU;clear aU;rw[←bR];obtain⟨aC,aP,aH,aT⟩:=dE ah aC aP aH aT
 have dO:=aL;clear aL
 apply cf;refine dx 2 [.z dO] (St.start _) rfl ?_
 have xR:(List.replicate f.steps.length [Value.bool false]).flatten=(List.replicate f.steps.length false).map Value.bool:=by simp
 have dm:St g g2 [tG ob f.steps.length (List.replicate f.steps.length false)]:=by
  unfold tG;rw[←xR];exact hs
 have Aa:tH g2 f ob f.steps.length bo bf bv:=⟨aP,⟨_,aC,_,_,_,_,_,_,rfl,aH,aT⟩,dO⟩
 have nh:=GS f iG ob _ bo bf bv rfl f.steps.length g g2 _ 0 _ n dm rfl Aa (by simp) h0 (by rw[List.getElem?_replicate,if_pos (by omega)]) (by simp)
 have QQ:=de (first:=#[]) (args:=[.int .i64 n]) (captured:=#[.pointer (some ⟨bo,0,none⟩),.pointer (some ⟨bf,0,none⟩),.pointer (some ⟨bv,0,none⟩)]) HG rfl nh
 refine an rfl rfl (eT rfl rfl rfl rfl rfl rfl (QQ.mono ?_))
 rintro _ _ ⟨g5,rfl,rfl,ED,ah⟩
 refine⟨_,rfl,?_⟩
 replace hs:=ED
 replace aP:=aP.mono ah
 apply cf;refine nK [.z aP] (St.start _) rfl ?_
 refine aF (aV rfl rfl (hs.ret ?_))
 exact hs.mR (i:=0) rfl (cO.Ij _ _)
theorem Ab(l:List Bool)(k:Nat)(h:k<l.length):jI 0 (l.take (k+1))=jI 0 (l.take k)++(if l[k]then [(k:Int)]else []):=by
 have gen: ∀(l:List Bool) (j k:Nat) (h:k<l.length),jI j (l.take (k+1))=jI j (l.take k)++(if l[k]then [((j+k:Nat):Int)]else []):=by
  intro l
  induction l with
  |nil=>intro j k h;simp at h
  |cons b r ih=>
   intro j k h
   cases k with
   |zero=>simp[jI]
   |succ k=>
    simp only[List.take_succ_cons,jI]
    rw[ih (j+1) k (by simpa using h)]
    simp[Nat.add_assoc,Nat.add_comm 1 k]
 simpa using gen l 0 k h
theorem vD(l:List Bool)(j:Nat):(jI j l).length≤l.length:=by
 induction l generalizing j with
 |nil=>simp[jI]
 |cons b r ih=>have:=ih (j+1);simp only[jI];split<;>simp<;>omega
theorem gM(f:bV)(n:Int):(ee f n).length=f.steps.length:=by
 unfold ee;rw[(rl f _ _ _).1];simp
theorem Bg(v:Value)(f:bV)(n:Int)(g:G)(fk:fA g v f):
  CallsIn Wd 0 Tryz.prog 67 #[v,.int .i64 n] g.w (cR g (jZ 3 g (reach f n))):=by
 obtain⟨a1,n1,c1,a2,n2,c2,rfl,aH,aT⟩:=id fk
 obtain⟨_,_,e⟩:=aH.isSlice;obtain⟨rfl,rfl,rfl⟩:=Value.slice.inj e;clear e
 have hs:=St.start g
 refine enter Tryz.func67 rfl Tryz.ntmps67 rfl ?_
 apply c_
 refine an rfl rfl (aR rfl hs rfl rfl ?_);clear hs;rintro b1 g1 hs ah;replace fk:=fk.mono ah
 refine ba rfl ?_;apply aB;refine dx 2 [.o 0] hs rfl ?_
 refine an rfl rfl (bj T.ok rfl hs (vs:=[(0,.int .i64 n)]) (cells:=[.int .i64 n]) rfl rfl rfl rfl rfl rfl (by decide) (by decide) (by kernel_rfl) rfl ?_);rintro b2 g2 hs ah;replace fk:=fk.mono ah
 obtain⟨g3,sq,Bh,yq,pP⟩:=hs.cL (α:=Int) (xs:=[n]) (i:=0) rfl (cO.ints _ [n])
 clear ah;have ah:=yq;rw[←sq];replace hs:=Bh;replace fk:=fk.mono ah
 skip
 refine an rfl rfl (ay LB aI rfl rfl rfl rfl rfl (GN _ _ f [n] _ fk pP) ?_);rintro g1 _ aN rfl;replace hs:=hs.call aN;have ah:=aN.le;replace fk:=fk.mono ah
 refine ba rfl ?_
 cases hg:given f [n]with
 |false=>
  refine aJ rfl rfl ?_
  refine aX rfl ?_
  refine aF (aV rfl rfl (hs.ret ?_))
  unfold reach;rw[hg];exact jZ.nil _ _ _ _
 |true=>
  refine aS rfl rfl ?_
  have I9:(0≤n∧n<f.steps.length)∧valid f=true:=by
   unfold given at hg
   simp only[Bool.and_eq_true,List.any_cons,List.any_nil,Bool.or_false,Bool.not_eq_true',nN,Bool.or_eq_false_iff,decide_eq_false_iff_not]at hg
   exact⟨by omega,hg.1⟩
  have QR:=nQ I9.2
  apply aE;apply au;apply aB;refine dx 2 [.o 0] hs rfl ?_
  refine an rfl rfl (ay IX aI rfl rfl rfl rfl rfl (qV _ f n _ fk I9.2 I9.1.1 I9.1.2) ?_);rintro g4 v kL dZ
  obtain⟨g5,UE,ED,UF,py⟩:=hs.mZ kL dZ
  replace hs:=ED;rw[←UE]
  obtain⟨ab,cb,rfl⟩:=py.isSlice
  have Ik:=gM f n
  generalize xE:ee f n=bs at*
  replace hs:=(hs.drop 0).gI 3 1 none
  refine ba rfl ?_;apply aG
  refine bS (fun m a' w=> ∃(k:Nat) (g':G) (v:Value),w=g'.w∧St g g' [.row 3 1 v (jI 0 (bs.take k)).length ((jI 0 (bs.take k)).map (Value.int .i64))]∧G.le g5 g'∧k≤bs.length∧m=bs.length-k∧
   Fr 28 [] [(4,v),(14,.slice ab bs.length cb),(15,.int .i64 bs.length),(16,.int .i64 k)] a') bs.length (fun a' ha=>⟨0,_,_,rfl,hs,G.le.refl _,Nat.zero_le _,rfl,ha.keep (by(repeat (first|exact trivial|refine⟨rfl,?_⟩)))⟩) ?_
  clear hs
  rintro m a' _ ⟨k,g',v,rfl,hs,aq,hk,rfl,eI⟩
  have bT:=py.mono aq
  revert a'
  apply cQ;refine aX rfl ?_;apply aB
  by_cases bh:k<bs.length
  ·refine aJ (b:=decide ((k:Int)<(bs.length:Int))) (by simp;omega) rfl ?_
   have Ni:=vD (bs.take k) 0
   rw[List.length_take]at Ni
   have H5:=Ab bs k bh
   apply aE;apply au;apply aB;apply aG;refine cP 1 rfl ?_
   refine an rfl rfl (aW T.ok rfl bT (y:=bs[k]) (by simp[dA,bh]) rfl rfl rfl rfl rfl rfl ?_)
   rintro b p ys aL rfl
   refine Wm 1 [.e aL 0] (St.start _) rfl ?_
   refine ba rfl ?_;refine aX rfl ?_
   cases hb:bs[k]with
   |false=>
    refine aS rfl rfl ?_
    rw[hb,if_neg (by simp),List.append_nil]at H5
    apply aE;apply bU;apply au;apply ar;refine Wp 2 rfl ?_;apply aD
    exact fun a ha=>⟨bs.length-(k+1),by omega,k+1,_,v,rfl,by rw[H5];exact hs,aq,by omega,rfl,ha.keep ⟨rfl,rfl,rfl,kI rfl (by rw[wr (by omega) (by omega)];omega),trivial⟩⟩
   |true=>
    refine aJ rfl rfl ?_
    rw[hb,if_pos rfl]at H5
    apply ar;refine Wp 2 rfl ?_
    refine an rfl rfl (bj T.ok rfl hs (vs:=[(0,.int .i64 k)]) (cells:=[.int .i64 k]) rfl rfl rfl rfl rfl rfl (by decide) (by decide) (by kernel_rfl) rfl ?_);rintro b2 g2 hs ah;replace aq:=G.le.trans aq ah
    skip
    refine an rfl rfl (b_ T.ok 1 rfl hs rfl rfl rfl rfl rfl rfl rfl (by decide) rfl (Src.gK (hs.own 0 _ rfl).1).2 (by simp[Value.oneCell']) (by show((jI 0 (bs.take k)).length+1)*8≤_;omega) (by unfold maxLen;omega) ?_);rintro a' c' g3 hs ah;replace aq:=G.le.trans aq ah
    refine Wp 1 rfl ?_;apply aD;apply bU;apply au;apply ar;refine Wp 2 rfl ?_;apply aD
    exact fun a ha=>⟨bs.length-(k+1),by omega,k+1,_,_,rfl,by rw[H5];simpa using hs.drop 0,aq,by omega,rfl,ha.keep ⟨rfl,rfl,rfl,kI rfl (by rw[wr (by omega) (by omega)];omega),trivial⟩⟩
  ·refine aS (b:=decide ((k:Int)<(bs.length:Int))) (by simp;omega) rfl ?_
   obtain rfl:k=bs.length:=by omega
   apply bE;apply bK;apply bK;apply dc;apply au;refine aX rfl ?_
   refine aF (aV rfl rfl (hs.ret ?_))
   unfold reach
   rw[hg,if_pos rfl,xE]
   rw[List.take_length]at hs
   exact hs.mR (i:=0) rfl (cO.ints _ _)
end Go.Proofs.YtebobfdheanknaaGreatDoor
namespace Go.Proofs.YtebobfdheanknaaGreatDoor
open Go Go.K
set_option maxRecDepth 10000
attribute [local irreducible] W WL cT bu bX bA bB bD cW cG
set_option maxHeartbeats 1000000
def iz(xs:List Int):List Value:=xs.map (Value.int .i64)
theorem Cl(xs:List Int)(n:Nat):(iz xs).take n=iz (xs.take n):=by simp[iz]
theorem mb{α:Type}(p:α→Bool)(l:List α):(lu p l= -1∧ ∀x∈l,p x=false)∨ ∃k,∃h:k<l.length,lu p l=k∧p l[k]=true∧ ∀j (h:j<l.length),j<k→p l[j]=false:=by
 unfold lu
 cases h:l.any p with
 |false=>exact .inl ⟨rfl,fun x hx=>by simpa using(List.any_eq_false.1 h) x hx⟩
 |true=>
  refine .inr ⟨l.findIdx p,?_,rfl,?_,?_⟩
  ·obtain⟨x,hx,hp⟩:=List.any_eq_true.1 h
   exact List.findIdx_lt_length_of_exists ⟨x,hx,hp⟩
  ·exact List.findIdx_getElem
  ·intro j hj bh
   simpa using List.not_of_lt_findIdx bh
theorem yu{α:Type}{L:List α}{i:Nat}{e:α}(h:L[i]? =some e):L.set i e=L:=by
 apply List.ext_getElem?
 intro j
 rw[List.getElem?_set]
 split
 ·rename_i h';subst h'
  rw[h];simp[(List.getElem?_eq_some_iff.1 h).1]
 ·rfl
theorem og{α:Type}{cs:List α}{i:Nat}{x:α}(h:i<cs.length):(cs.set i x).take (i+1)=cs.take i++[x]:=by
 rw[List.set_eq_take_append_cons_drop,if_pos h,show cs.take i++x::cs.drop (i+1)=(cs.take i++[x])++cs.drop (i+1)from by simp]
 exact List.take_left' (by simp;omega)
theorem wW{p:Int→Bool}(xs:List Int)(k:Nat)(h:k<xs.length)(hp:p xs[k]=true)(dy: ∀j (h:j<xs.length),j<k→p xs[j]=false):
  xs.take k=(xs.take (k+1)).filter (fun x=> !p x):=by
 rw[List.take_succ_eq_append_getElem h,List.filter_append]
 have:(xs.take k).filter (fun x=> !p x)=xs.take k:=by
  rw[List.filter_eq_self]
  intro x hx
  obtain⟨j,hj,rfl⟩:=List.mem_iff_getElem.1 hx
  simp only[List.length_take]at hj
  rw[List.getElem_take,dy j (by omega) (by omega)];rfl
 rw[this];simp[hp]
theorem wX(p:Int→Bool)(g0 g:G)(L:List cV)(i:Nat)(v fv:Value)(xs:List Int)(hs:St g0 g L)(hi:L[i]? =some (.row 3 1 v xs.length (iz xs)))(hlen:xs.length≤1000000)
  (hp: ∀(g':G) (x:Int),x∈xs→g.le g'→ir Tryz.prog fv [.int .i64 x] g'.w (cR g' fun _ r=>r= .bool (p x))):
  CallsIn Wd 0 Tryz.prog 151 #[v,fv] g.w fun e w'=> ∃g' v',g'.w=w'∧e= .returned v'∧g.le g'∧St g0 g' (L.set i (.row 3 1 v' (xs.filter fun x=> !p x).length (iz (xs.filter fun x=> !p x)))):=by
 have aq:=G.le.refl g
 have O4:i<L.length:=(List.getElem?_eq_some_iff.1 hi).1
 obtain⟨ad,cap,rfl⟩:=(hs.own i _ hi).1.form
 refine enter Tryz.func151 rfl Tryz.ntmps151 rfl ?_
 refine aX rfl ?_;refine cP 2 rfl ?_
 obtain⟨gf,Nh,H_,py,td⟩:=hs.Jc (α:=Int) hi (cO.ints _ _)
 rw[←Nh]
 refine an rfl rfl (ay HR aI rfl rfl rfl rfl rfl (tF _ _ xs p gf py (fun g' x hx hle=>hp g' x hx (H_.trans hle))) ?_)
 rintro g2 _ wF rfl
 obtain⟨g3,sq,ff⟩:=td g2 wF
 rw[←sq]
 replace hs:=hs.call ff
 have ah:=ff.le;replace aq:=G.le.trans aq ah
 refine ba rfl ?_;apply aB;refine aX rfl ?_
 rcases mb p xs with⟨su,dy⟩|⟨k0,zl,su,wE,dy⟩
 ·refine aJ (b:=lu p xs== -1) (by simp[su]) rfl ?_
  refine aX rfl ?_
  refine aF ?_;apply eF
  refine aV rfl rfl ?_
  have Jd:(xs.filter fun x=> !p x)=xs:=List.filter_eq_self.2 fun x hx=>by simp[dy x hx]
  refine⟨g3,_,rfl,rfl,aq,?_⟩
  rw[Jd,yu hi]
  exact hs
 ·refine aS (b:=lu p xs== -1) (by simp only[su,beq_eq_false_iff_ne];omega) rfl ?_
  rw[su]
  obtain⟨⟨b0,p0,rfl⟩,qP⟩:(∃b p,ad=some ⟨b,p,none⟩)∧xs.length≤cap∧cap≤maxLen:=by
   rcases(hs.own i _ hi).1.2 with⟨h,_⟩|⟨b,q,c,cur,e1,_,_,h1,h2,_⟩
   ·omega
   ·simp only[Value.slice.injEq]at e1
    obtain⟨rfl,_,rfl⟩:=e1
    exact⟨⟨b,q,rfl⟩,h1,h2⟩
  unfold maxLen at qP
  apply aE;apply au;apply aB;refine aX rfl ?_;apply aG
  refine bS (fun m a' w=> ∃(j i':Nat) (cs:List Int) (g':G),w=g'.w∧St g0 g' (L.set i (.row 3 1 (.slice (some ⟨b0,p0,none⟩) xs.length cap) xs.length (iz cs)))∧G.le g g'∧j≤xs.length∧m=xs.length-j∧
   cs.length=xs.length∧i'<j∧cs.take i'=(xs.take j).filter (fun x=> !p x)∧cs.drop j=xs.drop j∧
   Fr 42 [] [(0,.slice (some ⟨b0,p0,none⟩) xs.length cap),(1,fv),(5,.int .i64 i'),(6,.int .i64 j)] a') (xs.length-(k0+1))
   (fun a' ha=>⟨k0+1,k0,xs,g3,rfl,by rw[yu hi];exact hs,aq,zl,rfl,rfl,Nat.lt_succ_self _,wW xs k0 zl wE dy,rfl,ha.keep ⟨rfl,rfl,rfl,kI rfl (by rw[wr (by omega) (by omega)];omega),trivial⟩⟩) ?_
  clear hs aq
  rintro m a' _ ⟨j,i',cs,g',rfl,hs,aq,hj,rfl,fY,zK,fw,H',eI⟩
  have NV:(L.set i (.row 3 1 (.slice (some ⟨b0,p0,none⟩) xs.length cap) xs.length (iz cs)))[i]? =some (.row 3 1 (.slice (some ⟨b0,p0,none⟩) xs.length cap) xs.length (iz cs)):=by simp[O4]
  revert a'
  apply cQ;apply aB;refine aX rfl ?_
  by_cases bh:j<xs.length
  ·refine aJ (b:=decide ((j:Int)<(xs.length:Int))) (by simp;omega) rfl ?_
   have Qv:cs[j]? =some xs[j]:=by
    have:=congrArg (fun l=>l[0]?) H'
    simpa [List.getElem?_eq_getElem bh]using this
   apply aE;apply au;apply aB;apply aG;refine cP 2 rfl ?_
   refine an rfl rfl (iy T.ok rfl (hs.own i _ NV).1 (by omega) (by omega) rfl rfl rfl rfl rfl rfl ?_)
   rintro b q hh;obtain⟨rfl,rfl⟩:b0=b∧p0=q:=by simpa using hh
   refine an rfl rfl (iP T.ok (j*1) rfl (hs.own i _ NV).1 rfl (v:=.int .i64 xs[j]) (by show(iz cs)[j*1]? =_;rw[Nat.mul_one];simp[iz,Qv]) ?_)
   refine ba rfl ?_;refine cP 2 rfl ?_
   refine an rfl rfl (eA rfl rfl rfl rfl rfl rfl (hp _ _ (List.getElem_mem bh) aq) ?_);rintro g4 _ kL rfl;replace hs:=hs.call kL;have ah:=kL.le;replace aq:=G.le.trans aq ah
   refine ba rfl ?_
   have Gq:(xs.take (j+1)).filter (fun x=> !p x)=(xs.take j).filter (fun x=> !p x)++(if p xs[j]then []else [xs[j]]):=by
    rw[List.take_succ_eq_append_getElem bh,List.filter_append]
    cases Qw:p xs[j]<;>simp[Qw]
   have D1:cs.drop (j+1)=xs.drop (j+1):=by
    have:=congrArg (List.drop 1) H'
    simpa [List.drop_drop]using this
   cases hb:p xs[j]with
   |true=>
    refine aS rfl rfl ?_
    rw[hb,if_pos rfl,List.append_nil]at Gq
    apply aE;apply bU;apply au;apply ar;refine Wp 3 rfl ?_;apply aD
    exact fun a ha=>⟨xs.length-(j+1),by omega,j+1,i',cs,_,rfl,hs,aq,by omega,rfl,fY,by omega,by rw[fw,Gq],D1,ha.keep ⟨rfl,rfl,rfl,kI rfl (by rw[wr (by omega) (by omega)];omega),trivial⟩⟩
   |false=>
    refine aJ rfl rfl ?_
    rw[hb,if_neg (by simp)]at Gq
    refine cP 3 rfl ?_
    refine an rfl rfl (iy T.ok rfl (hs.own i _ NV).1 (by omega) (by omega) rfl rfl rfl rfl rfl rfl ?_)
    rintro b q hh;obtain⟨rfl,rfl⟩:b0=b∧p0=q:=by simpa using hh
    refine bg rfl (kD T.ok i (i'*1) (us:=[.int .i64 xs[j]]) rfl hs NV rfl rfl rfl rfl rfl rfl (by simp) (by simp[iz];omega) (xs':=iz (cs.set i' xs[j])) ?_ ?_)
    ·rw[Nat.mul_one]
     unfold lF iz
     rw[List.map_set,List.set_eq_take_append_cons_drop]
     simp[fY,show i'<xs.length from by omega]
    rintro g5 hs ah;replace aq:=G.le.trans aq ah
    apply cf;apply ar;refine Wp 3 rfl ?_;apply aD;apply bU;apply au;apply ar;refine Wp 3 rfl ?_;apply aD
    exact fun a ha=>⟨xs.length-(j+1),by omega,j+1,i'+1,cs.set i' xs[j],_,rfl,by rw[List.set_set]at hs;exact hs,aq,by omega,rfl,by simp[fY],by omega,
     by rw[Gq,←fw,og (by omega)],
     by rw[List.drop_set_of_lt (by omega)];exact D1,ha.keep ⟨rfl,rfl,kI rfl (by rw[wr (by omega) (by omega)];omega),kI rfl (by rw[wr (by omega) (by omega)];omega),trivial⟩⟩
  ·refine aS (b:=decide ((j:Int)<(xs.length:Int))) (by simp;omega) rfl ?_
   obtain rfl:j=xs.length:=by omega
   rw[List.take_length]at fw
   apply bE;apply bK;apply bK;apply dc;apply au;refine cP 2 rfl ?_
   refine an rfl rfl (j2 T.ok rfl rfl rfl rfl rfl (a:=i') (b:=xs.length) ⟨_,rfl⟩ rfl (by omega) (by omega) ?_)
   refine bg rfl (vr T.ok i (a:=i') (xs':=iz (cs.take i')++(List.replicate (xs.length-i') [Value.int .i64 0]).flatten) rfl hs NV rfl rfl rfl rfl rfl (by decide) rfl (by decide) ?_ (by omega) (by rw[Nat.mul_one,Cl];rfl) ?_)
   ·by_cases Qx:cap=i'
    ·exact .inl (by omega)
    ·right;rw[if_neg Qx];simp[Addr.add_lit]
   rintro g5 hs ah;replace aq:=G.le.trans aq ah
   rw[List.set_set]at hs
   apply cf;refine cP 2 rfl ?_
   refine an rfl rfl (j2 T.ok rfl rfl rfl rfl rfl (a:=0) (b:=i') rfl ⟨_,rfl⟩ (by omega) (by omega) ?_)
   refine ba rfl ?_
   refine aF ?_;skip
   refine aV rfl rfl ?_
   have QT: ∀e,(L.set i e)[i]? =some e:=fun e=>by simp[O4]
   have tf:=hs.x9 (i:=i) (a:=i') (QT _) (by omega)
   refine⟨_,_,rfl,rfl,aq,?_⟩
   have hl:(xs.filter fun x=> !p x).length=i':=by rw[←fw,List.length_take];omega
   rw[List.set_set]at tf
   rw[hl,←fw]
   have he:List.take (i'*1) (iz (cs.take i')++(List.replicate (xs.length-i') [Value.int .i64 0]).flatten)=iz (cs.take i'):=by
    rw[List.take_left' (by simp[iz];omega)]
   rw[he]at tf
   exact tf
theorem GU(n:Int)(f:bV)(b:Nat)(cs:List Value)(g:G)(aC:EP g b 0 cs)(hc:qU g cs f)(h0:0≤n)(h1:n<f.steps.length):
  CallsIn Wd 0 Tryz.prog 152 #[.int .i64 n,.pointer (some ⟨b,0,none⟩)] g.w (cR g fun _ r=>r= .bool (!xX (dG f n))):=by
 obtain⟨a1,n1,c1,a2,n2,c2,rfl,aH,aT⟩:=hc
 obtain⟨_,_,e⟩:=aH.isSlice;obtain⟨rfl,rfl,rfl⟩:=Value.slice.inj e;clear e
 have hs:=St.start g
 refine enter Tryz.func152 rfl Tryz.ntmps152 rfl ?_
 refine aX rfl ?_;refine dx 3 [.z aC] (St.start _) rfl ?_
 refine an rfl rfl (aW T.ok rfl aH (y:=dG f n) (by unfold dG;rw[cU (j:=n.toNat) (by omega) (by omega)];simp[List.getD_eq_getElem?_getD,show n.toNat<f.steps.length from by omega]) rfl rfl rfl rfl rfl rfl ?_)
 rintro b q ys aL eK
 have NT:ja _ (.agg ys.toArray) (dG f n):=⟨ys,rfl,eK⟩
 obtain⟨b1,b2,b3,b4,b5,b6,rfl,_,_⟩:=eK
 refine Wm 1 [.e aL 0] (St.start _) rfl ?_
 skip
 refine an rfl rfl (ay LF aI rfl rfl rfl rfl rfl (GM _ _ _ NT) ?_);rintro g1 _ aN rfl;replace hs:=hs.call aN;have ah:=aN.le
 refine ba rfl ?_
 exact aF (aV rfl rfl (hs.ret rfl))
theorem yw{l:List Bool}{j:Nat}{x:Int}(h:x∈jI j l):(j:Int)≤x∧x<j+l.length:=by
 induction l generalizing j with
 |nil=>simp[jI]at h
 |cons b r ih=>
  simp only[jI,List.mem_append]at h
  rcases h with h|h
  ·split at h
   ·simp at h;subst h;simp;omega
   ·simp at h
  ·have:=ih h;simp at this⊢;omega
theorem kZ{f:bV}{n x:Int}(h:x∈reach f n):0≤x∧x<f.steps.length:=by
 unfold reach at h
 split at h
 ·have:=yw h
  rw[gM]at this
  omega
 ·simp at h
theorem vB(f:bV)(n:Int):(reach f n).length≤40:=by
 unfold reach
 split
 ·rename_i h
  have h1:=vD (ee f n) 0
  rw[gM]at h1
  have:valid f=true:=by unfold given at h;simp only[Bool.and_eq_true]at h;exact h.1
  have:=nQ this
  omega
 ·simp
theorem Ju(v:Value)(f:bV)(g:G)(fk:fA g v f):
  CallsIn Wd 0 Tryz.prog 68 #[v] g.w (cR g (jZ 3 g (ends f))):=by
 obtain⟨a1,n1,c1,a2,n2,c2,rfl,aH,aT⟩:=id fk
 have hs:=St.start g
 refine enter Tryz.func68 rfl Tryz.ntmps68 rfl ?_
 apply c_
 refine an rfl rfl (aR rfl hs rfl rfl ?_);clear hs;rintro b1 g1 hs ah;obtain⟨aH,aT,fk⟩:=ef ah aH aT fk
 refine ba rfl ?_;refine dx 1 [.o 0] hs rfl ?_
 obtain⟨g2,bR,aU,ah,aL⟩:=hs.a_ (i:=0) rfl;replace hs:=aU;clear aU;rw[←bR];obtain⟨aH,aT,fk⟩:=ef ah aH aT fk
 have aC:=aL;clear aL
 skip
 refine an rfl rfl (ay K4 aI rfl rfl rfl rfl rfl (Bg _ f 0 _ fk) ?_);rintro g4 v kL ⟨cells,h1,h2⟩
 replace hs:=hs.gJ kL h1
 have ah:=kL.le;obtain⟨aC,aH,aT⟩:=ef ah aC aH aT
 have QV:cells=iz (reach f 0):=by
  have key: ∀(xs:List Int) (cells:List Value),cO g4 cells xs→cells=iz xs:=by
   intro xs
   induction xs with
   |nil=>intro cells h;exact h
   |cons x xs ih=>rintro cells ⟨c1,c2,rfl,h1,h2⟩;rw[ih _ h2,show c1=[Value.int .i64 x]from h1];rfl
  exact key _ _ h2
 subst QV
 refine Wp 1 rfl ?_
 have hl:=vB f 0
 have QW:=wX (fun x=> !xX (dG f x)) g g4 _ 0 v (.func (.func 152) #[] #[.pointer (some ⟨b1,0,none⟩)]) (reach f 0) hs rfl (by omega)
  (fun g' x hx hle=>de LD rfl (GU x f _ _ g' (aC.mono hle) ⟨_,_,_,_,_,_,rfl,aH.mono hle,aT.mono hle⟩ (kZ hx).1 (kZ hx).2))
 refine an rfl rfl (ni LC aI rfl rfl rfl rfl rfl (QW.mono ?_))
 rintro _ _ ⟨g5,v',rfl,rfl,ah,ED⟩
 refine⟨_,rfl,?_⟩
 refine ba rfl ?_
 refine aF (aV rfl rfl (ED.ret ?_))
 have he:(reach f 0).filter (fun x=> !(!xX (dG f x)))=ends f:=by unfold ends;simp
 rw[he]at ED
 exact ED.mR (i:=0) rfl (cO.ints _ _)
end Go.Proofs.YtebobfdheanknaaGreatDoor
namespace Go.Proofs.YtebobfdheanknaaGreatDoor
open Go Go.K
set_option maxRecDepth 10000
attribute [local irreducible] W WL cT bu bX bA bB bD cW cG
set_option maxHeartbeats 4000000
theorem pC{xs ys:Array Value}{f h:Nat→Int}(w:World): ∀is:List Nat,(∀i∈is,xs[i*1]? =some (.int .i64 (f i))∧ys[i*1]? =some (.int .i64 (h i)))→(Op.eqItems 9999 3 1 xs ys is).run Tryz.prog w= .ok (is.all fun i=>f i==h i) w
 |[],_=>rfl
 |i::is,hi=>by
  have hp: ∀(xs:Array Value) (j:Nat) (z:Int),xs[j]? =some (.int .i64 z)→(part 3 xs j).run Tryz.prog w= .ok (.int .i64 z) w:=fun xs j z h=>by simp[part,iL T.ok (show tl T 3=some _ from rfl),rO,h]
  obtain⟨h1,h2⟩:=hi i (List.mem_cons_self ..)
  simp only[Op.eqItems,Sem.run_bind]
  rw[hp _ _ _ h1];simp only[Result.andThen_ok]
  rw[hp _ _ _ h2];simp only[Result.andThen_ok]
  rw[run_equalIn_int w 9998 3 .i64 .i64 (f i) (h i) (by kernel_rfl)];simp only[Result.andThen_ok]
  have ih:=pC (xs:=xs) (ys:=ys) (f:=f) (h:=h) w is fun j hj=>hi j (List.mem_cons_of_mem _ hj)
  cases he:f i==h i with
  |false=>simp[he]
  |true=>simp[he,ih]
theorem Qt(a b c d a' b' c' d':Int)(w:World):(Op.equal 121 (.agg #[.int .i64 a,.int .i64 b,.int .i64 c,.int .i64 d]) (.agg #[.int .i64 a',.int .i64 b',.int .i64 c',.int .i64 d'])).run Tryz.prog w= .ok (a==a'&&(b==b'&&(c==c'&&d==d'))) w:=by
 obtain⟨⟨dd,hu,he⟩,_⟩:=T.ok.at (show tl T 121=some _ from rfl)
 obtain rfl:=KD.zN he
 obtain⟨_,inf,h1,h2,_⟩:=T.ok.at (show tl T 3=some _ from rfl)
 have hc:Tryz.prog.cellsOf 3=1:=by unfold Program.cellsOf;rw[h1];exact h2
 show(Op.equalIn (9999+1) _ _ _).run _ w=_
 rw[run_equalIn_array w 9999 _ _ hu h1,hc,show List.range 4=[0,1,2,3]from rfl]
 rw[pC (f:=fun i=>[a,b,c,d].getD i 0) (h:=fun i=>[a',b',c',d'].getD i 0) w]
 ·simp
 ·intro i hi
  have:i=0∨i=1∨i=2∨i=3:=by simpa using hi
  rcases this with rfl|rfl|rfl|rfl<;>exact⟨rfl,rfl⟩
def x6(fo:Value)(p:bc→Bool)(l:List bc)(g:G):Prop:=∀(g':G) (x:bc),x∈l→g.le g'→ir Tryz.prog fo [fv x] g'.w (cR g' fun _ r=>r= .bool (p x))
theorem x6.mono{fo:Value}{p:bc→Bool}{l:List bc}{g g':G}(h:x6 fo p l g)(hle:g.le g'):x6 fo p l g':=fun g2 x hx h2=>h g2 x hx (hle.trans h2)
theorem sZ(v fo:Value)(l:List bc)(p:bc→Bool)(g:G)(hl:Rs g v l)(hp:x6 fo p l g):
  CallsIn Wd 0 Tryz.prog 46 #[v,fo] g.w (cR g fun _ r=>r= .int .i64 (lu p l)):=by
 obtain⟨a,c,rfl⟩:=hl.isSlice
 have hlen:=hl.dU
 unfold maxLen at hlen
 have hs:=St.start g
 refine enter Tryz.func46 rfl Tryz.ntmps46 rfl ?_
 refine aX rfl ?_;apply aB;refine aX rfl ?_;apply aG
 refine bS (fun m a' w=> ∃(k:Nat) (g':G),w=g'.w∧St g g' []∧G.le g g'∧k≤l.length∧m=l.length-k∧(∀j (h:j<l.length),j<k→p l[j]=false)∧
  Fr 19 [] [(0,.slice a l.length c),(1,fo),(7,.int .i64 l.length),(8,.int .i64 k)] a') l.length (fun a' ha=>⟨0,g,rfl,hs,G.le.refl g,Nat.zero_le _,rfl,by simp,ha.keep (by(repeat (first|exact trivial|refine⟨rfl,?_⟩)))⟩) ?_
 clear hs
 rintro m a' _ ⟨k,g',rfl,hs,aq,hk,rfl,dy,eI⟩
 revert a'
 apply cQ;refine aX rfl ?_;apply aB
 by_cases bh:k<l.length
 ·refine aJ (b:=decide ((k:Int)<(l.length:Int))) (by simp;omega) rfl ?_
  apply aE;apply au;apply aB;apply aG;refine aX rfl ?_;refine cP 3 rfl ?_
  refine an rfl rfl (aW T.ok rfl (hl.mono aq) (y:=l[k]) (by simp[dA,bh]) rfl rfl rfl rfl rfl rfl ?_)
  rintro b q ys aL rfl
  refine Wm 1 [.e aL 0] (St.start _) rfl ?_
  skip
  refine an rfl rfl (eA rfl rfl rfl rfl rfl rfl (hp _ _ (List.getElem_mem bh) aq) ?_);rintro g1 _ aN rfl;replace hs:=hs.call aN;have ah:=aN.le;replace aq:=G.le.trans aq ah
  apply cf
  cases wE:p l[k]with
  |true=>
   refine aJ rfl rfl ?_
   refine aX rfl ?_
   exact aF (aV rfl rfl (hs.ret (by rw[oj bh wE dy])))
  |false=>
   refine aS rfl rfl ?_
   apply aE;apply bU;apply au;apply ar;refine Wp 2 rfl ?_;apply aD
   refine fun a ha=>⟨l.length-(k+1),by omega,k+1,_,rfl,hs,aq,by omega,rfl,?_,ha.keep ⟨rfl,rfl,rfl,kI rfl (by rw[wr (by omega) (by omega)];omega),trivial⟩⟩
   intro j hj zO
   by_cases e:j=k
   ·subst e;exact wE
   ·exact dy j hj (by omega)
 ·refine aS (b:=decide ((k:Int)<(l.length:Int))) (by simp;omega) rfl ?_
  apply bE;apply bK;apply bK;apply dc;apply au;refine aX rfl ?_
  obtain rfl:k=l.length:=by omega
  exact aF (aV rfl rfl (hs.ret (by rw[so fun j h=>dy j h h])))
theorem Gg{α:Type}{p:α→Bool}{l:List α}(h: ∀x∈l,p x=false):l.find? p=none:=List.find?_eq_none.2 fun x hx=>by simp[h x hx]
theorem Gh{α:Type}{p:α→Bool}{l:List α}{k:Nat}(h:k<l.length)(hp:p l[k]=true)(dy: ∀j (h:j<l.length),j<k→p l[j]=false):l.find? p=some l[k]:=
 List.find?_eq_some_iff_getElem.2 ⟨hp,k,h,rfl,fun j hj=>by simp[dy j (by omega) hj]⟩
theorem A4(v fo:Value)(l:List bc)(p:bc→Bool)(g:G)(hl:Rs g v l)(hp:x6 fo p l g):
  CallsIn Wd 0 Tryz.prog 61 #[v,fo] g.w (cR g fun _ r=>r= .tuple #[fv ((l.find? p).getD gF),.bool (l.find? p).isSome]):=by
 obtain⟨a,c,rfl⟩:=hl.isSlice
 have aH:=hl
 have hlen:=hl.dU
 unfold maxLen at hlen
 have hs:=St.start g
 have aq:=G.le.refl g
 refine enter Tryz.func61 rfl Tryz.ntmps61 rfl ?_
 apply c_
 refine an rfl rfl (aK T.ok rfl hs rfl rfl ?_);clear hs;rintro b4 g1 hs ah;obtain⟨aq,aH⟩:=cC ah aq aH
 refine ba rfl ?_;apply aB;refine cP 2 rfl ?_
 refine an rfl rfl (ay IS aI rfl rfl rfl rfl rfl (sZ _ _ l p _ aH (hp.mono aq)) ?_);rintro g1 _ aN rfl;replace hs:=hs.call aN;have ah:=aN.le;replace aH:=aH.mono ah
 refine ba rfl ?_;refine aX rfl ?_
 rcases mb p l with⟨hf,dy⟩|⟨k,hk,hf,wE,dy⟩
 ·refine aS (b:=decide (0≤lu p l)) (by rw[hf];rfl) rfl ?_
  rw[Gg dy]
  apply aE;apply au;apply c_
  refine an rfl rfl (aK T.ok rfl hs rfl rfl ?_);clear hs;rintro b7 g1 hs ah;replace aH:=aH.mono ah
  apply cf;refine dx 1 [.o 0] hs rfl ?_
  refine bg rfl (aA T.ok 1 rfl hs rfl rfl rfl rfl rfl rfl rfl rfl rfl ?_);replace hs:=hs;rintro g1 hs ah;replace aH:=aH.mono ah
  refine ba rfl ?_
  exact aF (s7 T.ok 1 rfl hs rfl rfl rfl rfl (hs.ret rfl))
 ·refine aJ (b:=decide (0≤lu p l)) (by rw[hf];simp) rfl ?_
  rw[Gh hk wE dy]
  refine cP 2 rfl ?_
  refine an rfl rfl (aW T.ok rfl aH (y:=l[k]) (by rw[hf];exact cU rfl hk) rfl rfl rfl rfl rfl rfl ?_)
  rintro b q ys aL rfl
  refine Wm 1 [.e aL 0] (St.start _) rfl ?_
  refine bg rfl (aA T.ok 0 rfl hs rfl rfl rfl rfl rfl rfl rfl rfl rfl ?_);replace hs:=hs;rintro g1 hs ah
  refine ba rfl ?_
  exact aF (s7 T.ok 0 rfl hs rfl rfl rfl rfl (hs.ret rfl))
theorem Gi(x:bc)(n:Int)(b1:Nat)(g:G)(aC:EP g b1 0 [.int .i64 n]):CallsIn Wd 0 Tryz.prog 62 #[fv x,.pointer (some ⟨b1,0,none⟩)] g.w (cR g fun _ r=>r= .bool (x.prod==n)):=by
 have hs:=St.start g
 refine enter Tryz.func62 rfl Tryz.ntmps62 rfl ?_
 apply c_
 refine an rfl rfl (aR rfl hs rfl rfl ?_);clear hs;rintro b2 g1 hs ah;replace aC:=aC.mono ah
 obtain⟨g2,bR,aU,ah,aL⟩:=hs.a_ (i:=0) rfl;replace hs:=aU;clear aU;rw[←bR];replace aC:=aC.mono ah
 have aP:=aL;clear aL
 refine ba rfl ?_;refine nK [.z aP,.z aC] (St.start _) rfl ?_
 exact aF (aV rfl rfl (hs.ret rfl))
theorem A5(v:Value)(b:fX)(n:Int)(g:G)(bI:iI g v b):CallsIn Wd 0 Tryz.prog 27 #[v,.int .i64 n] g.w (cR g fun _ r=>r= .tuple #[fv ((b.oc.find? fun f=>f.prod==n).getD gF),.bool (b.oc.find? fun f=>f.prod==n).isSome]):=by
 have hs:=St.start g
 have aq:=G.le.refl g
 obtain⟨sl,rfl,jr⟩:=bI
 have aH:=jr 4 (by decide)
 refine enter Tryz.func27 rfl Tryz.ntmps27 rfl ?_
 apply c_
 refine an rfl rfl (aR rfl hs rfl rfl ?_);clear hs;rintro b2 g1 hs ah;replace aH:=aH.mono ah
 obtain⟨g2,bR,aU,ah,aL⟩:=hs.a_ (i:=0) rfl;replace hs:=aU;clear aU;rw[←bR];replace aH:=aH.mono ah
 have aC:=aL;clear aL
 skip
 refine an rfl rfl (aR rfl hs rfl rfl ?_);clear hs;rintro b3 g1 hs ah;obtain⟨aC,aH⟩:=cC ah aC aH
 obtain⟨g2,bR,aU,ah,aL⟩:=hs.a_ (i:=0) rfl;replace hs:=aU;clear aU;rw[←bR];obtain⟨aC,aH⟩:=cC ah aC aH
 have aP:=aL;clear aL
 skip
 refine an rfl rfl (aK T.ok rfl hs rfl rfl ?_);clear hs;rintro b4 g1 hs ah;obtain⟨aC,aP,aH⟩:=ef ah aC aP aH
 refine ba rfl ?_;refine dx 3 [.z aC] (St.start _) rfl ?_
 refine an rfl rfl (ay K1 aI rfl rfl rfl rfl rfl (A4 _ _ b.oc (fun f=>f.prod==n) _ aH (fun g' x _ h=>de (first:=#[]) (args:=[fv x]) (captured:=#[.pointer (some ⟨b3,0,none⟩)]) PL rfl (Gi x n b3 g' (aP.mono h)))) ?_);rintro g1 _ aN rfl;replace hs:=hs.call aN;have ah:=aN.le
 refine Wp 2 rfl ?_
 refine bg rfl (aA T.ok 0 rfl hs rfl rfl rfl rfl rfl rfl rfl rfl rfl ?_);replace hs:=hs;rintro g1 hs ah
 refine ba rfl ?_
 exact aF (s7 T.ok 0 rfl hs rfl rfl rfl rfl (hs.ret rfl))
def pD(tool cham rcp rvn time:Int)(x:bc):Bool:=((x.tool==tool&&(x.cham==cham&&(x.rcp==rcp&&x.rvn==rvn)))&&decide (x.time≤time))&&decide (time≤x.til)
theorem Gj(x:bc)(tool cham rcp rvn time:Int)(b1 b2:Nat)(g:G)(aC:EP g b1 0 [.int .i64 tool,.int .i64 cham,.int .i64 rcp,.int .i64 rvn])(aP:EP g b2 0 [.int .i64 time]):CallsIn Wd 0 Tryz.prog 71 #[fv x,.pointer (some ⟨b1,0,none⟩),.pointer (some ⟨b2,0,none⟩)] g.w (cR g fun _ r=>r= .bool (pD tool cham rcp rvn time x)):=by
 have hs:=St.start g
 refine enter Tryz.func71 rfl Tryz.ntmps71 rfl ?_
 apply c_
 refine an rfl rfl (aR rfl hs rfl rfl ?_);clear hs;rintro b3 g1 hs ah;obtain⟨aC,aP⟩:=cC ah aC aP
 obtain⟨g2,bR,aU,ah,aL⟩:=hs.a_ (i:=0) rfl;replace hs:=aU;clear aU;rw[←bR];obtain⟨aC,aP⟩:=cC ah aC aP
 have dO:=aL;clear aL
 refine ba rfl ?_;refine dx 8 [.z dO,.z dO,.z dO,.z dO] (St.start _) rfl ?_
 refine an rfl rfl (iH T.ok rfl (vs:=[(0,.int .i64 x.tool),(1,.int .i64 x.cham),(2,.int .i64 x.rcp),(3,.int .i64 x.rvn)]) (cells:=[.int .i64 x.tool,.int .i64 x.cham,.int .i64 x.rcp,.int .i64 x.rvn]) rfl rfl rfl rfl rfl (by kernel_rfl) ?_)
 refine Wm 1 [.z aC] (St.start _) rfl ?_
 refine an rfl rfl (qs (neg:=false) rfl rfl rfl (by kernel_rfl) (Qt x.tool x.cham x.rcp x.rvn tool cham rcp rvn _) ?_)
 unfold pD
 cases(x.tool==tool&&(x.cham==cham&&(x.rcp==rcp&&x.rvn==rvn)))with
 |false=>
  refine ba rfl ?_
  exact aF (aV rfl rfl (hs.ret rfl))
 |true=>
  refine Wm 7 [.z dO,.z aP] (St.start _) rfl ?_
  cases decide (x.time≤time)with
  |false=>
   refine ba rfl ?_
   exact aF (aV rfl rfl (hs.ret rfl))
  |true=>
   refine A3 [.z aP,.z dO] (St.start _) rfl ?_
   exact aF (aV rfl rfl (hs.ret rfl))
theorem DW(v:Value)(b:fX)(tool cham rcp rvn time:Int)(g:G)(bI:iI g v b):CallsIn Wd 0 Tryz.prog 31 #[v,.int .i64 tool,.int .i64 cham,.int .i64 rcp,.int .i64 rvn,.int .i64 time] g.w (cR g fun _ r=>r= .bool (b.sE.any (pD tool cham rcp rvn time))):=by
 have hs:=St.start g
 have aq:=G.le.refl g
 obtain⟨sl,rfl,jr⟩:=bI
 have aH:=jr 5 (by decide)
 refine enter Tryz.func31 rfl Tryz.ntmps31 rfl ?_
 apply c_
 refine an rfl rfl (aR rfl hs rfl rfl ?_);clear hs;rintro b2 g1 hs ah;replace aH:=aH.mono ah
 obtain⟨g2,bR,aU,ah,aL⟩:=hs.a_ (i:=0) rfl;replace hs:=aU;clear aU;rw[←bR];replace aH:=aH.mono ah
 have aC:=aL;clear aL
 skip
 refine an rfl rfl (aR rfl hs rfl rfl ?_);clear hs;rintro b3 g1 hs ah;obtain⟨aC,aH⟩:=cC ah aC aH
 obtain⟨g2,bR,aU,ah,aL⟩:=hs.a_ (i:=0) rfl;replace hs:=aU;clear aU;rw[←bR];obtain⟨aC,aH⟩:=cC ah aC aH
 have aP:=aL;clear aL
 refine ba rfl ?_;refine cP 4 rfl ?_
 refine an rfl rfl (iH T.ok rfl (vs:=[(0,.int .i64 tool),(1,.int .i64 cham),(2,.int .i64 rcp),(3,.int .i64 rvn)]) (cells:=[.int .i64 tool,.int .i64 cham,.int .i64 rcp,.int .i64 rvn]) rfl rfl rfl rfl rfl (by kernel_rfl) ?_)
 skip
 refine an rfl rfl (aK T.ok rfl hs rfl rfl ?_);clear hs;rintro b4 g1 hs ah;obtain⟨aC,aP,aH⟩:=ef ah aC aP aH
 refine bg rfl (aA T.ok 0 rfl hs rfl rfl rfl rfl rfl rfl rfl rfl rfl ?_);replace hs:=hs;rintro g1 hs ah;obtain⟨aC,aP,aH⟩:=ef ah aC aP aH
 obtain⟨g2,bR,aU,ah,aL⟩:=hs.a_ (i:=0) rfl;replace hs:=aU;clear aU;rw[←bR];obtain⟨aC,aP,aH⟩:=ef ah aC aP aH
 have dO:=aL;clear aL
 apply cf;refine dx 3 [.z aC] (St.start _) rfl ?_
 refine an rfl rfl (ay K1 aI rfl rfl rfl rfl rfl (A4 _ _ b.sE (pD tool cham rcp rvn time) _ aH (fun g' x _ h=>de (first:=#[]) (args:=[fv x]) (captured:=#[.pointer (some ⟨b4,0,none⟩),.pointer (some ⟨b3,0,none⟩)]) PQ rfl (Gj x tool cham rcp rvn time b4 b3 g' (dO.mono h) (aP.mono h)))) ?_);rintro g1 _ aN rfl;replace hs:=hs.call aN;have ah:=aN.le
 refine Wp 3 rfl ?_
 refine an rfl rfl (aK T.ok rfl hs rfl rfl ?_);clear hs;rintro b5 g1 hs ah
 skip
 refine bg rfl (aA T.ok 0 rfl hs rfl rfl rfl rfl rfl rfl rfl rfl rfl ?_);replace hs:=hs;rintro g1 hs ah
 refine ba rfl ?_;refine aX rfl ?_
 exact aF (aV rfl rfl (hs.ret (congrArg Value.bool (by rw[Bool.eq_iff_iff,List.find?_isSome,List.any_eq_true]))))
end Go.Proofs.YtebobfdheanknaaGreatDoor
namespace Go.Proofs.YtebobfdheanknaaGreatDoor
open Go Go.K
set_option maxRecDepth 10000
attribute [local irreducible] W WL cT bu bX bA bB bD cW cG
set_option maxHeartbeats 4000000
theorem kX{g:G}: ∀{xs:List bc} {cs:List Value},cO g cs xs→cs=fl xs
 |[],_,h=>h
 |x::xs,_,⟨c1,c2,e,h1,h2⟩=>by
  obtain rfl:c1=bW x:=h1
  rw[e,kX h2,sk];rfl
def Uk(fo:Value)(g:G):Prop:=∀(g':G) (x:bc),g.le g'→ir Tryz.prog fo [fv x] g'.w (cR g' fun _ r=>r=fv x)
def Nw:Bool→Nat
 |false=>197
 |true=>201
theorem Nx(tw:Bool):ag Tryz.prog (Nw tw):=by
 cases tw
 ·exact Ma
 ·exact Me
theorem tk(tw:Bool)(v fa fo:Value)(l:List bc)(p:bc→Bool)(g:G)(aH:Rs g v l)(hl:l.length≤1000000)(ha:Uk fa g)(hp:x6 fo p l g):
  CallsIn Wd 0 Tryz.prog (Nw tw) #[v,fa,fo] g.w (cR g fun g' r=>jZ (ll (!tw)) g (l.filter p) g' r):=by
 cases tw
 case' false=>let tw:=false
 case' true=>let tw:=true
 all_goals
  have hs:=(St.start g).gI (ll (!tw)) 19 none
  have aq:=G.le.refl g
  obtain⟨a,c,rfl⟩:=aH.isSlice
  first|refine enter Tryz.func197 rfl Tryz.ntmps197 rfl ?_|refine enter Tryz.func201 rfl Tryz.ntmps201 rfl ?_
  refine aX rfl ?_;refine aX rfl ?_;apply aB;refine aX rfl ?_;apply aG
  refine bS (fun m a' w=> ∃(i:Nat) (ad:Option Addr) (cc:Nat) (g':G),w=g'.w∧St g g' [.row (ll (!tw)) 19 (.slice ad ((l.take i).filter p).length cc) ((l.take i).filter p).length (fl ((l.take i).filter p))]∧G.le g g'∧Rs g' (.slice a l.length c) l∧i≤l.length∧m=l.length-i∧
    Fr 27 [] [(1,fa),(2,fo),(7,.slice ad ((l.take i).filter p).length cc),(10,.slice a l.length c),(11,.int .i64 (l.length:Nat)),(12,.int .i64 (i:Nat))] a') l.length
   (fun a' ha=>⟨0,none,0,g,rfl,hs,aq,aH,Nat.zero_le _,rfl,ha.keep (by(repeat (first|exact trivial|refine⟨rfl,?_⟩)))⟩) ?_
  clear hs aH aq
  rintro m a' _ ⟨i,ad,cc,g',rfl,hs,aq,aH,hi,rfl,eI⟩
  revert a'
  apply cQ;refine aX rfl ?_;apply aB
  by_cases bh:i<l.length
  ·refine aJ (b:=decide ((i:Int)<(l.length:Int))) (decide_eq_true (by omega)) rfl ?_
   have ic:dA l (i:Int)=some l[i]:=cU rfl bh
   have fw:(l.take (i+1)).filter p=(l.take i).filter p++(if p l[i]then [l[i]]else []):=by
    rw[List.take_add_one,List.getElem?_eq_getElem bh,List.filter_append]
    congr 1
    simp only[Option.toList_some,List.filter_cons,List.filter_nil]
   have qQ:l[i]∈l:=List.getElem_mem bh
   have Wo:((l.take i).filter p).length≤i:=Nat.le_trans (List.length_filter_le ..) (by rw[List.length_take];omega)
   generalize(l.take i).filter p=out at*
   generalize l[i]=x at*
   apply aE;apply au;apply aB;apply aG;apply c_
   refine an rfl rfl (aW T.ok rfl aH (y:=x) ic rfl rfl rfl rfl rfl rfl ?_)
   rintro b q ys aL rfl
   have aC:=aL;clear aL
   refine Wm 1 [.e aC 0] (St.start _) rfl ?_
   refine an rfl rfl (aK T.ok rfl hs rfl rfl ?_);clear hs;rintro b9 g1 hs ah;obtain⟨aq,aH⟩:=cC ah aq aH
   refine bg rfl (aA T.ok 0 rfl hs rfl rfl rfl rfl rfl rfl rfl rfl rfl ?_);replace hs:=hs;rintro g1 hs ah;obtain⟨aq,aH⟩:=cC ah aq aH
   obtain⟨g2,bR,aU,ah,aL⟩:=hs.a_ (i:=0) rfl;replace hs:=aU;clear aU;rw[←bR];obtain⟨aq,aH⟩:=cC ah aq aH
   have aP:=aL;clear aL
   clear aC
   apply cf;refine dx 2 [.z aP] (St.start _) rfl ?_
   refine an rfl rfl (eA rfl rfl rfl rfl rfl rfl (hp _ x qQ aq) ?_);rintro g1 _ aN rfl;replace hs:=hs.call aN;have ah:=aN.le;obtain⟨aq,aP,aH⟩:=ef ah aq aP aH
   cases SF:p x with
   |true=>
    apply cf
    refine aJ rfl rfl ?_
    apply ar;refine Wm 3 [.z aP] (St.start _) rfl ?_
    refine an rfl rfl (eA rfl rfl rfl rfl rfl rfl (ha _ x aq) ?_);clear aN;rintro g1 _ aN rfl;replace hs:=hs.call aN;have ah:=aN.le;obtain⟨aq,aH⟩:=cC ah aq aH
    skip
    refine an rfl rfl (bj T.ok rfl hs (vs:=[(0,fv x)]) (cells:=bW x) rfl rfl rfl rfl rfl rfl (by decide) (by decide) (by kernel_rfl) rfl ?_);rintro bl gl hs ah;obtain⟨aq,aH⟩:=cC ah aq aH
    obtain⟨gz,ik,cS,iT,B8⟩:=hs.cL (α:=bc) (xs:=[x]) (i:=0) rfl ⟨bW x,[],(List.append_nil _).symm,rfl,rfl⟩
    clear ah;have ah:=iT;rw[←ik];replace hs:=cS;clear cS;obtain⟨aq,aH⟩:=cC ah aq aH
    obtain⟨_,news,hn,gn⟩:=Src.jq B8
    obtain⟨c1,c2,rfl,rfl,rfl⟩:=hn
    rw[List.append_nil]at gn
    refine an rfl rfl (b_ T.ok 0 rfl hs rfl rfl rfl rfl rfl rfl rfl (by decide) rfl gn (El.one (α:=bc) (g:=gz) (x:=x) rfl) (by show(out.length+1)*160≤_;omega) (by show out.length+1≤maxLen;unfold maxLen;omega) ?_)
    clear hs;intro a6 c6 g6 hs ah;obtain⟨aq,aH⟩:=cC ah aq aH
    replace hs:St g g6 [.row (ll (!tw)) 19 (.slice a6 (out.length+1) c6) (out.length+1) (fl out++bW x)]:=hs
    have e:(l.take (i+1)).filter p=out++[x]:=by rw[fw,SF];rfl
    have e2:fl out++bW x=fl (out++[x]):=by rw[lr];exact congrArg (fl out++ ·) (List.append_nil _).symm
    rw[e2]at hs
    refine Wp 1 rfl ?_;apply aD;apply bU;apply au;apply ar;refine Wp 2 rfl ?_;apply aD
    refine fun a ha=>⟨l.length-(i+1),by omega,i+1,a6,c6,g6,rfl,?_,aq,aH,by omega,rfl,?_⟩
    ·rw[e,List.length_append];exact hs
    ·rw[e,List.length_append]
     exact ha.keep ⟨rfl,rfl,rfl,rfl,rfl,kI rfl (by rw[wr (by omega) (by omega)];omega),trivial⟩
   |false=>
    apply cf
    refine aS rfl rfl ?_
    apply aE;apply bU;apply au;apply ar;refine Wp 2 rfl ?_;apply aD
    have e:(l.take (i+1)).filter p=out:=by rw[fw,SF];exact List.append_nil _
    refine fun a ha=>⟨l.length-(i+1),by omega,i+1,ad,cc,_,rfl,?_,aq,aH,by omega,rfl,?_⟩
    ·rw[e];exact hs
    ·rw[e]
     exact ha.keep ⟨rfl,rfl,rfl,rfl,rfl,kI rfl (by rw[wr (by omega) (by omega)];omega),trivial⟩
  ·refine aS (b:=decide ((i:Int)<(l.length:Int))) (decide_eq_false (by omega)) rfl ?_
   rw[List.take_of_length_le (by omega)]at hs⊢
   apply bE;apply bK;apply bK;apply dc;apply au;refine aX rfl ?_
   exact aF (aV rfl rfl (hs.ret ⟨_,hs.own 0 _ rfl,cO.fl _ _⟩))
def wJ(f:bc):Int×Int:=(f.time,f.idn)
theorem Ny(x:bc)(g:G):CallsIn Wd 0 Tryz.prog 198 #[fv x] g.w (cR g fun _ r=>r=fv x):=by
 have hs:=St.start g
 refine enter Tryz.func198 rfl Tryz.ntmps198 rfl ?_
 apply c_
 refine an rfl rfl (aR rfl hs rfl rfl ?_);clear hs;rintro b1 g1 hs ah;skip
 obtain⟨g2,bR,aU,ah,aL⟩:=hs.a_ (i:=0) rfl;replace hs:=aU;clear aU;rw[←bR];skip
 have aC:=aL;clear aL
 skip
 refine an rfl rfl (aK T.ok rfl hs rfl rfl ?_);clear hs;rintro b2 g1 hs ah;replace aC:=aC.mono ah
 apply cf;refine dx 1 [.z aC] (St.start _) rfl ?_
 refine bg rfl (aA T.ok 0 rfl hs rfl rfl rfl rfl rfl rfl rfl rfl rfl ?_);replace hs:=hs;rintro g1 hs ah
 apply cf
 exact aF (kJ T.ok 0 rfl hs rfl rfl rfl (hs.ret rfl))
theorem Nz(x:bc)(g:G):CallsIn Wd 0 Tryz.prog 202 #[fv x] g.w (cR g fun _ r=>r=fv x):=by
 have hs:=St.start g
 refine enter Tryz.func202 rfl Tryz.ntmps202 rfl ?_
 apply c_
 refine an rfl rfl (aR rfl hs rfl rfl ?_);clear hs;rintro b1 g1 hs ah;skip
 obtain⟨g2,bR,aU,ah,aL⟩:=hs.a_ (i:=0) rfl;replace hs:=aU;clear aU;rw[←bR];skip
 have aC:=aL;clear aL
 skip
 refine an rfl rfl (aK T.ok rfl hs rfl rfl ?_);clear hs;rintro b2 g1 hs ah;replace aC:=aC.mono ah
 apply cf;refine dx 1 [.z aC] (St.start _) rfl ?_
 refine bg rfl (aA T.ok 0 rfl hs rfl rfl rfl rfl rfl rfl rfl rfl rfl ?_);replace hs:=hs;rintro g1 hs ah
 apply cf
 exact aF (kJ T.ok 0 rfl hs rfl rfl rfl (hs.ret rfl))
theorem NA(x:bc)(g:G):CallsIn Wd 0 Tryz.prog 203 #[fv x] g.w (cR g fun _ r=>r= .bool true):=by
 have hs:=St.start g
 refine enter Tryz.func203 rfl Tryz.ntmps203 rfl ?_
 apply c_
 refine an rfl rfl (aR rfl hs rfl rfl ?_);clear hs;rintro b1 g1 hs ah;skip
 refine ba rfl ?_;refine aX rfl ?_
 exact aF (aV rfl rfl (hs.ret rfl))
theorem Jj(x y:bc)(g:G):CallsIn Wd 0 Tryz.prog 200 #[fv x,fv y] g.w (cR g fun _ r=>r= .int .i64 (qK (wJ x) (wJ y))):=by
 have hs:=St.start g
 refine enter Tryz.func200 rfl Tryz.ntmps200 rfl ?_
 apply c_
 refine an rfl rfl (aR rfl hs rfl rfl ?_);clear hs;rintro b1 g1 hs ah;skip
 obtain⟨g2,bR,aU,ah,aL⟩:=hs.a_ (i:=0) rfl;replace hs:=aU;clear aU;rw[←bR];skip
 have aP:=aL;clear aL
 skip
 refine an rfl rfl (aR rfl hs rfl rfl ?_);clear hs;rintro b2 g1 hs ah;replace aP:=aP.mono ah
 obtain⟨g2,bR,aU,ah,aL⟩:=hs.a_ (i:=0) rfl;replace hs:=aU;clear aU;rw[←bR];replace aP:=aP.mono ah
 have dO:=aL;clear aL
 refine ba rfl ?_;apply aB
 apply bO hs (fj (eJ (.f (Fact.rs [jx x.time y.time,jx x.idn y.idn])::fe []))) 12 [(11,16)] (by kernel_rfl) rfl
 ·refine Dm [[],[0],[],[2],[1,3],[],[5],[],[7],[6,8]] [.z aP,.z dO,.c AP fun g _=>wu x.time y.time g,.z aP,.z dO,.c AP fun g _=>wu x.idn y.idn g] hs (by kernel_rfl) rfl ?_
  refine aw (ak (js:=[(4,9),(9,14)]) (by kernel_rfl) fun gd hf=>ai rfl (ai rfl (aj (az rfl (bj T.ok rfl (St.start gd) (vs:=[(0,.int .i64 (jx x.time y.time)),(1,.int .i64 (jx x.idn y.idn))]) (cells:=[jx x.time y.time,jx x.idn y.idn].map (Value.int .i64)) rfl rfl rfl rfl rfl rfl (by decide) (by decide) (by kernel_rfl) rfl fun b g' iS _=> ?_))))) ?_
  ·obtain⟨g2,e1,e2,e3⟩:=kj (α:=Int) iS (cO.ints g' [jx x.time y.time,jx x.idn y.idn])
   exact⟨g2,e1,e2,e3⟩
  refine aw (ak (js:=[(10,15)]) (by kernel_rfl) fun gd hf=>aY fun v h=>aj (az rfl (ay HB aI rfl rfl rfl rfl rfl (MY v [jx x.time y.time,jx x.idn y.idn] _ h) fun g' v h1 h2=>⟨g',rfl,h1,h2⟩))) ?_
  exact fJ
 clear hs;intro g6 hs ah
 refine ba rfl ?_
 exact aF (aV rfl rfl (hs.ret rfl))
theorem vt(v fo:Value)(l:List bc)(p:bc→Bool)(g:G)(aH:Rs g v l)(hl:l.length≤1000000)(hp:x6 fo p l g):
  CallsIn Wd 0 Tryz.prog 116 #[v,fo] g.w (cR g fun g' r=>Rs g' r (dK wJ (l.filter p))):=by
 have hs:=St.start g
 have aq:=G.le.refl g
 obtain⟨a,c,rfl⟩:=aH.isSlice
 refine enter Tryz.func116 rfl Tryz.ntmps116 rfl ?_
 refine aX rfl ?_;refine cP 2 rfl ?_
 refine an rfl rfl (ay (Nx false) aI rfl rfl rfl rfl rfl (tk false _ (.func (.func 198) #[] #[]) fo l p _ aH hl (fun g' x _=>de (first:=#[]) (args:=[fv x]) (captured:=#[]) Mb rfl (Ny x g')) hp) ?_)
 rintro g1 v1 aN ⟨cells,hh,hr⟩
 obtain rfl:=kX hr
 obtain⟨a1,c1,rfl⟩:=hh.1.form
 have xR:(l.filter p).length≤1000000:=Nat.le_trans (List.length_filter_le ..) hl
 replace hs:=hs.gJ aN hh;have ah:=aN.le
 clear hr hh aN
 replace hs:St g g1 [eP (ll true) a1 (l.filter p).length c1 (l.filter p)]:=hs
 refine ba rfl ?_;refine cP 1 rfl ?_
 refine an rfl rfl (dv (M9 true) aI rfl rfl rfl rfl rfl (vm true (kf:=wJ) (l.filter p) rfl (by omega) (fun g' _ x y=>de (first:=#[]) (args:=[fv x,fv y]) (captured:=#[]) Md rfl (Jj x y g')) hs) ?_)
 clear hs
 rintro g6 _ ah ⟨rfl,hs⟩
 have hn:(l.filter p).length=(dK wJ (l.filter p)).length:=(fR _).symm
 rw[hn]at xR hs⊢
 generalize dK wJ (l.filter p)=xs at*
 obtain⟨g7,BZ,B0,ah,py⟩:=hs.cL (α:=bc) (xs:=xs) (i:=0) rfl (cO.fl _ _)
 rw[←BZ];clear hs;replace hs:=B0;clear B0;clear BZ
 replace hs:St g g7 []:=hs
 apply cf;refine cP 1 rfl ?_
 refine an rfl rfl (ay (Nx true) aI rfl rfl rfl rfl rfl (tk true _ (.func (.func 202) #[] #[]) (.func (.func 203) #[] #[]) xs (fun _=>true) _ py xR (fun g' x _=>de (first:=#[]) (args:=[fv x]) (captured:=#[]) Mf rfl (Nz x g')) (fun g' x _ _=>de (first:=#[]) (args:=[fv x]) (captured:=#[]) Mg rfl (NA x g'))) ?_)
 rintro g8 v8 D5 h8
 rw[show xs.filter (fun _=>true)=xs from List.filter_eq_self.2 fun _ _=>rfl]at h8
 obtain⟨g9,OY,FL,ah,QF⟩:=hs.mZ D5 h8
 have ah:=D5.le.trans ah
 rw[←OY];clear hs;replace hs:=FL;clear FL;clear OY
 refine ba rfl ?_
 exact aF (aV rfl rfl (hs.ret QF))
end Go.Proofs.YtebobfdheanknaaGreatDoor
