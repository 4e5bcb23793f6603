/- Parts of the proof, from: Reading a line: right, which recovers. -/
import Derived.Test.YtebobfdheanknaaGreatDoorYf
import Derived.Test.YtebobfdheanknaaGreatDoorYc
import Derived.Test.YtebobfdheanknaaGreatDoorYd
import Derived.Test.YtebobfdheanknaaGreatDoorYe
import Derived.Test.YtebobfdheanknaaGreatDoorShelfP
import Derived.Test.YtebobfdheanknaaGreatDoorYb
namespace Go.Proofs.YtebobfdheanknaaGreatDoor
open Go Go.K
set_option maxRecDepth 10000
attribute [local irreducible] W WL cT bu bX bA bB bD cW cG
set_option maxHeartbeats 4000000
theorem gA{fn:Func}{tb:Tb}{P:Program}{g0 g:G}{L:List cV}(dn:tb.ok P){tmps:Array Value}{t tt b:Nat}{v:Value}{cs:List Value}{E:TypeId}{fz:Nat×Nat}(i:Nat)(hr:fn.results=#[.cell t tt])(hs:St g0 g L)
  (h1:tmps[t]? =some (.pointer (some ⟨b,0,none⟩))) (hi:L[i]? =some (.obj b (.cells cs.toArray E fz))) (hv:ve tb tt cs 0=some v):
  (results fn tmps).run P g.w= .ok v g.w:=by
 have e1:=iR (P:=P) (w:=g.w) (off:=0) (o:=0) dn hv (kg (hs.own i _ hi).2.1)
 simp only[Nat.add_zero]at e1
 simp[results,hr,h1,asAddr,e1]
theorem o3{b6:Nat}{v6:Bool}{g0 g:G}{e0:cV}{L:List cV}(hs:St g0 g (e0:: .obj b6 (.cells [Value.bool v6].toArray 4 (0,0))::L)):
  CallsDIn Wd 0 Tryz.prog 139 #[.pointer (some ⟨b6,0,none⟩)] (.panicking lD) g.w fun en u' w'=>en= .returned (.tuple #[])∧u'= .panicking [{v:=.iface 291 (.agg #[]),recovered:=true}]∧
   ∃g',g'.w=w'∧g.le g'∧St g0 g' (e0:: .obj b6 (.cells [Value.bool false].toArray 4 (0,0))::L):=by
 refine callsDIn_of_wpSIn Tryz.func139 rfl trivial fun c₀ cs hu=> ?_
 apply wpSIn_seq
 apply wpSIn_region
 simp[wpOpsSIn,go_sem,recoverD,hu,lD,Tryz.ntmps139,Exit.thenS]
 refine Bs (N:=5) (l:=[(0,.pointer (some ⟨b6,0,none⟩)),(1,.iface 291 (.agg #[])),(2,.iface 291 (.agg #[]))]) rfl (by simp) (by simp[oW]) ?_
 have aq:=G.le.refl g
 refine cP 1 rfl ?_
 refine an rfl rfl (nt (neg:=true) rfl rfl rfl rfl rfl ?_)
 apply cf
 refine aJ rfl rfl ?_
 apply ar
 refine bg rfl (aA T.ok 1 rfl hs rfl rfl rfl rfl rfl rfl rfl rfl rfl ?_);replace hs:=hs;rintro g1 hs ah;replace aq:=G.le.trans aq ah
 apply aD
 exact Oj _ rfl rfl ⟨rfl,rfl,g1,rfl,aq,hs⟩
theorem o4{b6:Nat}(w:World):CallsDIn Wd 0 Tryz.prog 139 #[.pointer (some ⟨b6,0,none⟩)] .returning w fun en u' w'=>en= .returned (.tuple #[])∧u'= .returning∧w'=w:=by
 refine callsDIn_of_wpSIn Tryz.func139 rfl trivial fun c₀ cs hu=> ?_
 apply wpSIn_seq
 apply wpSIn_region
 simp[wpOpsSIn,go_sem,recoverD,hu,Tryz.ntmps139,Exit.thenS]
 refine Bs (N:=5) (l:=[(0,.pointer (some ⟨b6,0,none⟩)),(1,.nilIface),(2,.nilIface)]) rfl (by simp) (by simp[oW]) ?_
 refine cP 1 rfl ?_
 refine an rfl rfl (nt (neg:=true) rfl rfl rfl rfl rfl ?_)
 apply cf
 refine aS rfl rfl ?_
 apply aE
 exact Oj _ rfl (by cases c₀;simp_all) ⟨rfl,rfl,rfl⟩
def nI(f:bV)(line:List UInt8):Option bV:=
 if nB.isPrefixOf line=true then(rJ f line).map fun s=>{f with steps:=f.steps++[s]}
 else(jk f line).map fun w=>{f with windows:=f.windows++[w]}
def k9(b:Nat)(L:List cV)(g0 g':G)(res:Option bV)(r:Value):Prop:=
 match res with
 |some f'=>r= .bool true∧Hn b f' L g0 g'
 |none=>r= .bool false∧ ∃cs,St g0 g' (Hr b cs::L)
theorem Hy{b:Nat}(f:bV)(line:List UInt8)(hlen:line.length≤1000000)(Ke:f.steps.length≤1000000)(GC:f.windows.length≤1000000){g0 g:G}{L:List cV}(hF:iw g)(hO:Hn b f L g0 g):
  CallsIn Wd 0 Tryz.prog 65 #[.pointer (some ⟨b,0,none⟩),.string (bs line),.bool false] g.w (eu g fun g' r=>k9 b L g0 g' (nI f line) r):=by
 have aq:=G.le.refl g
 obtain⟨sa,sc,wa,wc,vY,hs,dL⟩:=hO
 refine EZ Tryz.func65 rfl Tryz.ntmps65 rfl ?_
 apply c_
 refine an rfl rfl (aK T.ok rfl hs rfl rfl ?_);clear hs;rintro b6 g1 hs ah;obtain⟨aq,dL⟩:=cC ah aq dL
 have aU:St g0 g1 (IF b f sa sc wa wc vY++ .obj b6 (.cells [Value.bool false].toArray 4 (0,0))::L):=hs.perm List.perm_middle.symm
 replace hs:=aU
 clear aU
 apply cf;refine cP 1 rfl ?_
 refine yM rfl aI rfl rfl rfl rfl ?_
 apply cf;apply aB;apply aG;refine aX rfl ?_
 refine aS rfl rfl ?_
 refine cP 1 rfl ?_
 refine an rfl rfl (ay K2 aI rfl rfl rfl rfl rfl (y_ line nB _) ?_)
 rintro g2 _ wF rfl
 replace hs:=hs.call wF
 have ah:=wF.le;obtain⟨aq,dL⟩:=cC ah aq dL
 have hO:Hn b f (.obj b6 (.cells [Value.bool false].toArray 4 (0,0))::L) g0 g2:=⟨sa,sc,wa,wc,vY,hs,dL⟩
 have Tm:=hF.mono aq
 clear hs dL
 refine ba rfl ?_
 cases gD:nB.isPrefixOf line with
 |true=>
  refine aJ rfl rfl ?_
  apply ar;refine Wp 2 rfl ?_
  have dm:=Kd f line hlen Ke Tm hO
  refine an rfl rfl (nT Lx aI rfl rfl rfl rfl rfl (dm.mono fun e w' h=> ?_))
  rcases h with⟨g3,v,rfl,rfl,ah,rfl,s,iS,R1⟩|⟨hn,g3,rfl,rfl,ah,cs,hs⟩
  ·refine .inl ⟨_,rfl,?_⟩
   obtain⟨sa,sc,wa,wc,vY,hs,dL⟩:=R1
   replace aq:=G.le.trans aq ah
   apply aD;apply bU;apply au;apply c_
   refine bg rfl (aA T.ok 3 rfl hs rfl rfl rfl rfl rfl rfl rfl rfl rfl ?_);replace hs:=hs;rintro g1 hs ah;obtain⟨aq,dL⟩:=cC ah aq dL
   apply cf
   refine aF (JZ vb fun tmps q8=>(o4 _).mono ?_)
   rintro e u' G2 ⟨rfl,rfl,rfl⟩
   refine⟨_,gA T.ok 3 rfl hs (q8 _ _ rfl) rfl rfl,?_⟩
   refine eu.intro aq ?_
   rw[show nI f line=some {f with steps:=f.steps++[s]}from by unfold nI;rw[if_pos gD,iS];rfl]
   exact⟨rfl,sa,sc,wa,wc,vY,hs.drop 3,dL⟩
  ·refine .inr ⟨_,rfl,?_⟩
   replace aq:=aq.trans ah
   (repeat (first|with_reducible refine f_ ?_|with_reducible refine gg ?_|with_reducible refine gh ?_))
   refine Al vb fun tmps q8=>(o3 hs).mono ?_
   rintro e u' G2 ⟨rfl,rfl,g4,rfl,Fp,FT⟩
   refine⟨_,gA T.ok 1 rfl FT (q8 _ _ rfl) rfl rfl,?_⟩
   refine eu.intro (aq.trans Fp) ?_
   rw[show nI f line=none from by unfold nI;rw[if_pos gD,hn];rfl]
   exact⟨rfl,cs,FT.drop 1⟩
 |false=>
  refine aS rfl rfl ?_
  apply ar;refine Wp 2 rfl ?_
  have dm:=Fi f line hlen GC Tm hO
  refine an rfl rfl (nT Ly aI rfl rfl rfl rfl rfl (dm.mono fun e w' h=> ?_))
  rcases h with⟨g3,v,rfl,rfl,ah,rfl,s,iS,R1⟩|⟨hn,g3,rfl,rfl,ah,cs,hs⟩
  ·refine .inl ⟨_,rfl,?_⟩
   obtain⟨sa,sc,wa,wc,vY,hs,dL⟩:=R1
   replace aq:=G.le.trans aq ah
   apply aD;apply bU;apply au;apply c_
   refine bg rfl (aA T.ok 3 rfl hs rfl rfl rfl rfl rfl rfl rfl rfl rfl ?_);replace hs:=hs;rintro g1 hs ah;obtain⟨aq,dL⟩:=cC ah aq dL
   apply cf
   refine aF (JZ vb fun tmps q8=>(o4 _).mono ?_)
   rintro e u' G2 ⟨rfl,rfl,rfl⟩
   refine⟨_,gA T.ok 3 rfl hs (q8 _ _ rfl) rfl rfl,?_⟩
   refine eu.intro aq ?_
   rw[show nI f line=some {f with windows:=f.windows++[s]}from by unfold nI;rw[if_neg (by rw[gD];simp),iS];rfl]
   exact⟨rfl,sa,sc,wa,wc,vY,hs.drop 3,dL⟩
  ·refine .inr ⟨_,rfl,?_⟩
   replace aq:=aq.trans ah
   (repeat (first|with_reducible refine f_ ?_|with_reducible refine gg ?_|with_reducible refine gh ?_))
   refine Al vb fun tmps q8=>(o3 hs).mono ?_
   rintro e u' G2 ⟨rfl,rfl,g4,rfl,Fp,FT⟩
   refine⟨_,gA T.ok 1 rfl FT (q8 _ _ rfl) rfl rfl,?_⟩
   refine eu.intro (aq.trans Fp) ?_
   rw[show nI f line=none from by unfold nI;rw[if_neg (by rw[gD];simp),hn];rfl]
   exact⟨rfl,cs,FT.drop 1⟩
theorem za{b:Nat}(line:List UInt8)(hlen:line.length≤1000000){g0 g:G}{L:List cV}(hF:iw g)(hs:St g0 g (IF b ⟨0,0,[],[]⟩ none 0 none 0 []++L)):
  CallsIn Wd 0 Tryz.prog 65 #[.pointer (some ⟨b,0,none⟩),.string (bs line),.bool true] g.w (eu g fun g' r=>k9 b L g0 g' ((qm line).map fun p=>⟨p.1,p.2,[],[]⟩) r):=by
 have aq:=G.le.refl g
 refine EZ Tryz.func65 rfl Tryz.ntmps65 rfl ?_
 apply c_
 refine an rfl rfl (aK T.ok rfl hs rfl rfl ?_);clear hs;rintro b6 g1 hs ah;replace aq:=G.le.trans aq ah
 have aU:St g0 g1 (IF b ⟨0,0,[],[]⟩ none 0 none 0 []++ .obj b6 (.cells [Value.bool false].toArray 4 (0,0))::L):=hs.perm List.perm_middle.symm
 replace hs:=aU
 clear aU
 apply cf;refine cP 1 rfl ?_
 refine yM rfl aI rfl rfl rfl rfl ?_
 apply cf;apply aB;apply aG;refine aX rfl ?_
 refine aJ rfl rfl ?_
 apply ar;refine Wp 2 rfl ?_
 have dm:=Kf line hlen (hF.mono aq) hs
 clear hs
 refine an rfl rfl (nT Lv aI rfl rfl rfl rfl rfl (dm.mono fun e w' h=> ?_))
 rcases h with⟨g3,v,rfl,rfl,ah,rfl,m,n,KO,hs⟩|⟨hn,g3,rfl,rfl,ah,cs,hs⟩
 ·refine .inl ⟨_,rfl,?_⟩
  replace aq:=G.le.trans aq ah
  apply aD;apply bU;apply au;apply c_
  refine bg rfl (aA T.ok 3 rfl hs rfl rfl rfl rfl rfl rfl rfl rfl rfl ?_);replace hs:=hs;rintro g1 hs ah;replace aq:=G.le.trans aq ah
  apply cf
  refine aF (JZ vb fun tmps q8=>(o4 _).mono ?_)
  rintro e u' G2 ⟨rfl,rfl,rfl⟩
  refine⟨_,gA T.ok 3 rfl hs (q8 _ _ rfl) rfl rfl,?_⟩
  refine eu.intro aq ?_
  rw[KO]
  exact⟨rfl,none,0,none,0,[],hs.drop 3,rfl⟩
 ·refine .inr ⟨_,rfl,?_⟩
  replace hs:=(hs.drop 1).drop 1
  replace aq:=aq.trans ah
  (repeat (first|with_reducible refine f_ ?_|with_reducible refine gg ?_|with_reducible refine gh ?_))
  refine Al vb fun tmps q8=>(o3 hs).mono ?_
  rintro e u' G2 ⟨rfl,rfl,g4,rfl,Fp,FT⟩
  refine⟨_,gA T.ok 1 rfl FT (q8 _ _ rfl) rfl rfl,?_⟩
  refine eu.intro (aq.trans Fp) ?_
  rw[hn]
  exact⟨rfl,cs,FT.drop 1⟩
end Go.Proofs.YtebobfdheanknaaGreatDoor
namespace Go.Proofs.YtebobfdheanknaaGreatDoor
open Go Go.K
set_option maxRecDepth 10000
attribute [local irreducible] W WL cT bu bX bA bB bD cW cG
set_option maxHeartbeats 4000000
def rL:bV:=⟨0,0,[],[]⟩
def BL(l:List UInt8):Bool:=l==[]||[35].isPrefixOf l
def uz(first:Bool)(f:bV)(l:List UInt8):Option bV:=if first=true then(qm l).map fun p=>⟨p.1,p.2,[],[]⟩else nI f l
def gm(first:Bool)(f:bV)(i:Nat):List (List UInt8)→bV⊕Nat
 |[]=> .inl f
 |l::r=>if BL l=true then gm first f (i+1) r else
  match uz first f l with
  |some f'=>gm false f' (i+1) r
  |none=> .inr (i+1)
def lx(s:List UInt8):bV⊕Nat:=
 match gm true rL 0 (cz 10 s)with
 | .inl f=>if valid f=true then .inl f else .inr (cz 10 s).length
 | .inr k=> .inr k
def Ep:Value:=.agg #[.int .i64 0,.int .i64 0,.slice none 0 0,.slice none 0 0]
def ke(g':G)(res:bV⊕Nat)(r:Value):Prop:=
 match res with
 | .inl f=> ∃v,r= .tuple #[v,.int .i64 0,.int .i64 0]∧fA g' v f
 | .inr k=>r= .tuple #[Ep,.int .i64 k,.int .i64 40]
theorem Fq{fn:Func}{tb:Tb}{P:Program}{N:Nat}{l:Env}{g0 g:G}{L:List cV}{R:Ending→World→Prop}(dn:tb.ok P)(i:Nat){t tt u x b:Nat}{cs:List Value}{E:TypeId}{fz:Nat×Nat}{v v2 v3:Value}(hr:fn.results=#[.cell t tt,.tmp u,.tmp x])(hs:St g0 g L)(hi:L[i]? =some (.obj b (.cells cs.toArray E fz)))
  (hl:lk l t=some (.pointer (some ⟨b,0,none⟩))) (hv:ve tb tt cs 0=some v) (sP:lk l u=some v2) (O5:lk l x=some v3) (hR:R (.returned (.tuple #[v,v2,v3])) g.w) (a:Act) (ha:Fr N [] l a):bodyPost P fn R .ret a g.w:=by
 refine⟨ha.defers,_,?_,hR⟩
 have:=iR (P:=P) (w:=g.w) (off:=0) (o:=0) dn hv (kg (hs.own i _ hi).2.1)
 simp only[Nat.add_zero]at this
 simp[results,hr,ha.get t _ hl,ha.get u _ sP,ha.get x _ O5,asAddr,this]
def zb(b b2:Nat)(first:Bool)(f:bV)(g0 g:G):Prop:=
 match first with
 |true=>f=rL∧St g0 g (IF b rL none 0 none 0 []++[.obj b2 (.cells [.int .i64 0,.int .i64 0,.slice none 0 0,.slice none 0 0].toArray 30 (0,0))])
 |false=>Hn b f [.obj b2 (.cells [.int .i64 0,.int .i64 0,.slice none 0 0,.slice none 0 0].toArray 30 (0,0))] g0 g
theorem zb.o{b b2:Nat}{first:Bool}{f:bV}{g0 g:G}(h:zb b b2 first f g0 g):Hn b f [.obj b2 (.cells [.int .i64 0,.int .i64 0,.slice none 0 0,.slice none 0 0].toArray 30 (0,0))] g0 g:=by
 cases first with
 |true=>obtain⟨rfl,h⟩:=h;exact⟨none,0,none,0,[],h,rfl⟩
 |false=>exact h
theorem zb.call{b b2:Nat}{first:Bool}{f:bV}{g0 g g':G}(h:zb b b2 first f g0 g)(hf:aZ g g'):zb b b2 first f g0 g':=by
 cases first with
 |true=>exact⟨h.1,h.2.call hf⟩
 |false=>obtain⟨a,c,d,e,k,h1,h2⟩:=h;exact⟨a,c,d,e,k,h1.call hf,h2.mono hf.le⟩
theorem CT{b b2:Nat}{first:Bool}(f:bV)(line:List UInt8)(hlen:line.length≤1000000)(Ke:f.steps.length≤1000000)(GC:f.windows.length≤1000000){g0 g:G}(hF:iw g)(h:zb b b2 first f g0 g):
  CallsIn Wd 0 Tryz.prog 65 #[.pointer (some ⟨b,0,none⟩),.string (bs line),.bool first] g.w (eu g fun g' r=>k9 b [.obj b2 (.cells [.int .i64 0,.int .i64 0,.slice none 0 0,.slice none 0 0].toArray 30 (0,0))] g0 g' (uz first f line) r):=by
 cases first with
 |true=>obtain⟨rfl,h⟩:=h;exact za line hlen hF h
 |false=>exact Hy f line hlen Ke GC hF h
theorem Fs{first:Bool}{f f':bV}{line:List UInt8}(h:uz first f line=some f'):f'.steps.length≤f.steps.length+1∧f'.windows.length≤f.windows.length+1:=by
 unfold uz nI at h
 split at h
 ·obtain⟨p,_,rfl⟩:=Option.map_eq_some_iff.1 h;exact⟨Nat.zero_le _,Nat.zero_le _⟩
 ·split at h
  ·obtain⟨p,_,rfl⟩:=Option.map_eq_some_iff.1 h;exact⟨by simp,by simp⟩
  ·obtain⟨p,_,rfl⟩:=Option.map_eq_some_iff.1 h;exact⟨by simp,by simp⟩
theorem A9(s:List UInt8)(g:G)(hlen:s.length≤999999)(hF:iw g):CallsIn Wd 0 Tryz.prog 28 #[.string (bs s)] g.w (cR g fun g' r=>ke g' (lx s) r):=by
 have hs:=St.start g
 have aq:=G.le.refl g
 refine enter Tryz.func28 rfl Tryz.ntmps28 rfl ?_
 apply c_
 refine an rfl rfl (aK T.ok rfl hs rfl rfl ?_);clear hs;rintro b2 g1 hs ah;replace aq:=G.le.trans aq ah
 refine ba rfl ?_;apply c_
 refine an rfl rfl (aK T.ok rfl hs rfl rfl ?_);clear hs;rintro b g1 hs ah;replace aq:=G.le.trans aq ah
 apply cf;refine cP 1 rfl ?_
 refine an rfl rfl (ay IW aI rfl rfl rfl rfl rfl (xz s 10 _ (by omega) (hF.mono aq)) ?_);rintro g1 vo aN IG;obtain⟨gz,ik,cS,iT,aH⟩:=hs.mZ aN IG;have ah:=aN.le.trans iT;rw[←ik];replace hs:=cS;clear cS IG;replace aq:=G.le.trans aq ah
 have AX:=nZ 10 s
 have rX:=kh 10 s
 have Tn: ∀x,gm true rL 0 (cz 10 s)=x→lx s=match x with
  | .inl f=>if valid f=true then .inl f else .inr (cz 10 s).length
  | .inr k=> .inr k:=by rintro x rfl;rfl
 generalize cz 10 s=ps at*
 obtain⟨pa,pc,rfl⟩:=aH.isSlice
 have OK:=aq
 have IH:(ps.map w_.mk).length=ps.length:=List.length_map _
 have Ft:Rs gz (.slice pa ps.length pc) (ps.map w_.mk):=by have h:=aH;rw[IH]at h;exact h
 clear aH
 rw[IH]
 have aU:St g gz (IF b rL none 0 none 0 []++[.obj b2 (.cells [.int .i64 0,.int .i64 0,.slice none 0 0,.slice none 0 0].toArray 30 (0,0))]):=
  ((hs.gI 141 3 none).gI 65 7 none).perm (List.perm_middle (l₁:=[cV.row 65 7 (.slice none 0 0) 0 [],cV.row 141 3 (.slice none 0 0) 0 []]))
 clear hs
 have To:zb b b2 true rL g gz:=⟨rfl,aU⟩
 clear aU
 refine ba rfl ?_;refine aX rfl ?_;apply aB;refine aX rfl ?_;apply aG
 refine bS (fun m a' w=> ∃(k:Nat) (first:Bool) (f:bV) (g':G),w=g'.w∧zb b b2 first f g g'∧G.le gz g'∧k≤ps.length∧m=ps.length-k∧f.steps.length≤k∧f.windows.length≤k∧gm first f k (ps.drop k)=gm true rL 0 ps∧
  Fr 40 [] [(2,.pointer (some ⟨b2,0,none⟩)),(5,.pointer (some ⟨b,0,none⟩)),(6,.slice pa ps.length pc),(7,.bool first),(12,.slice pa ps.length pc),(13,.int .i64 ps.length),(14,.int .i64 k)] a') ps.length
   (fun a' ha=>⟨0,true,rL,gz,rfl,To,G.le.refl _,Nat.zero_le _,rfl,Nat.zero_le _,Nat.zero_le _,rfl,ha.keep (by(repeat (first|exact trivial|refine⟨rfl,?_⟩)))⟩) ?_
 clear aq To
 rintro m a' _ ⟨k,first,f,g',rfl,hP,xA,hk,rfl,Ke,GC,tA,eI⟩
 have aH:=Ft.mono xA
 have aq:=OK.trans xA
 revert a'
 apply cQ;refine aX rfl ?_;apply aB
 by_cases bh:k<ps.length
 ·refine aJ (b:=decide ((k:Int)<(ps.length:Int))) (by simp;omega) rfl ?_
  rw[List.drop_eq_getElem_cons bh]at tA
  apply aE;apply au;apply aB;apply aG;refine cP 1 rfl ?_
  refine an rfl rfl (aW T.ok rfl aH (y:=⟨ps[k]⟩) (by simp[dA,bh]) rfl rfl rfl rfl rfl rfl ?_)
  rintro bq pq ys aL rfl
  refine Wm 1 [.e aL 0] (St.start _) rfl ?_
  refine ba rfl ?_;apply aB;refine cP 3 rfl ?_
  by_cases h0:ps[k]=[]
  ·refine cM 21 (b':=true) (by rw[cD,nY];simp[h0]) rfl ?_
   rw[show gm first f k (ps[k]::ps.drop (k+1))=gm first f (k+1) (ps.drop (k+1))from by rw[gm,if_pos (by unfold BL;rw[h0];rfl)]]at tA
   refine ba rfl ?_
   refine aJ rfl rfl ?_
   apply bE;apply bK;apply dc;apply au;apply ar;refine Wp 2 rfl ?_;apply aD
   refine fun a ha=>⟨ps.length-(k+1),by omega,k+1,first,f,g',rfl,hP,xA,by omega,rfl,by have:=Ke;omega,by have:=GC;omega,tA,ha.keep ⟨rfl,rfl,rfl,rfl,rfl,rfl,kI rfl (by rw[wr (by omega) (by omega)];omega),trivial⟩⟩
  ·refine cM 21 (b':=false) (by rw[cD,nY];simp[h0]) rfl ?_
   refine Wp 1 rfl ?_
   refine an rfl rfl (ay K2 aI rfl rfl rfl rfl rfl (y_ ps[k] [35] _) ?_)
   rintro g2 _ wF rfl
   replace hP:=hP.call wF
   have ah:=wF.le;replace aq:=G.le.trans aq ah
   replace xA:=xA.trans ah
   cases gD:[35].isPrefixOf ps[k]with
   |true=>
    rw[show gm first f k (ps[k]::ps.drop (k+1))=gm first f (k+1) (ps.drop (k+1))from by rw[gm,if_pos (by unfold BL;rw[gD,Bool.or_true])]]at tA
    refine ba rfl ?_
    refine aJ rfl rfl ?_
    apply bE;apply bK;apply dc;apply au;apply ar;refine Wp 2 rfl ?_;apply aD
    refine fun a ha=>⟨ps.length-(k+1),by omega,k+1,first,f,g2,rfl,hP,xA,by omega,rfl,by have:=Ke;omega,by have:=GC;omega,tA,ha.keep ⟨rfl,rfl,rfl,rfl,rfl,rfl,kI rfl (by rw[wr (by omega) (by omega)];omega),trivial⟩⟩
   |false=>
    rw[show gm first f k (ps[k]::ps.drop (k+1))=(match uz first f ps[k]with
     |some f'=>gm false f' (k+1) (ps.drop (k+1))
     |none=> .inr (k+1))from by rw[gm,if_neg (by unfold BL;rw[gD,Bool.or_false];simpa using h0)]]at tA
    refine ba rfl ?_
    refine aS rfl rfl ?_
    apply aE;apply au;apply aB;refine cP 2 rfl ?_
    refine an rfl rfl (dv PM aI rfl rfl rfl rfl rfl (CT f ps[k] (Nat.le_trans (rX _ (List.getElem_mem bh)) (by omega)) (by omega) (by omega) (hF.mono aq) hP) ?_)
    rintro g3 r ah BM
    replace xA:=xA.trans ah
    cases EV:uz first f ps[k]with
    |some f'=>
     rw[EV]at BM tA
     obtain⟨rfl,hO⟩:=BM
     have sP:=Fs EV
     refine ba rfl ?_
     refine aS rfl rfl ?_
     apply aE;apply au;apply ar;refine Wp 1 rfl ?_;apply aD;apply bU;apply au;apply ar;refine Wp 2 rfl ?_;apply aD
     refine fun a ha=>⟨ps.length-(k+1),by omega,k+1,false,f',g3,rfl,hO,xA,by omega,rfl,by have:=sP.1;omega,by have:=sP.2;omega,tA,ha.keep ⟨rfl,rfl,rfl,rfl,rfl,rfl,kI rfl (by rw[wr (by omega) (by omega)];omega),trivial⟩⟩
    |none=>
     rw[EV]at BM tA
     obtain⟨rfl,cs,hs⟩:=BM
     refine ba rfl ?_
     refine aJ rfl rfl ?_
     apply c_
     refine an rfl rfl (aQ T.ok rfl (vs:=[]) (cells:=[.int .i64 0,.int .i64 0,.slice none 0 0,.slice none 0 0]) rfl rfl rfl rfl [(0,1),(1,1),(2,1),(3,1)] rfl (by kernel_rfl) ?_)
     refine Wp 2 rfl ?_
     refine bg rfl (aA T.ok 1 rfl hs rfl rfl rfl rfl rfl rfl rfl rfl rfl ?_);replace hs:=hs;rintro g1 hs ah
     refine ba rfl ?_
     refine aF ?_
     apply eF;apply iq;apply eF;apply eF;apply iq;apply eF
     refine Fq (v2:=.int .i64 ((k+1:Nat):Int)) T.ok 1 rfl hs rfl rfl rfl (kI rfl (by rw[wr (by omega) (by omega)];omega)) rfl (hs.ret ?_)
     rw[Tn _ tA.symm]
     rfl
 ·refine aS (b:=decide ((k:Int)<(ps.length:Int))) (by simp;omega) rfl ?_
  obtain rfl:k=ps.length:=by omega
  rw[List.drop_length]at tA
  have OL:=Tn _ tA.symm
  obtain⟨sa,sc,wa,wc,vY,hs,dL⟩:=hP.o
  obtain⟨g1,yQ,mK,W4,bT⟩:=hs.cL (α:=Step) (xs:=f.steps) (i:=1) rfl dL
  obtain⟨g2,bR,aU,VI,bN⟩:=mK.cL (α:=cj) (xs:=f.windows) (i:=1) rfl (cO.win _ _)
  replace hs:St g g2 (.obj b (.cells [.int .i64 f.ck,.int .i64 f.cu,.slice sa f.steps.length sc,.slice wa f.windows.length wc].toArray 30 (0,0)):: .obj b2 (.cells [.int .i64 0,.int .i64 0,.slice none 0 0,.slice none 0 0].toArray 30 (0,0))::[]):=aU
  clear mK aU
  replace bT:=bT.mono VI
  rw[←yQ,←bR]
  have fk:fA g2 (.agg #[.int .i64 f.ck,.int .i64 f.cu,.slice sa f.steps.length sc,.slice wa f.windows.length wc]) f:=⟨sa,f.steps.length,sc,wa,f.windows.length,wc,rfl,bT,bN⟩
  apply bE;apply bK;apply bK;apply dc;apply au;apply aB;refine dx 1 [.o 0] hs rfl ?_
  refine an rfl rfl (ay K3 aI rfl rfl rfl rfl rfl (Be _ f _ fk) ?_);rintro g1 _ aN rfl;replace hs:=hs.call aN;have ah:=aN.le;replace fk:=fk.mono ah
  refine ba rfl ?_
  cases hv:valid f with
  |true=>
   refine aS rfl rfl ?_
   apply aE;apply au;refine dx 1 [.o 0] hs rfl ?_
   refine bg rfl (aA T.ok 1 rfl hs rfl rfl rfl rfl rfl rfl rfl rfl rfl ?_);replace hs:=hs;rintro g1 hs ah;replace fk:=fk.mono ah
   refine ba rfl ?_
   refine aF ?_
   skip
   refine Fq T.ok 1 rfl hs rfl rfl rfl rfl rfl (hs.ret ?_)
   rw[OL]
   show ke _ (if valid f=true then _ else _) _
   rw[if_pos hv]
   exact⟨_,rfl,fk⟩
  |false=>
   refine aJ rfl rfl ?_
   apply c_
   refine an rfl rfl (aQ T.ok rfl (vs:=[]) (cells:=[.int .i64 0,.int .i64 0,.slice none 0 0,.slice none 0 0]) rfl rfl rfl rfl [(0,1),(1,1),(2,1),(3,1)] rfl (by kernel_rfl) ?_)
   refine Wp 2 rfl ?_
   refine bg rfl (aA T.ok 1 rfl hs rfl rfl rfl rfl rfl rfl rfl rfl rfl ?_);replace hs:=hs;rintro g1 hs ah
   refine ba rfl ?_
   refine aF ?_
   apply eF
   refine Fq T.ok 1 rfl hs rfl rfl rfl rfl rfl (hs.ret ?_)
   rw[OL]
   show ke _ (if valid f=true then _ else _) _
   rw[if_neg (by rw[hv];simp)]
   rfl
end Go.Proofs.YtebobfdheanknaaGreatDoor
namespace Go.Proofs.YtebobfdheanknaaGreatDoor
open Go Go.K
set_option maxRecDepth 10000
attribute [local irreducible] W WL cT bu bX bA bB bD cW cG
set_option maxHeartbeats 2000000
def Hz(E:TypeId):Prop:=liesAt Tryz.prog Tryz.prog.depth E (2/Tryz.prog.cellsOf E) 0 151 1=true
theorem Dr:Hz 153:=by unfold Hz;kernel_rfl
theorem zc{b:Nat}{p v:Value}(hp:p= .pointer none∨p= .pointer (some ⟨b,0,none⟩)){E:TypeId}(hE:Hz E){g0 g:G}{L:List cV}(hs:St g0 g (.obj b (.cells [p,v].toArray E (0,0))::L)):
  CallsIn Wd 0 Tryz.prog 258 #[.pointer (some ⟨b,0,none⟩)] g.w
   (eu g fun g' r=>r= .tuple #[]∧St g0 g' (.obj b (.cells [.pointer (some ⟨b,0,none⟩),v].toArray E (0,0))::L)):=by
 have aq:=G.le.refl g
 have hh:g.w.heap[b]? =some (.cells [p,v].toArray E (0,0)):=(hs.own 0 _ rfl).2.1
 have mU:g.w.shape? b=some (E,2):=by simp[World.shape?,hh]
 obtain⟨j,hj,G3⟩:=Option.map_eq_some_iff.1 Tryz.Builder_Extra_169.sizeBuilder
 refine enter Tryz.func258 rfl Tryz.ntmps258 rfl ?_
 refine dx 4 [.o 0] hs rfl ?_
 rcases hp with rfl|rfl
 ·refine an rfl rfl (gS T.ok (neg:=false) rfl rfl rfl rfl rfl ?_)
  apply aD
  apply au
  refine aJ rfl rfl ?_
  apply ar;refine Wp 2 rfl ?_
  refine an rfl rfl (yL rfl rfl (Lib.run_to_unsafe g.w ⟨b,0,none⟩ Tryz.underlying148 Tryz.underlying296 hj (by rw[G3];decide) mU (Nat.zero_lt_succ 1)) ?_)
  refine an rfl rfl (Ak Tryz.func290 (by kernel_rfl) (by kernel_rfl) (by kernel_rfl) (e:=Extern.AbiNoEscape.same) (by kernel_rfl) aI rfl rfl rfl rfl ?_)
  refine an rfl rfl (yL rfl rfl (Lib.run_from_unsafe g.w ⟨b,0,none⟩ Tryz.underlying296 Tryz.underlying148 hj mU hE) ?_)
  refine Wp 2 rfl ?_
  refine bg rfl (aA T.ok 0 rfl hs rfl rfl rfl rfl rfl rfl rfl rfl rfl ?_);replace hs:=hs;rintro g1 hs ah;replace aq:=G.le.trans aq ah
  apply aD
  exact k5 rfl (eu.intro aq ⟨rfl,hs⟩)
 ·refine an rfl rfl (gS T.ok (neg:=false) rfl rfl rfl rfl rfl ?_)
  apply aD
  apply au
  refine aS rfl rfl ?_
  refine dx 5 [.o 0] hs rfl ?_
  refine an rfl rfl (tU rfl rfl rfl Tryz.underlying148 hj ?_)
  apply cf
  refine aS rfl rfl ?_
  apply aE
  exact k5 rfl (eu.intro aq ⟨rfl,hs⟩)
theorem Dq{b:Nat}{p v:Value}{xs:List UInt8}{Lr:List cV}(hp:p= .pointer none∨p= .pointer (some ⟨b,0,none⟩))(hb:lK 5 v xs Lr)(ys:List UInt8)(hl:xs.length+ys.length≤140737488355328)
  {E:TypeId} (hE:Hz E) {g0 g:G} {L:List cV} (hs:St g0 g (.obj b (.cells [p,v].toArray E (0,0))::(Lr++L))):
  CallsIn Wd 0 Tryz.prog 168 #[.pointer (some ⟨b,0,none⟩),.string (bs ys)] g.w
   (eu g fun g' _=> ∃v' uL,lK 5 v' (xs++ys) uL∧St g0 g' (.obj b (.cells [.pointer (some ⟨b,0,none⟩),v'].toArray E (0,0))::(uL++L))):=by
 have aq:=G.le.refl g
 refine enter Tryz.func168 rfl Tryz.ntmps168 rfl ?_
 refine aX rfl ?_;refine cP 1 rfl ?_
 refine an rfl rfl (dv Mz aI rfl rfl rfl rfl rfl (zc hp hE hs) ?_)
 clear hs
 rintro g1 _ ah ⟨rfl,hs⟩;replace aq:=G.le.trans aq ah
 apply cf;refine dx 6 [.o 0] hs rfl ?_
 refine an rfl rfl (yK T.ok rfl hb hs.Vc rfl rfl rfl rfl rfl rfl rfl rfl rfl rfl hl ?_)
 rintro v' uL g2 Tp aU ah;replace aq:=G.le.trans aq ah
 obtain⟨ao,no,co,rfl⟩: ∃ao no co,v'= .slice ao no co:=by
  rcases Tp with⟨rfl,_⟩|⟨_,_,_,rfl,_⟩<;>exact⟨_,_,_,rfl⟩
 replace hs:=aU.Rr
 refine Wp 2 rfl ?_
 refine bg rfl (aA T.ok 0 rfl hs rfl rfl rfl rfl rfl rfl rfl rfl rfl ?_);replace hs:=hs;rintro g1 hs ah;replace aq:=G.le.trans aq ah
 apply cf;refine aX rfl ?_
 exact aF (rT rfl rfl rfl (eu.intro aq ⟨_,uL,Tp,hs⟩))
theorem zE{b:Nat}{p v:Value}{xs:List UInt8}{Lr:List cV}(hx:xs≠[])(hb:lK 5 v xs Lr){E:TypeId}{g0 g:G}{L:List cV}(hs:St g0 g (.obj b (.cells [p,v].toArray E (0,0))::(Lr++L))):
  CallsIn Wd 0 Tryz.prog 91 #[.pointer (some ⟨b,0,none⟩)] g.w (eu g fun g' r=>r= .string (bs xs)∧St g0 g' L):=by
 rcases hb with⟨_,h,_⟩|⟨br,cap,cur,rfl,rfl,nd,oJ,mG,fw⟩
 ·exact absurd h hx
 have C2:xs.length≠0:=by simpa using hx
 have aq:=G.le.refl g
 refine enter Tryz.func91 rfl Tryz.ntmps91 rfl ?_
 refine aX rfl ?_;apply aB
 apply bO hs (fj (eJ [])) 10 [(4,7),(9,12)] (by kernel_rfl) rfl
 ·refine Dm [[],[0],[1],[2]] [.o 0] hs (by kernel_rfl) rfl ?_
  refine aw (ak (js:=[(3,6)]) (by kernel_rfl) fun gd hf=> ?_) ?_
  ·exact ai rfl (aj (az rfl (u4 rfl rfl (by omega) ⟨gd,rfl,aZ.refl gd,rfl⟩)))
  exact Dz [[],[5],[6],[7],[8]] [.o 0] hs (by kernel_rfl) rfl
 clear hs;intro g1 hs ah;replace aq:=G.le.trans aq ah
 skip
 refine an rfl rfl (u5 1 hs rfl rfl rfl rfl hx rfl rfl nd oJ mG fw ?_)
 clear hs;intro g2 hs ah;replace aq:=G.le.trans aq ah
 refine ba rfl ?_
 exact aF (aV rfl rfl (eu.intro aq ⟨rfl,hs.drop 0⟩))
end Go.Proofs.YtebobfdheanknaaGreatDoor
namespace Go.Proofs.YtebobfdheanknaaGreatDoor
open Go Go.K
set_option maxRecDepth 10000
attribute [local irreducible] W WL cT bu bX bA bB bD cW cG
set_option maxHeartbeats 2000000
def GZ(b:Nat)(z:Int):cV:=.obj b (.cells [.int .u64 z].toArray 245 (0,0))
theorem yz(b:Nat)(k0:Nat)(z0:Int)(g:G)(N3:0≤z0∧z0<128^(k0+1)):
  N4 Tryz.prog 289 #[.pointer (some ⟨b,0,none⟩)] (fun x:Int×Bool=>[.int .u8 x.1,.bool x.2]) (kS (k0+1) z0) (GZ b z0) g:=by
 intro g1 hle yv J Jx N5 hy zC
 have aq:=G.le.refl g1
 refine enter Tryz.func289 rfl Tryz.ntmps289 rfl ?_
 apply aG
 refine bS (fun m a' w=> ∃(k:Nat) (z:Int) (pre:List (Int×Bool)) (g2:G),w=g2.w∧G.le g1 g2∧k≤k0∧m=k∧(0≤z∧z<128^(k+1))∧J pre (GZ b z) g2∧kS (k0+1) z0=pre++kS (k+1) z∧
   Fr 18 [] [(0,yv),(1,.pointer (some ⟨b,0,none⟩))] a') k0
  (fun a' ha=>⟨k0,z0,[],g1,rfl,aq,Nat.le_refl _,rfl,N3,zC,rfl,ha.keep (by(repeat (first|exact trivial|refine⟨rfl,?_⟩)))⟩) ?_
 clear aq
 rintro k a' _ ⟨_,z,pre,g2,rfl,aq,hk,rfl,hz,pj,hx,eI⟩
 obtain⟨g0,L,i,hs,hi,td⟩:=N5 _ _ _ pj
 revert a'
 have tA:kS (k+1) z=(IntKind.u8.wrap (bu .u64 z 127),decide (z<128))::if z<128 then []else kS k (cG .u64 z 7):=rfl
 rw[tA]at hx
 apply cQ;apply aG;apply c_
 refine an rfl rfl (eS T.ok i rfl hs hi rfl rfl ?_)
 refine ba rfl ?_;apply aB;refine cP 1 rfl ?_
 refine an rfl rfl (eS T.ok i rfl hs hi rfl rfl ?_)
 refine Wp 3 rfl ?_
 refine an rfl rfl (eT rfl rfl rfl rfl rfl rfl ((hy pre _ _ _ _ hx aq pj).mono ?_))
 rintro _ _ ⟨g3,bb,rfl,rfl,ah,ht,hf⟩
 refine⟨_,rfl,?_⟩
 replace aq:=aq.trans ah
 have gD:pre++[(IntKind.u8.wrap (bu .u64 z 127),decide (z<128))]<+:kS (k0+1) z0:=⟨if z<128 then []else kS k (cG .u64 z 7),by rw[hx];simp⟩
 cases bb with
 |false=>
  refine ba rfl ?_
  refine aJ rfl rfl ?_
  skip
  refine aF ?_;apply eF;apply iq;apply eF;apply iq;refine rR rfl ?_
  exact⟨g3,_,rfl,rfl,aq,.inr ⟨_,_,gD,hf rfl⟩⟩
 |true=>
  have FI:=ht rfl
  by_cases bh:z<128
  ·rw[if_pos bh]at hx
   refine ba rfl ?_
   refine aJ (b:=decide (z<128)) (decide_eq_true bh) rfl ?_
   skip
   refine aF ?_;apply eF;apply iq;apply eF;apply iq;refine rR rfl ?_
   exact⟨g3,_,rfl,rfl,aq,.inl ⟨_,by rw[hx];exact FI⟩⟩
  ·rw[if_neg bh]at hx
   obtain⟨k,rfl⟩: ∃k',k=k'+1:=⟨k-1,by
    rcases k with _|k
    ·simp at hz;omega
    ·rfl⟩
   obtain⟨g4,L',i',iS,hi',JJ⟩:=N5 _ _ _ FI
   refine ba rfl ?_
   refine aS (b:=decide (z<128)) (decide_eq_false bh) rfl ?_
   apply aE;apply au;apply ar
   refine an rfl rfl (eS T.ok i' rfl iS hi' rfl rfl ?_)
   refine Wp 1 rfl ?_
   refine bg rfl (aA T.ok i' rfl iS hi' rfl rfl rfl rfl rfl rfl rfl rfl ?_)
   rintro g5 ED ah
   have UX:=JJ (GZ b (cG .u64 z 7)) g5 ED ah
   apply aD;apply bU
   exact fun a ha=>⟨k,by omega,k,cG .u64 z 7,_,g5,rfl,aq.trans ah,by omega,rfl,by
    rw[Q9 hz.1]
    have h:=hz.2
    rw[Int.pow_succ]at h
    exact⟨by omega,by omega⟩,UX,by rw[hx];simp,ha.keep (by(repeat (first|exact trivial|refine⟨rfl,?_⟩)))⟩
theorem EJ(z:Int)(g:G):CallsIn Wd 0 Tryz.prog 257 #[.int .u64 z] g.w
  (cR g fun g' r=> ∃b,r= .func (.func 289) #[] #[.pointer (some ⟨b,0,none⟩)]∧(GZ b z).holds g.w.heap.size g'):=by
 have hs:=St.start g
 have aq:=G.le.refl g
 refine enter Tryz.func257 rfl Tryz.ntmps257 rfl ?_
 apply c_
 refine an rfl rfl (aR rfl hs rfl rfl ?_);clear hs;rintro b1 g1 hs ah
 refine ba rfl ?_;refine aX rfl ?_
 exact aF (aV rfl rfl (hs.ret ⟨_,rfl,hs.own 0 _ rfl⟩))
theorem xP(n:Int)(g:G)(hn:o_ n):CallsIn Wd 0 Tryz.prog 167 #[.int .i64 n] g.w (cR g fun _ r=>r= .tuple #[.string (bs (fO n)),.int .i64 0]):=by
 have hs:=St.start g
 have aq:=G.le.refl g
 have C1:=hn.1;have C3:=hn.2
 refine qH Tryz.func167 rfl Tryz.ntmps167 rfl ?_
 refine aX rfl ?_;apply aB;refine cP 3 rfl ?_
 refine cM 9 (b':=false) (decide_eq_false (by omega)) rfl ?_
 refine ba rfl ?_
 refine aS (b:=decide (4611686018427387903<n)) (decide_eq_false (by omega)) rfl ?_
 apply aE;apply au;apply c_
 refine an rfl rfl (aK T.ok rfl hs rfl rfl ?_);clear hs;rintro bo g1 hs ah
 replace hs:=hs.gI 5 1 none
 apply cf;apply aB;refine cP 7 rfl ?_
 have UY:=EK n
 have KG:=vE 10 (zz n)
 unfold fO
 refine kC (.int .u64 (zz n)) (t:=19) rfl rfl ?_
 generalize zz n=z at*
 refine an rfl rfl (ay My aI rfl rfl rfl rfl rfl (EJ z _) ?_);rintro g4 _ kL ⟨bz,rfl,hh⟩;replace hs:=hs.gJ kL hh;have ah:=kL.le
 clear hh
 apply cf;apply aG
 refine EL (N:=33) hs rfl MJ (yz bz 9 z g4 UY) rfl (fun _=>rfl)
  (fun pre L _=> ∃v,L=[.row 5 1 v pre.length (pre.map fun x=>Value.int .u8 (Cr x)),.obj bo (.cells #[v] 149 (0,0))]) (fun _ _ _ _=>False)
  (fun _ _ _ _ _ h=>h) (fun _ _ _ _ _ _ h=>h) ⟨_,rfl⟩ (fun x=>[(5,.int .u8 x.1),(6,.bool x.2),(4,.pointer (some ⟨bo,0,none⟩))]) ?_ ?_ ?_ ?_
 ·intro x ro w
  refine aX rfl ?_;apply ar;refine Wp 1 rfl ?_;apply aD
  exact fun a ha=>⟨rfl,ha.keep (by(repeat (first|exact trivial|refine⟨rfl,?_⟩)))⟩
 ·rintro lp D ro pre x rest e gr Lr jm hle hs ⟨v,rfl⟩
  have cN:=G.le.refl gr
  have AX:pre.length<10:=by have:=congrArg List.length jm;simp at this;omega
  obtain⟨xb,xl⟩:=x
  apply aG;apply aB;refine aX rfl ?_
  refine lL (fun a' w'=>w'=gr.w∧Fr 33 [] [(5,.int .u8 (Cr (xb,xl))),(4,.pointer (some ⟨bo,0,none⟩))] a') ?_ ?_
  ·cases xl with
   |true=>
    skip
    refine aS rfl rfl ?_
    apply aE
    exact fun a ha=>⟨rfl,ha.keep (by(repeat (first|exact trivial|refine⟨rfl,?_⟩)))⟩
   |false=>
    skip
    refine aJ rfl rfl ?_
    apply ar;refine Wp 3 rfl ?_;apply aD
    exact fun a ha=>⟨rfl,ha.keep (by(repeat (first|exact trivial|refine⟨rfl,?_⟩)))⟩
  ·rintro a' _ ⟨rfl,eI⟩
   revert a'
   apply cQ;apply ar;refine Wm 2 [.o 4] hs rfl ?_
   refine an rfl rfl (bj T.ok rfl hs (vs:=[(0,.int .u8 (Cr (xb,xl)))]) (cells:=[.int .u8 (Cr (xb,xl))]) rfl rfl rfl rfl rfl rfl (by decide) (by decide) (by kernel_rfl) rfl ?_);rintro b2 g2 hs ah;replace cN:=G.le.trans cN ah
   skip
   refine an rfl rfl (b_ T.ok 4 rfl hs rfl rfl rfl rfl rfl rfl rfl (by decide) rfl (Src.gK (hs.own 0 _ rfl).1).2 (by simp[Value.oneCell']) (by show(pre.length+1)*1≤_;omega) (by unfold maxLen;omega) ?_);rintro a9 c9 g3 hs ah;replace cN:=G.le.trans cN ah
   skip
   refine bg rfl (aA T.ok 5 rfl hs rfl rfl rfl rfl rfl rfl rfl rfl rfl ?_);replace hs:=hs;rintro g1 hs ah;replace cN:=G.le.trans cN ah
   apply aD;apply bU
   exact fun a ha=>⟨_,_,rfl,hs.drop 0,cN,_,rfl,.slice a9 (pre.length+1) c9,by simp[lF]⟩
 ·rintro lp D o e Lr ge hle hs ⟨v,rfl⟩
  obtain⟨av,cv,rfl⟩:=(hs.own 3 _ rfl).1.form
  have gn:=(Src.gK (hs.own 3 _ rfl).1).2
  apply bU;apply au;refine dx 1 [.o 4] hs rfl ?_
  refine an rfl rfl (mh T.ok (ns:=(kS (9+1) z).map Cr) rfl rfl rfl rfl rfl rfl rfl rfl (by rw[List.map_map];exact gn) ?_)
  refine ba rfl ?_
  refine aF ?_;skip
  refine N6 1 rfl hs rfl rfl rfl (fun g' iS fL=> ?_)
  exact iS.ret rfl
 ·rintro c lp D o pre e Lr ge _ _ _ h
  exact h.elim
end Go.Proofs.YtebobfdheanknaaGreatDoor
namespace Go.Proofs.YtebobfdheanknaaGreatDoor
open Go Go.K
set_option maxRecDepth 10000
attribute [local irreducible] W WL cT bu bX bA bB bD cW cG
set_option maxHeartbeats 2000000
theorem Du(s:List UInt8)(g:G)(hl:s.length≤1099511627776):CallsIn Wd 0 Tryz.prog 191 #[.string (bs s)] g.w (cR g fun _ r=>r= .tuple #[.string (bs (lW s).1),.int .i64 (lW s).2]):=by
 have hs:=St.start g
 have aq:=G.le.refl g
 refine enter Tryz.func191 rfl Tryz.ntmps191 rfl ?_
 unfold lW
 refine aX rfl ?_;apply aB;refine aX rfl ?_
 by_cases bh:65536<s.length
 ·rw[if_pos bh]
  refine aJ (b:=decide ((65536:Int)<((bs s).size:Int))) (decide_eq_true (by rw[ec];omega)) rfl ?_
  refine aX rfl ?_
  exact aF (rT rfl rfl rfl (hs.ret rfl))
 ·rw[if_neg bh]
  refine aS (b:=decide ((65536:Int)<((bs s).size:Int))) (decide_eq_false (by rw[ec];omega)) rfl ?_
  have AX:=kR (s.length:Int)
  apply aE;apply au;refine cP 2 rfl ?_
  refine kC (.int .i64 (s.length:Int)) (t:=11) rfl (by rw[ec]) ?_
  refine an rfl rfl (ay HJ aI rfl rfl rfl rfl rfl (xP (s.length:Int) _ ⟨by omega,by omega⟩) ?_);rintro g1 _ aN rfl;replace hs:=hs.call aN;have ah:=aN.le
  refine ba rfl ?_;refine cP 2 rfl ?_
  refine an rfl rfl (cA (p:=fO s.length) (q:=s) rfl rfl rfl (by omega) ?_)
  refine ba rfl ?_
  exact aF (rT rfl rfl rfl (hs.ret rfl))
end Go.Proofs.YtebobfdheanknaaGreatDoor
namespace Go.Proofs.YtebobfdheanknaaGreatDoor
open Go Go.K
set_option maxRecDepth 10000
attribute [local irreducible] W WL cT bu bX bA bB bD cW cG
theorem tF(v fv:Value)(l:List Int)(p:Int→Bool)(g:G)(hl:Rs g v l)
  (hp: ∀(g':G) (x:Int),x∈l→g.le g'→ir Tryz.prog fv [.int .i64 x] g'.w (cR g' fun _ r=>r= .bool (p x))):
  CallsIn Wd 0 Tryz.prog 249 #[v,fv] g.w (cR g fun _ r=>r= .int .i64 (lu p l)):=by
 obtain⟨a,c,rfl⟩:=hl.isSlice
 have hlen:=hl.dU
 unfold maxLen at hlen
 have hs:=St.start g
 refine enter Tryz.func249 rfl Tryz.ntmps249 rfl ?_
 refine aX rfl ?_;apply aB;refine aX rfl ?_;apply aG
 refine bS (fun m a' w=> ∃(k:Nat) (g':G),w=g'.w∧St g g' []∧G.le g g'∧k≤l.length∧m=l.length-k∧(∀j (h:j<l.length),j<k→p l[j]=false)∧
  Fr 19 [] [(0,.slice a l.length c),(1,fv),(7,.int .i64 l.length),(8,.int .i64 k)] a') l.length (fun a' ha=>⟨0,g,rfl,hs,G.le.refl g,Nat.zero_le _,rfl,by simp,ha.keep (by(repeat (first|exact trivial|refine⟨rfl,?_⟩)))⟩) ?_
 clear hs
 rintro m a' _ ⟨k,g',rfl,hs,aq,hk,rfl,dy,eI⟩
 revert a'
 apply cQ;refine aX rfl ?_;apply aB
 by_cases bh:k<l.length
 ·refine aJ (b:=decide ((k:Int)<(l.length:Int))) (by simp;omega) rfl ?_
  apply aE;apply au;apply aB;apply aG;refine aX rfl ?_;refine cP 3 rfl ?_
  refine an rfl rfl (aW T.ok rfl (hl.mono aq) (y:=l[k]) (by simp[dA,bh]) rfl rfl rfl rfl rfl rfl ?_)
  rintro b q ys aL rfl
  refine Wm 1 [.e aL 0] (St.start _) rfl ?_
  skip
  refine an rfl rfl (eA rfl rfl rfl rfl rfl rfl (hp _ _ (List.getElem_mem bh) aq) ?_);rintro g1 _ aN rfl;replace hs:=hs.call aN;have ah:=aN.le;replace aq:=G.le.trans aq ah
  apply cf
  cases wE:p l[k]with
  |true=>
   refine aJ rfl rfl ?_
   refine aX rfl ?_
   exact aF (aV rfl rfl (hs.ret (by rw[oj bh wE dy])))
  |false=>
   refine aS rfl rfl ?_
   apply aE;apply bU;apply au;apply ar;refine Wp 2 rfl ?_;apply aD
   refine fun a ha=>⟨l.length-(k+1),by omega,k+1,_,rfl,hs,aq,by omega,rfl,?_,ha.keep ⟨rfl,rfl,rfl,kI rfl (by rw[wr (by omega) (by omega)];omega),trivial⟩⟩
   intro j hj zO
   by_cases e:j=k
   ·subst e;exact wE
   ·exact dy j hj (by omega)
 ·refine aS (b:=decide ((k:Int)<(l.length:Int))) (by simp;omega) rfl ?_
  apply bE;apply bK;apply bK;apply dc;apply au;refine aX rfl ?_
  obtain rfl:k=l.length:=by omega
  exact aF (aV rfl rfl (hs.ret (by rw[so fun j h=>dy j h h])))
theorem uX(v fv:Value)(l:List Int)(p:Int→Bool)(g:G)(hl:Rs g v l)
  (hp: ∀(g':G) (x:Int),x∈l→g.le g'→ir Tryz.prog fv [.int .i64 x] g'.w (cR g' fun _ r=>r= .bool (p x))):
  CallsIn Wd 0 Tryz.prog 247 #[v,fv] g.w (cR g fun _ r=>r= .bool (l.any p)):=by
 have hs:=St.start g
 refine enter Tryz.func247 rfl Tryz.ntmps247 rfl ?_
 refine aX rfl ?_;refine cP 2 rfl ?_
 refine an rfl rfl (ay HR aI rfl rfl rfl rfl rfl (tF _ _ l p g hl hp) ?_);rintro g1 _ aN rfl;replace hs:=hs.call aN;have ah:=aN.le;skip
 refine ba rfl ?_
 exact aF (aV rfl rfl (hs.ret (by rw[←nf])))
end Go.Proofs.YtebobfdheanknaaGreatDoor
namespace Go.Proofs.YtebobfdheanknaaGreatDoor
def nN(f:bV)(n:Int):Bool:=decide (n<0)||decide ((f.steps.length:Int)≤n)
def given(f:bV)(l:List Int):Bool:=valid f&& !l.any (nN f)
def eL:Int→List Int→List Int
 |back,[]=>if 0≤back then [back]else []
 |back,n::r=>(if 0≤back∧back<n then [back]else [])++n::eL (if back≤n then -1 else back) r
def jy(s:Step):List Int:=eL s.back s.next
def xX(s:Step):Bool:=(s.next.length:Int)==0
def dG(f:bV)(n:Int):Step:=f.steps.getD n.toNat ⟨0,[],0,0,[],0,0⟩
theorem oH{f:bV}(h:valid f=true){n:Int}(h0:0≤n)(h1:n<f.steps.length):cg (dG f n) f.steps.length=true:=by
 unfold valid at h
 simp only[Bool.and_eq_true,List.all_eq_true]at h
 refine h.1.2 _ ?_
 unfold dG
 rw[List.getD_eq_getElem?_getD,List.getElem?_eq_getElem (by omega)]
 exact List.getElem_mem _
theorem sU{s:Step}{n:Int}(h:cg s n=true):s.next.length≤4:=by
 unfold cg at h
 simp only[Bool.and_eq_true,decide_eq_true_eq]at h
 omega
end Go.Proofs.YtebobfdheanknaaGreatDoor
namespace Go.Proofs.YtebobfdheanknaaGreatDoor
open Go Go.K
set_option maxRecDepth 10000
attribute [local irreducible] W WL cT bu bX bA bB bD cW cG
set_option maxHeartbeats 1000000
theorem GM(v:Value)(s:Step)(g:G)(QJ:ja g v s):
  CallsIn Wd 0 Tryz.prog 153 #[v] g.w (cR g fun _ r=>r= .bool (xX s)):=by
 obtain⟨cs,rfl,a1,n1,c1,a2,n2,c2,rfl,aH,aT⟩:=QJ
 obtain⟨_,_,e⟩:=aT.isSlice;obtain⟨rfl,rfl,rfl⟩:=Value.slice.inj e;clear e
 have hs:=St.start g
 refine enter Tryz.func153 rfl Tryz.ntmps153 rfl ?_
 apply c_
 refine an rfl rfl (aR rfl hs rfl rfl ?_);clear hs;rintro b1 g1 hs ah
 refine ba rfl ?_;refine nK [.o 0] hs rfl ?_
 exact aF (aV rfl rfl (hs.ret rfl))
def qU(g:G)(cs:List Value)(f:bV):Prop:=
 ∃a1 n1 c1 a2 n2 c2,cs=[.int .i64 f.ck,.int .i64 f.cu,.slice a1 n1 c1,.slice a2 n2 c2]∧Rs g (.slice a1 n1 c1) f.steps∧Rs g (.slice a2 n2 c2) f.windows
theorem qU.mono{g g':G}{cs:List Value}{f:bV}(h:qU g cs f)(hle:g.le g'):qU g' cs f:=by
 obtain⟨a1,n1,c1,a2,n2,c2,e,h1,h2⟩:=h
 exact⟨a1,n1,c1,a2,n2,c2,e,h1.mono hle,h2.mono hle⟩
theorem EA(n:Int)(f:bV)(b:Nat)(cs:List Value)(g:G)(aC:EP g b 0 cs)(hc:qU g cs f):
  CallsIn Wd 0 Tryz.prog 248 #[.int .i64 n,.pointer (some ⟨b,0,none⟩)] g.w (cR g fun _ r=>r= .bool (nN f n)):=by
 obtain⟨a1,n1,c1,a2,n2,c2,rfl,aH,aT⟩:=hc
 obtain⟨_,_,e⟩:=aH.isSlice;obtain⟨rfl,rfl,rfl⟩:=Value.slice.inj e;clear e
 have hs:=St.start g
 refine enter Tryz.func248 rfl Tryz.ntmps248 rfl ?_
 refine aX rfl ?_;refine cP 3 rfl ?_
 refine cw (want:=false) (x:=decide ((f.steps.length:Int)≤n)) 5 aI rfl rfl rfl rfl (.inr ⟨rfl,rfl,rfl⟩) rfl rfl rfl rfl (fun hb Q' eE=> ?_) (fun g' hf=> ?_)
 ·refine Wm 5 [.z aC] (St.start _) rfl ?_;apply aD
  exact fun a ha=>eE _ a (aZ.refl _) (ha.keep (by(repeat (first|exact trivial|refine⟨rfl,?_⟩))))
 replace hs:=hs.call hf;have ah:=hf.le
 refine ba rfl ?_
 exact aF (aV rfl rfl (hs.ret rfl))
theorem GN(v lv:Value)(f:bV)(l:List Int)(g:G)(fk:fA g v f)(bT:Rs g lv l):
  CallsIn Wd 0 Tryz.prog 150 #[v,lv] g.w (cR g fun _ r=>r= .bool (given f l)):=by
 obtain⟨a1,n1,c1,a2,n2,c2,rfl,aH,aT⟩:=id fk
 have hs:=St.start g
 refine enter Tryz.func150 rfl Tryz.ntmps150 rfl ?_
 apply c_
 refine an rfl rfl (aR rfl hs rfl rfl ?_);clear hs;rintro b1 g1 hs ah;obtain⟨aH,aT,bT,fk⟩:=dE ah aH aT bT fk
 obtain⟨g2,bR,aU,ah,aL⟩:=hs.a_ (i:=0) rfl;replace hs:=aU;clear aU;rw[←bR];obtain⟨aH,aT,bT,fk⟩:=dE ah aH aT bT fk
 have aC:=aL
 refine ba rfl ?_;refine dx 1 [.z aC] (St.start _) rfl ?_
 refine an rfl rfl (ay K3 aI rfl rfl rfl rfl rfl (Be _ f _ fk) ?_);rintro g1 _ aN rfl;replace hs:=hs.call aN;have ah:=aN.le;obtain⟨aC,aH,aT,bT⟩:=dE ah aC aH aT bT
 refine Wp 1 rfl ?_
 refine cw (want:=true) (x:=!l.any (nN f)) 4 aI rfl rfl rfl rfl (.inl ⟨rfl,rfl,rfl⟩) rfl rfl rfl rfl (fun hb Q' eE=> ?_) (fun g' hf=> ?_)
 ·refine Wp 2 rfl ?_
  refine an rfl rfl (ay Mq aI rfl rfl rfl rfl rfl (uX _ _ l (nN f) _ bT (fun g' x _ hle=>de Mr rfl (EA x f _ _ g' (aC.mono hle) ⟨_,_,_,_,_,_,rfl,aH.mono hle,aT.mono hle⟩))) ?_);rintro g1 _ aN rfl;replace hs:=hs.call aN;have ah:=aN.le
  refine Wp 1 rfl ?_;apply aD
  exact fun a ha=>eE _ a aN (ha.keep (by(repeat (first|exact trivial|refine⟨rfl,?_⟩))))
 replace hs:=hs.call hf;have ah:=hf.le
 refine ba rfl ?_
 exact aF (aV rfl rfl (hs.ret rfl))
end Go.Proofs.YtebobfdheanknaaGreatDoor
namespace Go.Proofs.YtebobfdheanknaaGreatDoor
open Go Go.K
set_option maxRecDepth 10000
attribute [local irreducible] W WL cT bu bX bA bB bD cW cG
set_option maxHeartbeats 1000000
theorem EC(s:Step)(b:Nat)(cs:List Value)(g:G)(ep:EP g b 0 cs)(hc:pB g cs s):
  sM Tryz.prog 250 #[.pointer (some ⟨b,0,none⟩)] (fun n:Int=>[.int .i64 n]) (jy s) g:=by
 obtain⟨a1,n1,c1,a2,n2,c2,rfl,aH,aT⟩:=hc
 obtain⟨_,_,e⟩:=aT.isSlice;obtain⟨rfl,rfl,rfl⟩:=Value.slice.inj e;clear e
 intro g1 hle yv J Jx hJ Qf hy zC
 have hlen:=aT.dU
 unfold maxLen at hlen
 have aq:=G.le.refl g1
 have OS:=ep.mono hle;have HY:=aT.mono hle
 have aC:=OS
 refine enter Tryz.func250 rfl Tryz.ntmps250 rfl ?_
 refine nK [.z aC] (St.start _) rfl ?_;apply aB;refine nK [.z aC] (St.start _) rfl ?_;apply aG
 refine bS (fun m a' w=> ∃(k:Nat) (pre:List Int) (back:Int) (g':G),w=g'.w∧G.le g1 g'∧k≤s.next.length∧m=s.next.length-k∧J pre g'∧jy s=pre++eL back (s.next.drop k)∧
  Fr 41 [] [(0,yv),(1,.pointer (some ⟨b,0,none⟩)),(3,.int .i64 back),(9,.slice a2 s.next.length c2),(10,.int .i64 s.next.length),(11,.int .i64 k)] a') s.next.length
  (fun a' ha=>⟨0,[],s.back,g1,rfl,aq,Nat.zero_le _,rfl,zC,rfl,ha.keep (by(repeat (first|exact trivial|refine⟨rfl,?_⟩)))⟩) ?_
 clear aC aq
 rintro m a' _ ⟨k,pre,back,g',rfl,aq,hk,rfl,pj,hx,eI⟩
 have aC:=OS.mono aq;have aT:=HY.mono aq
 revert a'
 apply cQ;refine aX rfl ?_;apply aB
 by_cases bh:k<s.next.length
 ·refine aJ (b:=decide ((k:Int)<(s.next.length:Int))) (by simp;omega) rfl ?_
  apply aE;apply au;apply aB;apply aG;apply c_
  refine an rfl rfl (aW T.ok rfl aT (y:=s.next[k]) (by simp[dA,bh]) rfl rfl rfl rfl rfl rfl ?_)
  rintro b p ys aL rfl
  refine Wm 1 [.e aL 0] (St.start _) rfl ?_
  refine ba rfl ?_;apply aB;refine cP 3 rfl ?_
  rw[List.drop_eq_getElem_cons bh,eL]at hx
  refine cw (want:=true) (x:=decide (back<s.next[k])) 3 aI rfl rfl rfl rfl (.inl ⟨rfl,rfl,rfl⟩) rfl rfl rfl rfl (fun hb Q' eE=> ?_) (fun g' hf=> ?_)
  ·refine Wp 3 rfl ?_;apply aD
   exact fun a ha=>eE _ a (aZ.refl _) (ha.keep (by(repeat (first|exact trivial|refine⟨rfl,?_⟩))))
  have ah:=hf.le;replace pj:=hJ _ _ _ hf pj;replace aq:=G.le.trans aq ah
  refine Wp 1 rfl ?_
  by_cases hc:0≤back∧back<s.next[k]
  ·refine kC (t:=22) (.bool true) rfl (by simp[hc]) ?_
   rw[if_pos hc,if_pos (by omega:back≤s.next[k])]at hx
   refine Wp 2 rfl ?_
   refine an rfl rfl (eT rfl rfl rfl rfl rfl rfl ((hy pre back (s.next[k]::eL (-1) (s.next.drop (k+1))) _ (by rw[hx];rfl) aq pj).mono ?_))
   rintro _ _ ⟨g3,bb,rfl,rfl,ah,ht,hf⟩
   refine⟨_,rfl,?_⟩
   replace aq:=G.le.trans aq ah
   cases bb with
   |false=>
    refine ba rfl ?_
    refine aJ rfl rfl ?_
    skip
    refine aF ?_;apply eF;apply iq;apply eF;apply eF;apply iq;apply eF;refine rR rfl ?_
    exact⟨g3,_,rfl,rfl,aq,.inr ⟨_,⟨s.next[k]::eL (-1) (s.next.drop (k+1)),by rw[hx];simp⟩,hf rfl⟩⟩
   |true=>
    refine ba rfl ?_
    refine aS rfl rfl ?_
    apply aE;apply au;apply aB;refine aX rfl ?_
    refine aJ (b:=decide (back≤s.next[k])) (by simp;omega) rfl ?_
    apply ar;refine ba rfl ?_;refine cP 2 rfl ?_
    have A0:jy s=(pre++[back])++s.next[k]::eL (-1) (s.next.drop (k+1)):=by rw[hx];simp
    refine an rfl rfl (eT rfl rfl rfl rfl rfl rfl ((hy ((pre++[back])) s.next[k] (eL (-1) (s.next.drop (k+1))) _ (A0) aq (ht rfl)).mono ?_))
    rintro _ _ ⟨g4,bb,rfl,rfl,ah,ht,hf⟩
    refine⟨_,rfl,?_⟩
    replace aq:=G.le.trans aq ah
    cases bb with
    |false=>
     refine ba rfl ?_
     refine aJ rfl rfl ?_
     skip
     refine aF ?_;apply iq;apply eF;apply eF;apply iq;apply eF;refine rR rfl ?_
     exact⟨g4,_,rfl,rfl,aq,.inr ⟨_,⟨eL (-1) (s.next.drop (k+1)),by rw[A0];simp⟩,hf rfl⟩⟩
    |true=>
     refine ba rfl ?_
     refine aS rfl rfl ?_
     apply aE;apply bU;apply au;apply ar;refine Wp 2 rfl ?_;apply aD
     exact fun a ha=>⟨s.next.length-(k+1),by omega,k+1,(pre++[back])++[s.next[k]],-1,_,rfl,aq,by omega,rfl,ht rfl,by rw[A0];simp,ha.keep ⟨rfl,rfl,rfl,rfl,rfl,kI rfl (by rw[wr (by omega) (by omega)];omega),trivial⟩⟩
  ·refine kC (t:=22) (.bool false) rfl (congrArg Value.bool (by simp only[cond_true,Bool.and_eq_false_iff,decide_eq_false_iff_not];omega)) ?_
   refine ba rfl ?_
   refine aS rfl rfl ?_
   rw[if_neg hc]at hx
   apply aE;apply au;apply aB;refine aX rfl ?_
   by_cases O3:back≤s.next[k]
   ·refine aJ (b:=decide (back≤s.next[k])) (by simp;omega) rfl ?_
    rw[if_pos O3]at hx
    apply ar;refine ba rfl ?_;refine cP 2 rfl ?_
    have A0:jy s=pre++s.next[k]::eL (-1) (s.next.drop (k+1)):=by rw[hx];simp
    refine an rfl rfl (eT rfl rfl rfl rfl rfl rfl ((hy (pre) s.next[k] (eL (-1) (s.next.drop (k+1))) _ (A0) aq (pj)).mono ?_))
    rintro _ _ ⟨g4,bb,rfl,rfl,ah,ht,hf⟩
    refine⟨_,rfl,?_⟩
    replace aq:=G.le.trans aq ah
    cases bb with
    |false=>
     refine ba rfl ?_
     refine aJ rfl rfl ?_
     skip
     refine aF ?_;apply iq;apply eF;apply eF;apply iq;apply eF;refine rR rfl ?_
     exact⟨g4,_,rfl,rfl,aq,.inr ⟨_,⟨eL (-1) (s.next.drop (k+1)),by rw[A0];simp⟩,hf rfl⟩⟩
    |true=>
     refine ba rfl ?_
     refine aS rfl rfl ?_
     apply aE;apply bU;apply au;apply ar;refine Wp 2 rfl ?_;apply aD
     exact fun a ha=>⟨s.next.length-(k+1),by omega,k+1,pre++[s.next[k]],-1,_,rfl,aq,by omega,rfl,ht rfl,by rw[A0];simp,ha.keep ⟨rfl,rfl,rfl,rfl,rfl,kI rfl (by rw[wr (by omega) (by omega)];omega),trivial⟩⟩
   ·refine aS (b:=decide (back≤s.next[k])) (by simp;omega) rfl ?_
    rw[if_neg O3]at hx
    apply aE;apply au;refine cP 2 rfl ?_
    have A0:jy s=pre++s.next[k]::eL back (s.next.drop (k+1)):=by rw[hx];simp
    refine an rfl rfl (eT rfl rfl rfl rfl rfl rfl ((hy (pre) s.next[k] (eL (back) (s.next.drop (k+1))) _ (A0) aq (pj)).mono ?_))
    rintro _ _ ⟨g4,bb,rfl,rfl,ah,ht,hf⟩
    refine⟨_,rfl,?_⟩
    replace aq:=G.le.trans aq ah
    cases bb with
    |false=>
     refine ba rfl ?_
     refine aJ rfl rfl ?_
     skip
     refine aF ?_;apply iq;apply eF;apply eF;apply iq;apply eF;refine rR rfl ?_
     exact⟨g4,_,rfl,rfl,aq,.inr ⟨_,⟨eL (back) (s.next.drop (k+1)),by rw[A0];simp⟩,hf rfl⟩⟩
    |true=>
     refine ba rfl ?_
     refine aS rfl rfl ?_
     apply aE;apply bU;apply au;apply ar;refine Wp 2 rfl ?_;apply aD
     exact fun a ha=>⟨s.next.length-(k+1),by omega,k+1,pre++[s.next[k]],back,_,rfl,aq,by omega,rfl,ht rfl,by rw[A0];simp,ha.keep ⟨rfl,rfl,rfl,rfl,rfl,kI rfl (by rw[wr (by omega) (by omega)];omega),trivial⟩⟩
 ·refine aS (b:=decide ((k:Int)<(s.next.length:Int))) (by simp;omega) rfl ?_
  apply bE;apply bK;apply bK;apply dc;apply au;refine aX rfl ?_
  obtain rfl:k=s.next.length:=by omega
  rw[List.drop_length,eL]at hx
  by_cases hb:0≤back
  ·refine aJ (b:=decide (0≤back)) (by simp;omega) rfl ?_
   rw[if_pos hb]at hx
   apply ar;refine Wp 2 rfl ?_
   refine an rfl rfl (eT rfl rfl rfl rfl rfl rfl ((hy pre back [] _ hx aq pj).mono ?_))
   rintro _ _ ⟨g3,bb,rfl,rfl,ah,ht,hf⟩
   refine⟨_,rfl,?_⟩
   replace aq:=G.le.trans aq ah
   apply aD
   refine k5 rfl ?_
   cases bb with
   |true=>exact⟨g3,_,rfl,rfl,aq,.inl (by rw[hx];exact ht rfl)⟩
   |false=>exact⟨g3,_,rfl,rfl,aq,.inr ⟨_,⟨[],by rw[hx];simp⟩,hf rfl⟩⟩
  ·refine aS (b:=decide (0≤back)) (by simp;omega) rfl ?_
   rw[if_neg hb,List.append_nil]at hx
   apply aE
   refine k5 rfl ?_
   exact⟨_,_,rfl,rfl,aq,.inl (by rw[hx];exact pj)⟩
end Go.Proofs.YtebobfdheanknaaGreatDoor
namespace Go.Proofs.YtebobfdheanknaaGreatDoor
open Go Go.K
set_option maxRecDepth 10000
attribute [local irreducible] W WL cT bu bX bA bB bD cW cG
set_option maxHeartbeats 1000000
def zD(g:G)(v:Value)(xs:List Int):Prop:=
 ∃jR eG,v= .func (.func jR) #[] eG∧ag Tryz.prog jR∧sM Tryz.prog jR eG (fun n:Int=>[.int .i64 n]) xs g
theorem zD.mono{g g':G}{v:Value}{xs:List Int}(h:zD g v xs)(hle:g.le g'):zD g' v xs:=by
 obtain⟨jR,eG,e,h1,h2⟩:=h
 exact⟨jR,eG,e,h1,h2.mono hle⟩
theorem GR(v:Value)(s:Step)(g:G)(QJ:ja g v s):
  CallsIn Wd 0 Tryz.prog 155 #[v] g.w (cR g fun g' r=>zD g' r (jy s)):=by
 obtain⟨cs,rfl,a1,n1,c1,a2,n2,c2,rfl,aH,aT⟩:=QJ
 have hs:=St.start g
 refine enter Tryz.func155 rfl Tryz.ntmps155 rfl ?_
 apply c_
 refine an rfl rfl (aR rfl hs rfl rfl ?_);clear hs;rintro b1 g1 hs ah;obtain⟨aH,aT⟩:=cC ah aH aT
 refine ba rfl ?_;refine aX rfl ?_
 obtain⟨g2,bR,aU,ah,aL⟩:=hs.a_ (i:=0) rfl;replace hs:=aU;clear aU;rw[←bR];obtain⟨aH,aT⟩:=cC ah aH aT
 skip
 exact aF (aV rfl rfl (hs.ret ⟨250,_,rfl,Ms,EC s _ _ _ aL ⟨_,_,_,_,_,_,rfl,aH,aT⟩⟩))
end Go.Proofs.YtebobfdheanknaaGreatDoor
namespace Go.Proofs.YtebobfdheanknaaGreatDoor
open Go Go.K
set_option maxRecDepth 10000
attribute [local irreducible] W WL cT bu bX bA bB bD cW cG
set_option maxHeartbeats 4000000
def xO(b:Nat)(xs:List UInt8)(Lw:List cV):Prop:=∃p v Lr,(p= .pointer none∨p= .pointer (some ⟨b,0,none⟩))∧lK 5 v xs Lr∧Lw= .obj b (.cells [p,v].toArray 153 (0,0))::Lr
def i_(l:List Int):List UInt8:=l.flatMap fO
theorem j8: ∀l:List Int,(i_ l).length≤10*l.length
 |[]=>by simp[i_]
 |n::l=>by
  have:=j8 l
  have h:=kR n
  unfold i_ at this⊢
  simp only[List.flatMap_cons,List.length_append,List.length_cons];omega
theorem zy{b:Nat}{xs:List UInt8}{Lw L:List cV}{sv:Value}(l:List Int){g0 g:G}(hw:xO b xs Lw)(hl: ∀n∈l,o_ n)(hlen:xs.length+10*l.length≤1000000)(aH:Rs g sv l)(hs:St g0 g (Lw++L)):
  CallsIn Wd 0 Tryz.prog 87 #[.pointer (some ⟨b,0,none⟩),sv] g.w (eu g fun g' r=>r= .tuple #[]∧ ∃zA,xO b (xs++i_ l) zA∧St g0 g' (zA++L)):=by
 obtain⟨a,c,rfl⟩:=aH.isSlice
 have aq:=G.le.refl g
 refine enter Tryz.func87 rfl Tryz.ntmps87 rfl ?_
 refine aX rfl ?_;apply aG
 have qz:=aH
 refine bS (fun m a' w=> ∃(k:Nat) (zA:List cV) (g':G),w=g'.w∧xO b (xs++i_ (l.take k)) zA∧St g0 g' (zA++L)∧G.le g g'∧k≤l.length∧m=l.length-k∧
   Fr 25 [] [(0,.pointer (some ⟨b,0,none⟩)),(8,.slice a l.length c),(9,.int .i64 l.length),(10,.int .i64 k)] a') l.length
  (fun a' ha=>⟨0,Lw,g,rfl,by simpa [i_]using hw,hs,aq,Nat.zero_le _,rfl,ha.keep (by(repeat (first|exact trivial|refine⟨rfl,?_⟩)))⟩) ?_
 clear hs aq aH hw
 rintro m a' _ ⟨k,zA,g',rfl,⟨p,v,Lr,hp,hb,rfl⟩,hs,aq,hk,rfl,eI⟩
 have aH:=qz.mono aq
 revert a'
 apply cQ;refine aX rfl ?_;apply aB
 by_cases bh:k<l.length
 ·refine aJ (b:=decide ((k:Int)<(l.length:Int))) (by simp;omega) rfl ?_
  apply aE;apply au;apply aB;apply aG;apply c_
  refine an rfl rfl (aW T.ok rfl aH (y:=l[k]) (cU rfl bh) rfl rfl rfl rfl rfl rfl ?_)
  rintro b1 p1 ys aL rfl
  refine Wm 1 [.e aL 0] (St.start _) rfl ?_
  refine ba rfl ?_;refine cP 1 rfl ?_
  refine an rfl rfl (ay HJ aI rfl rfl rfl rfl rfl (xP l[k] _ (hl _ (List.getElem_mem bh))) ?_);rintro g1 _ aN rfl;replace hs:=hs.call aN;have ah:=aN.le;obtain⟨aq,aH⟩:=cC ah aq aH
  refine ba rfl ?_;apply ar;refine Wp 4 rfl ?_
  have AX:=j8 (l.take k)
  have MV:=kR l[k]
  rw[List.length_take]at AX
  refine an rfl rfl (dv HK aI rfl rfl rfl rfl rfl (Dq hp hb (fO l[k]) (by rw[List.length_append];omega) Dr hs) ?_)
  clear hs
  rintro g5 _ ah ⟨v',uL,rQ,hs⟩;obtain⟨aq,aH⟩:=cC ah aq aH
  apply aD;apply bU;apply au;apply ar;refine Wp 2 rfl ?_;apply aD
  refine fun a ha=>⟨l.length-(k+1),by omega,k+1,_,_,rfl,⟨_,v',uL,.inr rfl,?_,rfl⟩,hs,aq,by omega,rfl,ha.keep ⟨rfl,rfl,rfl,kI rfl (by have:=aH.dU;unfold maxLen at this;rw[wr (by omega) (by omega)];omega),trivial⟩⟩
  rw[List.take_succ_eq_append_getElem bh]
  unfold i_ at rQ⊢
  rw[List.flatMap_append]
  simpa using rQ
 ·refine aS (b:=decide ((k:Int)<(l.length:Int))) (by simp;omega) rfl ?_
  apply bE;apply bK;apply bK;apply dc
  refine k5 rfl (eu.intro aq ⟨rfl,_,⟨p,v,Lr,hp,?_,rfl⟩,hs⟩)
  rw[List.take_of_length_le (by omega)]at hb
  exact hb
theorem zB(f:bc)(fs:List jD)(MU: ∀x∈fs,kP x.at_)(bl bf:Nat)(u:Value)(g:G)(T5:EP g bl 0 [u])(rs:Rs g u fs)(MW:EP g bf 0 (bW f)):
  sM Tryz.prog 169 #[.pointer (some ⟨bl,0,none⟩),.pointer (some ⟨bf,0,none⟩)] (fun n:Int=>[.int .i64 n]) (fs.map fun x=>f.num x.at_) g:=by
 obtain⟨a,c,rfl⟩:=rs.isSlice
 intro g1 hle yv J Jx hJ Qf hy zC
 have hlen:=rs.dU
 unfold maxLen at hlen
 have aq:=G.le.refl g1
 have qE:=T5.mono hle;have HY:=rs.mono hle;have I4:=MW.mono hle
 have aC:=qE
 refine enter Tryz.func169 rfl Tryz.ntmps169 rfl ?_
 refine nK [.z aC] (St.start _) rfl ?_;apply aG
 refine bS (fun m a' w=> ∃(k:Nat) (g':G),w=g'.w∧G.le g1 g'∧k≤fs.length∧m=fs.length-k∧J ((fs.map fun x=>f.num x.at_).take k) g'∧
   Fr 21 [] [(0,yv),(1,.pointer (some ⟨bl,0,none⟩)),(2,.pointer (some ⟨bf,0,none⟩)),(6,.slice a fs.length c),(7,.int .i64 fs.length),(8,.int .i64 k)] a') fs.length
  (fun a' ha=>⟨0,g1,rfl,aq,Nat.zero_le _,rfl,zC,ha.keep (by(repeat (first|exact trivial|refine⟨rfl,?_⟩)))⟩) ?_
 clear aC aq
 rintro m a' _ ⟨k,g',rfl,aq,hk,rfl,pj,eI⟩
 have aC:=I4.mono aq;have eg:=HY.mono aq
 have hs:=St.start g'
 revert a'
 apply cQ;refine aX rfl ?_;apply aB
 by_cases bh:k<fs.length
 ·refine aJ (b:=decide ((k:Int)<(fs.length:Int))) (by simp;omega) rfl ?_
  have qD:=MU _ (List.getElem_mem bh)
  have ic:=cU (n:=((k:Nat):Int)) rfl bh
  have qF:(fs.map fun x=>f.num x.at_)=(fs.map fun x=>f.num x.at_).take k++f.num fs[k].at_::(fs.map fun x=>f.num x.at_).drop (k+1):=by
   conv=>lhs;rw[←List.take_append_drop k (fs.map fun x=>f.num x.at_)]
   rw[List.drop_eq_getElem_cons (by simpa using bh)];simp
  have fw:(fs.map fun x=>f.num x.at_).take (k+1)=(fs.map fun x=>f.num x.at_).take k++[f.num fs[k].at_]:=by
   rw[List.take_succ_eq_append_getElem (by simpa using bh)];simp
  generalize fs[k]=x at*
  apply aE;apply au;apply aB;apply aG;apply c_
  refine an rfl rfl (aW T.ok rfl eg (y:=x) ic rfl rfl rfl rfl rfl rfl ?_)
  rintro bq pq ys aL rfl
  refine Wm 1 [.e aL 0] (St.start _) rfl ?_
  skip
  refine an rfl rfl (aK T.ok rfl hs rfl rfl ?_);clear hs;rintro bx g1 hs ah;obtain⟨aq,aC⟩:=cC ah aq aC
  skip
  refine bg rfl (aA T.ok 0 rfl hs rfl rfl rfl rfl rfl rfl rfl rfl rfl ?_);replace hs:=hs;rintro g1 hs ah;obtain⟨aq,aC⟩:=cC ah aq aC
  apply cf;refine dx 3 [.o 0] hs rfl ?_
  refine an rfl rfl (eA rfl rfl rfl rfl rfl rfl (de (first:=#[]) (captured:=#[]) (args:=[.pointer (some ⟨bf,0,none⟩)]) (Dh qD) rfl (HT qD bf _)) ?_)
  rintro g4 _ kL rfl
  replace hs:=hs.call kL;have ah:=kL.le;obtain⟨aq,aC⟩:=cC ah aq aC
  refine Wp 1 rfl ?_
  refine an rfl rfl (sN T.ok rfl aC rfl (wq qD f) ?_)
  skip
  have FI:=hJ _ _ _ hs.mS pj
  refine an rfl rfl (eT rfl rfl rfl rfl rfl rfl ((hy _ _ _ _ qF aq FI).mono ?_))
  rintro _ _ ⟨g5,bb,rfl,rfl,ah,ht,hf⟩
  refine⟨_,rfl,?_⟩
  clear hs FI
  replace aq:=G.le.trans aq ah
  cases bb with
  |false=>
   refine ba rfl ?_
   refine aJ rfl rfl ?_
   skip
   refine aF ?_;apply iq;apply eF;apply eF;apply iq;refine rR rfl ?_
   exact⟨g5,_,rfl,rfl,aq,.inr ⟨_,⟨_,by rw[List.append_assoc];exact qF.symm⟩,hf rfl⟩⟩
  |true=>
   refine ba rfl ?_
   refine aS rfl rfl ?_
   apply aE;apply bU;apply au;apply ar;refine Wp 2 rfl ?_;apply aD
   exact fun a ha=>⟨fs.length-(k+1),by omega,k+1,_,rfl,aq,by omega,rfl,fw▸ht rfl,ha.keep ⟨rfl,rfl,rfl,rfl,rfl,kI rfl (by rw[wr (by omega) (by omega)];omega),trivial⟩⟩
 ·refine aS (b:=decide ((k:Int)<(fs.length:Int))) (by simp;omega) rfl ?_
  apply bE;apply bK;apply bK;apply dc
  refine k5 rfl ⟨g',_,rfl,rfl,aq,.inl ?_⟩
  rw[List.take_of_length_le (by simp;omega)]at pj
  exact pj
theorem vh(f:bc)(fs:List jD)(MU: ∀x∈fs,kP x.at_)(u:Value)(g:G)(aH:Rs g u fs):
  CallsIn Wd 0 Tryz.prog 89 #[fv f,u] g.w (cR g fun g' r=>zD g' r (fs.map fun x=>f.num x.at_)):=by
 obtain⟨a,c,rfl⟩:=aH.isSlice
 have hs:=St.start g
 refine enter Tryz.func89 rfl Tryz.ntmps89 rfl ?_
 apply c_
 refine an rfl rfl (aR rfl hs rfl rfl ?_);clear hs;rintro bf g1 hs ah;replace aH:=aH.mono ah
 refine an rfl rfl (aR rfl hs rfl rfl ?_);clear hs;rintro bl g1 hs ah;replace aH:=aH.mono ah
 obtain⟨g2,bR,aU,ah,aL⟩:=hs.a_ (i:=0) rfl;replace hs:=aU;clear aU;rw[←bR];replace aH:=aH.mono ah
 have aC:=aL;clear aL
 obtain⟨g2,bR,aU,ah,aL⟩:=hs.a_ (i:=0) rfl;replace hs:=aU;clear aU;rw[←bR];obtain⟨aC,aH⟩:=cC ah aC aH
 have aP:=aL;clear aL
 refine ba rfl ?_;refine aX rfl ?_
 exact aF (aV rfl rfl (hs.ret ⟨169,_,rfl,LO,zB f fs MU _ _ _ _ aC aH aP⟩))
end Go.Proofs.YtebobfdheanknaaGreatDoor
namespace Go.Proofs.YtebobfdheanknaaGreatDoor
open Go Go.K
set_option maxRecDepth 10000
attribute [local irreducible] W WL cT bu bX bA bB bD cW cG
set_option maxHeartbeats 4000000
theorem HZ{α:Type}{a b:α}{A C:List α}:List.Perm (a::b::(A++C)) (A++(a::b::C)):=(List.perm_middle.symm.cons a).trans List.perm_middle.symm
theorem vi{b:Nat}{xs:List UInt8}{Lw L:List cV}{Si:Value}(l:List Int){g0 g:G}(hw:xO b xs Lw)(hl: ∀n∈l,o_ n)(hlen:xs.length+10*l.length≤1000000)(hx:zD g Si l)(hs:St g0 g (Lw++L)):
  CallsIn Wd 0 Tryz.prog 88 #[.pointer (some ⟨b,0,none⟩),Si] g.w (eu g fun g' r=>r= .tuple #[]∧ ∃zA,xO b (xs++i_ l) zA∧St g0 g' (zA++L)):=by
 obtain⟨jR,eG,rfl,fY,qG⟩:=hx
 have aq:=G.le.refl g
 refine qH Tryz.func88 rfl Tryz.ntmps88 rfl ?_
 apply c_
 refine an rfl rfl (aR rfl hs rfl rfl ?_);clear hs;rintro bx g1 hs ah;replace aq:=G.le.trans aq ah
 obtain⟨g2,bR,aU,ah,aL⟩:=hs.a_ (i:=0) rfl;replace hs:=aU;clear aU;rw[←bR];replace aq:=G.le.trans aq ah
 have aC:=aL;clear aL
 have hs:St g0 g2 (Lw++L):=hs
 apply cf;refine aX rfl ?_;apply aG
 refine AY (N:=11) hs rfl fY (qG.mono aq) rfl (fun _=>rfl)
  (fun pre L' g'=>EP g' bx 0 [.pointer (some ⟨b,0,none⟩)]∧G.le g g'∧ ∃zA,L'=zA++L∧xO b (xs++i_ pre) zA) (fun _ _ _ _=>False)
  (fun _ _ _ _ hle h=>⟨h.1.mono hle,h.2.1.trans hle,h.2.2⟩) (fun _ _ _ _ _ _ h=>h) ⟨aC,aq,Lw,rfl,by simpa [i_]using hw⟩ (fun n=>[(4,.int .i64 n),(2,.pointer (some ⟨bx,0,none⟩))]) ?_ ?_ ?_ ?_
 ·intro x ro w
  apply ar;refine Wp 1 rfl ?_;apply aD
  exact fun a ha=>⟨rfl,ha.keep (by(repeat (first|exact trivial|refine⟨rfl,?_⟩)))⟩
 ·rintro lp D ro pre x rest gr Lr jm hle hs ⟨aC,F9,zA,rfl,hw⟩
  have cN:=G.le.refl gr
  have AX:=j8 pre
  have MV:pre.length+1≤l.length:=by rw[jm];simp
  have lG:x∈l:=by rw[jm];simp
  apply aG;apply ar;refine Wm 2 [.z aC] (St.start _) rfl ?_
  refine an rfl rfl (bj T.ok rfl hs (vs:=[(0,.int .i64 (x))]) (cells:=[.int .i64 (x)]) rfl rfl rfl rfl rfl rfl (by decide) (by decide) (by kernel_rfl) rfl ?_);rintro bl gl hs ah;obtain⟨cN,F9,aC⟩:=ef ah cN F9 aC;obtain⟨gz,ik,cS,iT,pk⟩:=hs.cL (α:=Int) (xs:=[x]) (i:=0) rfl (cO.ints _ [x]);clear ah;have ah:=iT;rw[←ik];replace hs:=cS;clear cS;obtain⟨cN,F9,aC⟩:=ef ah cN F9 aC
  have aU:=hs.perm HZ
  refine an rfl rfl (dv IY (fun _=>trivial) rfl rfl rfl rfl rfl (CallsIn.kr rfl rfl rfl (zy [x] hw (by simpa using hl x lG) (by rw[List.length_append];simp only[List.length_cons,List.length_nil];omega) pk aU)) ?_)
  clear hs aU
  rintro g5 _ ah ⟨rfl,Qg,bR,hs⟩;obtain⟨cN,F9,aC⟩:=ef ah cN F9 aC
  replace hs:=hs.perm HZ.symm
  apply aD;apply bU
  refine fun a ha=>⟨_,_,rfl,hs,cN,aC,F9,Qg,rfl,?_⟩
  unfold i_ at bR⊢
  rw[List.flatMap_append,←List.append_assoc];exact bR
 ·rintro lp D o Lr ge hle hs ⟨aC,F9,zA,rfl,hw⟩
  apply bU
  refine H0 1 rfl hs rfl (fun g' iS fL=> ?_)
  exact eu.intro (F9.trans fL) ⟨rfl,zA,hw,iS.drop 0⟩
 ·rintro c lp D o pre Lr ge _ _ _ h
  exact h.elim
end Go.Proofs.YtebobfdheanknaaGreatDoor
namespace Go.Proofs.YtebobfdheanknaaGreatDoor
open Go Go.K
set_option maxRecDepth 10000
attribute [local irreducible] W WL cT bu bX bA bB bD cW cG
set_option maxHeartbeats 8000000
def Qh(xs:List Int):Fact:=⟨fun v g=>zD g v xs,fun _ _ _ hf h=>h.mono hf.le⟩
def pn(f:bc)(l:List jD):List Int:=l.map fun x=>f.num x.at_
theorem qI(f:bc)(l:List jD):i_ (pn f l)=sD f l:=by unfold i_ pn sD;rw[List.flatMap_map]
theorem oD(n:Int):fO n≠[]:=by unfold fO kS;simp
theorem Ds(f:bc)(g:G):CallsIn Wd 0 Tryz.prog 40 #[fv f] g.w (cR g fun _ r=>r= .string (bs (fp f))):=by
 have hs:=St.start g
 have aq:=G.le.refl g
 refine enter Tryz.func40 rfl Tryz.ntmps40 rfl ?_
 apply c_
 refine an rfl rfl (aR rfl hs rfl rfl ?_);clear hs;rintro bf g1 hs ah
 obtain⟨g2,bR,aU,ah,aL⟩:=hs.a_ (i:=0) rfl;replace hs:=aU;clear aU;rw[←bR]
 have aC:=aL;clear aL
 refine ba rfl ?_;apply aB;refine dx 1 [.z aC] (St.start _) rfl ?_
 refine an rfl rfl (ay K5 aI rfl rfl rfl rfl rfl (xM f _) ?_);rintro g1 _ aN rfl;replace hs:=hs.call aN;have ah:=aN.le;replace aC:=aC.mono ah
 refine ba rfl ?_
 cases hv:fm f with
 |false=>
  refine aJ rfl rfl ?_
  refine aX rfl ?_
  refine aF ?_;apply eF
  refine aV rfl rfl (hs.ret ?_)
  unfold fp;rw[hv];rfl
 |true=>
  refine aS rfl rfl ?_
  obtain⟨s,mU,Qi,Sj,Dt,_⟩:=kQ hv
  obtain⟨_,_,_,j9,zl,_,rS,Qj⟩:=mO mU
  apply aE;apply au;apply c_
  refine an rfl rfl (aQ T.ok rfl (vs:=[]) (cells:=[.pointer none,.slice none 0 0]) rfl rfl rfl rfl [(0,2)] rfl (by kernel_rfl) ?_)
  refine an rfl rfl (aR rfl hs rfl rfl ?_);clear hs;rintro bw g1 hs ah;replace aC:=aC.mono ah
  have hw:xO bw [] [.obj bw (.cells [.pointer none,.slice none 0 0].toArray 153 (0,0))]:=⟨_,_,[],.inl rfl,.inl ⟨rfl,rfl,rfl⟩,rfl⟩
  refine ba rfl ?_;refine dx 3 [.z aC] (St.start _) rfl ?_
  refine an rfl rfl (bj T.ok rfl hs (vs:=[(0,.int .i64 (f.kind))]) (cells:=[.int .i64 (f.kind)]) rfl rfl rfl rfl rfl rfl (by decide) (by decide) (by kernel_rfl) rfl ?_);rintro bl gl hs ah;replace aC:=aC.mono ah;obtain⟨gz,ik,cS,iT,pk⟩:=hs.cL (α:=Int) (xs:=[f.kind]) (i:=0) rfl (cO.ints _ [f.kind]);clear ah;have ah:=iT;rw[←ik];replace hs:=cS;clear cS;replace aC:=aC.mono ah
  refine an rfl rfl (dv IY aI rfl rfl rfl rfl rfl (zy (L:=[]) [f.kind] hw (by intro n hn;obtain rfl:n=f.kind:=(by simpa using hn);unfold o_;omega) (by simp) pk hs) ?_)
  clear hs hw pk
  rintro g5 _ ah ⟨rfl,Qg,hw,hs⟩;replace aC:=aC.mono ah
  apply cf;apply aB
  apply ed (eJ (.f F7::eJ (.f (BS (dM f.kind) id):: .f (Fact.rs s.key):: .f (Qh (pn f s.key))::[]))) 8 [(0,14),(7,21)] (by kernel_rfl)
  ·refine Dm [[],[]] [.z aC] hs (by kernel_rfl) rfl ?_
   refine aw (ak (js:=[]) (by kernel_rfl) fun gd hf=>aj (az rfl (ay IZ aI rfl rfl rfl rfl rfl (sL gd) fun g' v hf ⟨b,cq,e,h1,h2⟩=>⟨g',rfl,hf,b,cq,e,h1,h2⟩))) ?_
   refine Dm [[],[3]] [.z aC] hs (by kernel_rfl) rfl ?_
   refine aw (ak (js:=[(2,16),(4,18)]) (by kernel_rfl) fun gd hf=>aY fun v2 h2=>ai rfl (aj ?_)) ?_
   ·obtain⟨b,cq,rfl,h1,h2⟩:=h2
    exact az rfl (wo rfl h1 h2 rfl rfl fun cs h=>⟨gd,rfl,aZ.refl _,cs,rfl,h⟩)
   refine aw (ak (js:=[(5,19)]) (by kernel_rfl) fun gd hf=>aY fun v5 h5=>aj ?_) ?_
   ·obtain⟨cs,rfl,h⟩:=h5
    rw[mU]at h
    obtain⟨a,b,rfl,h1,h2⟩:=h
    exact az rfl (aM _ T.ok rfl ⟨gd,rfl,aZ.refl _,h2⟩)
   refine aw (ak (js:=[(1,15),(6,20)]) (by kernel_rfl) fun gd hf=>ai rfl (aY fun v6 h6=>aj (az rfl (ay K7 aI rfl rfl rfl rfl rfl (vh f s.key (lX mU).2 v6 gd h6) fun g' v hf hv=>⟨g',rfl,hf,hv⟩)))) ?_
   exact fJ
  intro g1 aN;refine ai rfl (aY fun v7 h7=>aj ?_)
  replace hs:=hs.dr.call aN;have ah:=(G.bJ _).trans aN.le
  skip
  refine an rfl rfl (dv K6 aI rfl rfl rfl rfl rfl (vi (L:=[]) (pn f s.key) hw (by intro n hn;obtain⟨x,hx,rfl⟩:=List.mem_map.1 hn;exact Dt x hx) (by have:=j8 [f.kind];simp only[List.nil_append,pn,List.length_map,List.length_cons,List.length_nil]at this⊢;omega) h7 hs) ?_)
  clear hs hw h7
  rintro g5 _ ah ⟨rfl,T6,⟨p,v,Lr,hp,hb,rfl⟩,hs⟩
  apply cf;refine cP 3 rfl ?_
  refine an rfl rfl (dv I0 aI rfl rfl rfl rfl rfl (zE (L:=[]) (by simp[i_,oD]) hb hs) ?_)
  clear hs hb
  rintro g6 _ ah ⟨rfl,hs⟩
  refine ba rfl ?_
  refine aF (aV rfl rfl (hs.ret ?_))
  rw[qI]
  unfold fp
  rw[hv,mU]
  simp[i_]
end Go.Proofs.YtebobfdheanknaaGreatDoor
namespace Go.Proofs.YtebobfdheanknaaGreatDoor
open Go Go.K
set_option maxRecDepth 10000
attribute [local irreducible] W WL cT bu bX bA bB bD cW cG
set_option maxHeartbeats 8000000
theorem xQ(f:bc)(g:G):CallsIn Wd 0 Tryz.prog 92 #[fv f] g.w (cR g fun _ r=>r= .tuple #[.string (bs (lh f).1),.int .i64 (lh f).2]):=by
 have hs:=St.start g
 have aq:=G.le.refl g
 refine enter Tryz.func92 rfl Tryz.ntmps92 rfl ?_
 apply c_
 refine an rfl rfl (aR rfl hs rfl rfl ?_);clear hs;rintro bf g1 hs ah
 obtain⟨g2,bR,aU,ah,aL⟩:=hs.a_ (i:=0) rfl;replace hs:=aU;clear aU;rw[←bR]
 have aC:=aL;clear aL
 refine ba rfl ?_;apply aB;refine dx 1 [.z aC] (St.start _) rfl ?_
 refine an rfl rfl (ay K5 aI rfl rfl rfl rfl rfl (xM f _) ?_);rintro g1 _ aN rfl;replace hs:=hs.call aN;have ah:=aN.le;replace aC:=aC.mono ah
 refine ba rfl ?_
 cases hv:fm f with
 |false=>
  refine aJ rfl rfl ?_
  refine aX rfl ?_
  refine aF ?_;apply eF
  refine rT rfl rfl rfl (hs.ret ?_)
  unfold lh;rw[hv];rfl
 |true=>
  refine aS rfl rfl ?_
  obtain⟨s,mU,Qi,Sj,Dt,Qk,Sk,Wh,T7,Sl,_⟩:=kQ hv
  obtain⟨_,_,_,j9,zl,xR,rS,Qj⟩:=mO mU
  apply aE;apply au;apply aB
  apply lJ (.f F7::(eJ (.f (BS (dM f.kind) id)::(.f Fact.any:: .f Fact.any::[])))) 6 [(4,4)] [4,5] [[],[4]] (zk g [] 159 Dn (oC (dM f.kind)) 4 5) (xN oC.mono) (HW hs.dr) (by kernel_rfl) ⟨vd,nL _ _,cY,cY,trivial⟩
  ·refine bC (cH (js:=[]) (by kernel_rfl) rfl fun _ g2 _ _ _ _=>bd (az rfl (ay IZ aI rfl rfl rfl rfl rfl (sL g2) fun g' v hf ⟨b,cq,e,h1,h2⟩=>⟨g',rfl,hf,b,cq,e,h1,h2⟩))) ?_
   refine Um [[],[1]] [.z aC] (by kernel_rfl) rfl ?_
   refine bC (cH (js:=[(0,11),(2,13)]) (by kernel_rfl) rfl fun _ g2 _ _ _ _=>cJ fun v0 h0=>cI rfl (bd ?_)) ?_
   ·obtain⟨b,cq,rfl,h1,h2⟩:=h0
    exact az rfl (wo rfl h1 h2 rfl rfl fun cs h=>⟨g2,rfl,aZ.refl _,cs,rfl,h⟩)
   refine bC (il (js:=[]) (by kernel_rfl) rfl fun ρ g2 h1 _ h3 _ hJ=>bd ⟨rfl,vf rfl h3 (h1 1 [4] 5 rfl rfl (by simp)) hJ rfl rfl rfl⟩) ?_
   refine bC (il (js:=[(4,4),(3,14),(3,14),(4,4)]) (by kernel_rfl) rfl fun ρ g2 _ _ h3 _ hJ=>cJ fun _ _=>cJ fun _ _=>cJ fun v5 h5=>fH rfl fun v7 _ r7=>bd ⟨rfl,?_⟩) ?_
   ·obtain⟨cs,rfl,h⟩:=h5
    exact vg oC.mono rfl r7 h3 hJ rfl rfl rfl rfl cs rfl h.len.1 rfl h.len.2 h
   exact vc
  intro ρ g3 hle hJ dh
  refine fH rfl fun v7 _ r7=>bd ?_
  obtain⟨b3,cs,rfl,hs,hO⟩:=AW r7 (dh 5 rfl) hJ
  clear hJ dh r7
  have ah:=(G.bJ _).trans hle;replace aC:=aC.mono ah
  clear hle ρ
  rw[mU]at hO
  obtain⟨ka,kb,rfl,eg,fq⟩:=hO
  obtain⟨g2,bR,aU,ah,aL⟩:=hs.a_ (i:=0) rfl;replace hs:=aU;clear aU;rw[←bR];obtain⟨aC,eg⟩:=cC ah aC eg
  have aP:=aL;clear aL
  apply cf;apply c_
  refine an rfl rfl (aQ T.ok rfl (vs:=[]) (cells:=[.pointer none,.slice none 0 0]) rfl rfl rfl rfl [(0,2)] rfl (by kernel_rfl) ?_)
  refine an rfl rfl (aR rfl hs rfl rfl ?_);clear hs;rintro bw g1 hs ah;obtain⟨aC,aP,eg⟩:=ef ah aC aP eg
  have hw:xO bw [] [.obj bw (.cells [.pointer none,.slice none 0 0].toArray 153 (0,0))]:=⟨_,_,[],.inl rfl,.inl ⟨rfl,rfl,rfl⟩,rfl⟩
  refine ba rfl ?_;apply aB
  have T8:mM f.gone=0∨mM f.gone=1:=by unfold mM;split<;>simp
  apply ed (fj (eJ (.f (Fact.rs [f.kind,f.ver,f.day,mM f.gone])::[]))) 11 [(0,17),(10,27)] (by kernel_rfl)
  ·refine Dm [[],[],[1],[],[3],[],[5],[],[7],[8]] [.z aC,.z aC,.z aC,.z aC,.c L5 fun g _=>I1 f.gone g] hs (by kernel_rfl) rfl ?_
   refine aw (ak (js:=[(2,19),(4,21),(6,23),(9,26)]) (by kernel_rfl) fun gd hf=>ai rfl (ai rfl (ai rfl (ai rfl (aj (az rfl (bj T.ok rfl (St.start gd) (vs:=[(0,.int .i64 f.kind),(1,.int .i64 f.ver),(2,.int .i64 f.day),(3,.int .i64 (mM f.gone))]) (cells:=[f.kind,f.ver,f.day,mM f.gone].map (Value.int .i64)) rfl rfl rfl rfl rfl rfl (by decide) (by decide) (by kernel_rfl) rfl fun b g' iS _=> ?_))))))) ?_
   ·obtain⟨g2,e1,e2,e3⟩:=kj (α:=Int) iS (cO.ints g' [f.kind,f.ver,f.day,mM f.gone])
    exact⟨g2,e1,e2,e3⟩
   exact fJ
  intro g1 aN;refine ai rfl (aY fun v10 uH=>aj ?_)
  replace hs:=hs.dr.call aN;have ah:=(G.bJ _).trans aN.le;obtain⟨aC,aP,eg⟩:=ef ah aC aP eg
  skip
  refine an rfl rfl (dv IY aI rfl rfl rfl rfl rfl (zy (L:=[]) [f.kind,f.ver,f.day,mM f.gone] hw (by intro n hn;simp only[List.mem_cons,List.not_mem_nil,or_false]at hn;unfold o_;rcases hn with rfl|rfl|rfl|rfl<;>omega) (by simp) uH hs) ?_)
  clear hs hw uH
  rintro g5 _ ah ⟨rfl,Qg,hw,hs⟩;obtain⟨aC,aP,eg⟩:=ef ah aC aP eg
  apply cf;refine dx 4 [.z aC,.z aP] (St.start _) rfl ?_
  refine an rfl rfl (ay K7 aI rfl rfl rfl rfl rfl (vh f s.fields (lX mU).1 ka _ eg) ?_);rintro g1 v9 aN h9;replace hs:=hs.call aN;have ah:=aN.le;obtain⟨aC,aP⟩:=cC ah aC aP
  skip
  have AX:=j8 [f.kind,f.ver,f.day,mM f.gone]
  have T9:=j8 (pn f s.fields)
  have FJ:(pn f s.fields).length≤11:=by unfold pn;simpa using xR
  simp only[List.length_cons,List.length_nil]at AX
  refine an rfl rfl (dv K6 aI rfl rfl rfl rfl rfl (vi (L:=[]) (pn f s.fields) hw (by intro n hn;obtain⟨x,hx,rfl⟩:=List.mem_map.1 hn;exact Sj x hx) (by simp only[List.nil_append];omega) h9 hs) ?_)
  clear hs hw h9
  rintro g5 _ ah ⟨rfl,T6,⟨p,v,Lr,hp,hb,rfl⟩,hs⟩;obtain⟨aC,aP⟩:=cC ah aC aP
  apply cf;apply aB;refine nK [.z aP] (St.start _) rfl ?_
  cases ht:s.iW with
  |true=>
   refine aJ rfl rfl ?_
   refine dx 2 [.z aC] (St.start _) rfl ?_
   refine an rfl rfl (ay L6 aI rfl rfl rfl rfl rfl (Du f.text _ (by omega)) ?_);rintro g1 _ aN rfl;replace hs:=hs.call aN;have ah:=aN.le
   refine ba rfl ?_;apply ar;refine Wp 4 rfl ?_
   have sO:(lW f.text).1.length≤f.text.length+10:=by
    unfold lW;split
    ·simp
    ·have:=kR f.text.length
     simp only[List.length_append];omega
   refine an rfl rfl (dv HK aI rfl rfl rfl rfl rfl (Dq (L:=[]) hp hb (lW f.text).1 (by simp only[List.nil_append,List.length_append];omega) Dr hs) ?_)
   clear hs hp
   rintro g5 _ ah ⟨v',uL,hb,hs⟩
   apply cf;refine cP 3 rfl ?_
   refine an rfl rfl (dv I0 aI rfl rfl rfl rfl rfl (zE (L:=[]) (by simp[i_,oD]) hb hs) ?_)
   clear hs hb
   rintro g6 _ ah ⟨rfl,hs⟩
   refine ba rfl ?_
   refine aF (rT rfl rfl rfl (hs.ret ?_))
   rw[qI]
   unfold lh
   rw[hv,mU]
   simp[i_,ht]
  |false=>
   refine aS rfl rfl ?_
   apply aE;apply au;refine cP 3 rfl ?_
   refine an rfl rfl (dv I0 aI rfl rfl rfl rfl rfl (zE (L:=[]) (by simp[i_,oD]) hb hs) ?_)
   clear hs hb
   rintro g6 _ ah ⟨rfl,hs⟩
   refine ba rfl ?_
   refine aF (rT rfl rfl rfl (hs.ret ?_))
   rw[qI]
   unfold lh
   rw[hv,mU]
   simp[i_,ht]
end Go.Proofs.YtebobfdheanknaaGreatDoor
namespace Go.Proofs.YtebobfdheanknaaGreatDoor
open Go Go.K
set_option maxRecDepth 10000
attribute [local irreducible] W WL cT bu bX bA bB bD cW cG
set_option maxHeartbeats 8000000
theorem BT(x y:List UInt8)(g:G):CallsIn Wd 0 Tryz.prog 93 #[.string (bs x),.string (bs y)] g.w (cR g fun _ r=>r= .int .i64 (Lib.compareBytes x y)):=by
 refine j1 ((Tryz.strings_Compare (bs x) (bs y) g.w).mono ?_) fun _ _=>rfl
 rintro e w' ⟨rfl,rfl⟩
 exact⟨rfl,RowKit.Below.refl _ _⟩
theorem zF(f h:bc)(g:G):CallsIn Wd 0 Tryz.prog 41 #[fv f,fv h] g.w (cR g fun _ r=>r= .bool (oa f h)):=by
 have hs:=St.start g
 have aq:=G.le.refl g
 refine enter Tryz.func41 rfl Tryz.ntmps41 rfl ?_
 apply c_
 refine an rfl rfl (aR rfl hs rfl rfl ?_);clear hs;rintro b1 g1 hs ah
 refine an rfl rfl (aR rfl hs rfl rfl ?_);clear hs;rintro b2 g1 hs ah
 obtain⟨g2,bR,aU,ah,aL⟩:=hs.a_ (i:=0) rfl;replace hs:=aU;clear aU;rw[←bR]
 have aP:=aL;clear aL
 obtain⟨g2,bR,aU,ah,aL⟩:=hs.a_ (i:=0) rfl;replace hs:=aU;clear aU;rw[←bR];replace aP:=aP.mono ah
 have aC:=aL;clear aL
 refine ba rfl ?_;refine dx 1 [.z aC] (St.start _) rfl ?_
 refine an rfl rfl (ay K8 aI rfl rfl rfl rfl rfl (xQ f _) ?_);rintro g1 _ aN rfl;replace hs:=hs.call aN;have ah:=aN.le;obtain⟨aC,aP⟩:=cC ah aC aP
 refine ba rfl ?_;refine dx 1 [.z aP] (St.start _) rfl ?_
 refine an rfl rfl (ay K8 aI rfl rfl rfl rfl rfl (xQ h _) ?_);rintro g1 _ aN rfl;replace hs:=hs.call aN;have ah:=aN.le;obtain⟨aC,aP⟩:=cC ah aC aP
 refine ba rfl ?_;apply aB;apply aG;apply aB;refine aX rfl ?_
 by_cases h1:(lh f).2=0
 ·refine aS (b:=(lh f).2 !=0) (by simp[h1]) rfl ?_
  refine aX rfl ?_
  by_cases h2:(lh h).2=0
  ·refine aS (b:=(lh h).2 !=0) (by simp[h2]) rfl ?_
   apply bO hs (gE (fe [])) 5 [(4,28)] (by kernel_rfl) rfl
   ·exact Dz [[],[0],[],[2],[1,3]] [.z aC,.c IQ fun g _=>Ds f g,.z aP,.c IQ fun g _=>Ds h g] hs (by kernel_rfl) rfl
   clear hs;intro g5 hs ah;obtain⟨aC,aP⟩:=cC ah aC aP
   refine ba rfl ?_
   by_cases h3:fp f=fp h
   ·refine aS (b:=!((bs (fp f)).toList==(bs (fp h)).toList)) (by rw[h3];simp) rfl ?_
    have hp:oa f h=if f.ver≠h.ver then decide (h.ver<f.ver)else decide (0<Lib.compareBytes (lh f).1 (lh h).1):=by unfold oa;rw[if_neg (by simp[h1,h2,h3])]
    refine nK [.z aC,.z aP] (St.start _) rfl ?_
    by_cases h4:f.ver=h.ver
    ·refine aS (b:=f.ver !=h.ver) (by simp[h4]) rfl ?_
     apply aE;apply bU;apply au;refine cP 2 rfl ?_
     refine an rfl rfl (ay P1 aI rfl rfl rfl rfl rfl (BT (lh f).1 (lh h).1 _) ?_);rintro g1 _ aN rfl;replace hs:=hs.call aN;have ah:=aN.le;obtain⟨aC,aP⟩:=cC ah aC aP
     refine ba rfl ?_
     refine aF (aV rfl rfl (hs.ret ?_))
     rw[hp,if_neg (by simp[h4])]
    ·refine aJ (b:=f.ver !=h.ver) (by simp[h4]) rfl ?_
     refine nK [.z aC,.z aP] (St.start _) rfl ?_
     refine aF ?_;apply iq;apply eF
     refine aV rfl rfl (hs.ret ?_)
     rw[hp,if_pos h4]
   ·refine aJ (b:=!((bs (fp f)).toList==(bs (fp h)).toList)) (by rw[cD,cD];simp[h3]) rfl ?_
    refine aX rfl ?_
    refine aF ?_;apply iq;apply eF
    refine aV rfl rfl (hs.ret ?_)
    unfold oa;rw[if_pos (by simp[h3])]
  ·refine aJ (b:=(lh h).2 !=0) (by simp[h2]) rfl ?_
   apply aE;apply au
   refine aJ (b:=(lh h).2 !=0) (by simp[h2]) rfl ?_
   refine aX rfl ?_
   refine aF ?_;apply iq;apply eF
   refine aV rfl rfl (hs.ret ?_)
   unfold oa;rw[if_pos (by simp[h2])]
 ·refine aJ (b:=(lh f).2 !=0) (by simp[h1]) rfl ?_
  apply aE;apply au
  refine aJ (b:=(lh f).2 !=0) (by simp[h1]) rfl ?_
  refine aX rfl ?_
  refine aF ?_;apply iq;apply eF
  refine aV rfl rfl (hs.ret ?_)
  unfold oa;rw[if_pos (by simp[h1])]
end Go.Proofs.YtebobfdheanknaaGreatDoor
namespace Go.Proofs.YtebobfdheanknaaGreatDoor
open Go Go.K
set_option maxRecDepth 10000
attribute [local irreducible] W WL cT bu bX bA bB bD cW cG
set_option maxHeartbeats 4000000
def rU:Nat→Nat
 |0=>94
 |1=>96
 |2=>97
 |3=>98
 |4=>100
 |5=>102
 |6=>103
 |7=>104
 |8=>106
 |9=>107
 |10=>109
 |_=>0
def rk:Nat→Nat
 |0=>95
 |1=>95
 |2=>95
 |3=>99
 |4=>101
 |5=>95
 |6=>95
 |7=>105
 |8=>95
 |9=>108
 |10=>95
 |_=>0
def lj:Nat→bc→Int×Int
 |3,f=>(f.waf,f.time)
 |4,f=>(f.prod,0)
 |7,f=>(f.oth,f.par)
 |9,f=>(f.rcp,f.time)
 |_,f=>(f.idn,0)
abbrev Dv(p:Int×Int):Value:=.agg #[.int .i64 p.1,.int .i64 p.2]
def vj(i:Nat):Prop:=i=0∨i=1∨i=2∨i=3∨i=4∨i=5∨i=6∨i=7∨i=8∨i=9∨i=10
theorem ku{i:Nat}(h:i<11):vj i:=by unfold vj;omega
theorem H2{i:Nat}(hi:vj i)(b:Nat)(g:G):CallsIn Wd 0 Tryz.prog (rU i) #[.pointer (some ⟨b,0,none⟩)] g.w (cR g fun _ r=>r= .pointer (some ⟨b,i,none⟩)):=by
 rcases hi with rfl|rfl|rfl|rfl|rfl|rfl|rfl|rfl|rfl|rfl|rfl
 ·have hs:=St.start g
  refine enter Tryz.func94 rfl Tryz.ntmps94 rfl ?_
  refine aX rfl ?_;refine aX rfl ?_
  exact aF (aV rfl rfl (hs.ret rfl))
 ·have hs:=St.start g
  refine enter Tryz.func96 rfl Tryz.ntmps96 rfl ?_
  refine aX rfl ?_;refine aX rfl ?_
  exact aF (aV rfl rfl (hs.ret rfl))
 ·have hs:=St.start g
  refine enter Tryz.func97 rfl Tryz.ntmps97 rfl ?_
  refine aX rfl ?_;refine aX rfl ?_
  exact aF (aV rfl rfl (hs.ret rfl))
 ·have hs:=St.start g
  refine enter Tryz.func98 rfl Tryz.ntmps98 rfl ?_
  refine aX rfl ?_;refine aX rfl ?_
  exact aF (aV rfl rfl (hs.ret rfl))
 ·have hs:=St.start g
  refine enter Tryz.func100 rfl Tryz.ntmps100 rfl ?_
  refine aX rfl ?_;refine aX rfl ?_
  exact aF (aV rfl rfl (hs.ret rfl))
 ·have hs:=St.start g
  refine enter Tryz.func102 rfl Tryz.ntmps102 rfl ?_
  refine aX rfl ?_;refine aX rfl ?_
  exact aF (aV rfl rfl (hs.ret rfl))
 ·have hs:=St.start g
  refine enter Tryz.func103 rfl Tryz.ntmps103 rfl ?_
  refine aX rfl ?_;refine aX rfl ?_
  exact aF (aV rfl rfl (hs.ret rfl))
 ·have hs:=St.start g
  refine enter Tryz.func104 rfl Tryz.ntmps104 rfl ?_
  refine aX rfl ?_;refine aX rfl ?_
  exact aF (aV rfl rfl (hs.ret rfl))
 ·have hs:=St.start g
  refine enter Tryz.func106 rfl Tryz.ntmps106 rfl ?_
  refine aX rfl ?_;refine aX rfl ?_
  exact aF (aV rfl rfl (hs.ret rfl))
 ·have hs:=St.start g
  refine enter Tryz.func107 rfl Tryz.ntmps107 rfl ?_
  refine aX rfl ?_;refine aX rfl ?_
  exact aF (aV rfl rfl (hs.ret rfl))
 ·have hs:=St.start g
  refine enter Tryz.func109 rfl Tryz.ntmps109 rfl ?_
  refine aX rfl ?_;refine aX rfl ?_
  exact aF (aV rfl rfl (hs.ret rfl))
theorem Dw{i:Nat}(hi:vj i):ag Tryz.prog (rU i):=by
 rcases hi with rfl|rfl|rfl|rfl|rfl|rfl|rfl|rfl|rfl|rfl|rfl
 ·exact P2
 ·exact P3
 ·exact P4
 ·exact P5
 ·exact K9
 ·exact K'
 ·exact La
 ·exact Lb
 ·exact Ld
 ·exact Le
 ·exact Lg
theorem oE(f:bc)(g:G):CallsIn Wd 0 Tryz.prog 95 #[fv f] g.w (cR g fun _ r=>r=Dv (f.idn,0)):=by
 have hs:=St.start g
 refine enter Tryz.func95 rfl Tryz.ntmps95 rfl ?_
 apply c_
 refine an rfl rfl (aR rfl hs rfl rfl ?_);clear hs;rintro b1 g1 hs ah;skip
 refine an rfl rfl (aK T.ok rfl hs rfl rfl ?_);clear hs;rintro b1 g1 hs ah;skip
 apply cf;refine dx 2 [.o 1] hs rfl ?_
 refine an rfl rfl (iH T.ok rfl (vs:=[(0,.int .i64 (f.idn)),(1,.int .i64 (0))]) (cells:=[.int .i64 (f.idn),.int .i64 (0)]) rfl rfl rfl rfl rfl (by kernel_rfl) ?_)
 refine bg rfl (aA T.ok 0 rfl hs rfl rfl rfl rfl rfl rfl rfl rfl rfl ?_);replace hs:=hs;rintro g1 hs ah;skip
 apply cf
 exact aF (kJ T.ok 0 rfl hs rfl rfl rfl (hs.ret rfl))
theorem MX{i:Nat}(hi:vj i)(f:bc)(g:G):CallsIn Wd 0 Tryz.prog (rk i) #[fv f] g.w (cR g fun _ r=>r=Dv (lj i f)):=by
 rcases hi with rfl|rfl|rfl|rfl|rfl|rfl|rfl|rfl|rfl|rfl|rfl
 ·exact oE f g
 ·exact oE f g
 ·exact oE f g
 ·have hs:=St.start g
  refine enter Tryz.func99 rfl Tryz.ntmps99 rfl ?_
  apply c_
  refine an rfl rfl (aR rfl hs rfl rfl ?_);clear hs;rintro b1 g1 hs ah;skip
  refine an rfl rfl (aK T.ok rfl hs rfl rfl ?_);clear hs;rintro b1 g1 hs ah;skip
  apply cf;refine dx 4 [.o 1,.o 1] hs rfl ?_
  refine an rfl rfl (iH T.ok rfl (vs:=[(0,.int .i64 (f.waf)),(1,.int .i64 (f.time))]) (cells:=[.int .i64 (f.waf),.int .i64 (f.time)]) rfl rfl rfl rfl rfl (by kernel_rfl) ?_)
  refine bg rfl (aA T.ok 0 rfl hs rfl rfl rfl rfl rfl rfl rfl rfl rfl ?_);replace hs:=hs;rintro g1 hs ah;skip
  apply cf
  exact aF (kJ T.ok 0 rfl hs rfl rfl rfl (hs.ret rfl))
 ·have hs:=St.start g
  refine enter Tryz.func101 rfl Tryz.ntmps101 rfl ?_
  apply c_
  refine an rfl rfl (aR rfl hs rfl rfl ?_);clear hs;rintro b1 g1 hs ah;skip
  refine an rfl rfl (aK T.ok rfl hs rfl rfl ?_);clear hs;rintro b1 g1 hs ah;skip
  apply cf;refine dx 2 [.o 1] hs rfl ?_
  refine an rfl rfl (iH T.ok rfl (vs:=[(0,.int .i64 (f.prod)),(1,.int .i64 (0))]) (cells:=[.int .i64 (f.prod),.int .i64 (0)]) rfl rfl rfl rfl rfl (by kernel_rfl) ?_)
  refine bg rfl (aA T.ok 0 rfl hs rfl rfl rfl rfl rfl rfl rfl rfl rfl ?_);replace hs:=hs;rintro g1 hs ah;skip
  apply cf
  exact aF (kJ T.ok 0 rfl hs rfl rfl rfl (hs.ret rfl))
 ·exact oE f g
 ·exact oE f g
 ·have hs:=St.start g
  refine enter Tryz.func105 rfl Tryz.ntmps105 rfl ?_
  apply c_
  refine an rfl rfl (aR rfl hs rfl rfl ?_);clear hs;rintro b1 g1 hs ah;skip
  refine an rfl rfl (aK T.ok rfl hs rfl rfl ?_);clear hs;rintro b1 g1 hs ah;skip
  apply cf;refine dx 4 [.o 1,.o 1] hs rfl ?_
  refine an rfl rfl (iH T.ok rfl (vs:=[(0,.int .i64 (f.oth)),(1,.int .i64 (f.par))]) (cells:=[.int .i64 (f.oth),.int .i64 (f.par)]) rfl rfl rfl rfl rfl (by kernel_rfl) ?_)
  refine bg rfl (aA T.ok 0 rfl hs rfl rfl rfl rfl rfl rfl rfl rfl rfl ?_);replace hs:=hs;rintro g1 hs ah;skip
  apply cf
  exact aF (kJ T.ok 0 rfl hs rfl rfl rfl (hs.ret rfl))
 ·exact oE f g
 ·have hs:=St.start g
  refine enter Tryz.func108 rfl Tryz.ntmps108 rfl ?_
  apply c_
  refine an rfl rfl (aR rfl hs rfl rfl ?_);clear hs;rintro b1 g1 hs ah;skip
  refine an rfl rfl (aK T.ok rfl hs rfl rfl ?_);clear hs;rintro b1 g1 hs ah;skip
  apply cf;refine dx 4 [.o 1,.o 1] hs rfl ?_
  refine an rfl rfl (iH T.ok rfl (vs:=[(0,.int .i64 (f.rcp)),(1,.int .i64 (f.time))]) (cells:=[.int .i64 (f.rcp),.int .i64 (f.time)]) rfl rfl rfl rfl rfl (by kernel_rfl) ?_)
  refine bg rfl (aA T.ok 0 rfl hs rfl rfl rfl rfl rfl rfl rfl rfl rfl ?_);replace hs:=hs;rintro g1 hs ah;skip
  apply cf
  exact aF (kJ T.ok 0 rfl hs rfl rfl rfl (hs.ret rfl))
 ·exact oE f g
theorem I5{i:Nat}(hi:vj i):ag Tryz.prog (rk i):=by
 rcases hi with rfl|rfl|rfl|rfl|rfl|rfl|rfl|rfl|rfl|rfl|rfl
 ·exact zv
 ·exact zv
 ·exact zv
 ·exact P6
 ·exact K_
 ·exact zv
 ·exact zv
 ·exact Lc
 ·exact zv
 ·exact Lf
 ·exact zv
def pv(i:Nat):Value:=.agg #[.func (.func (rU i)) #[] #[],.func (.func (rk i)) #[] #[]]
def kx:List (Int×Value):=[(1,pv 0),(2,pv 1),(3,pv 2),(4,pv 3),(5,pv 4),(6,pv 5),(7,pv 6),(8,pv 7),(9,pv 8),(10,pv 9),(11,pv 10)]
theorem BU{k:Int}(h1:1≤k)(h2:k≤11):ij k kx=some (pv (k-1).toNat):=by
 have:k=1∨k=2∨k=3∨k=4∨k=5∨k=6∨k=7∨k=8∨k=9∨k=10∨k=11:=by omega
 rcases this with rfl|rfl|rfl|rfl|rfl|rfl|rfl|rfl|rfl|rfl|rfl<;>rfl
theorem F_(g:G):CallsIn Wd 0 Tryz.prog 42 #[] g.w (cR g fun g' r=> ∃b,r= .map (some b)∧g'.im b∧g'.w.heap[b]? =some (et kx)):=by
 have hs:=St.start g
 have hT:qJ Int Tryz.prog 82 _:=zw T.ok rfl rfl rfl rfl rfl
 refine enter Tryz.func42 rfl Tryz.ntmps42 rfl ?_
 refine aX rfl ?_;apply c_
 refine an rfl rfl (jH (κ:=Int) rfl hs ?_)
 clear hs;intro bm g1 hs ah
 refine an rfl rfl (aQ T.ok rfl (vs:=[(0,.func (.func (rU 0)) #[] #[]),(1,.func (.func (rk 0)) #[] #[])]) (cells:=[.func (.func (rU 0)) #[] #[],.func (.func (rk 0)) #[] #[]]) rfl rfl rfl rfl [(0,1),(1,1)] rfl (by kernel_rfl) ?_)
 refine bg rfl (dC (κ:=Int) hT 0 (.inr rfl) hs rfl rfl (a:=1) rfl rfl ?_)
 clear hs;intro g1 hs ah
 refine an rfl rfl (aQ T.ok rfl (vs:=[(0,.func (.func (rU 1)) #[] #[]),(1,.func (.func (rk 1)) #[] #[])]) (cells:=[.func (.func (rU 1)) #[] #[],.func (.func (rk 1)) #[] #[]]) rfl rfl rfl rfl [(0,1),(1,1)] rfl (by kernel_rfl) ?_)
 refine bg rfl (dC (κ:=Int) hT 0 (.inr rfl) hs rfl rfl (a:=2) rfl rfl ?_)
 clear hs;intro g1 hs ah
 refine an rfl rfl (aQ T.ok rfl (vs:=[(0,.func (.func (rU 2)) #[] #[]),(1,.func (.func (rk 2)) #[] #[])]) (cells:=[.func (.func (rU 2)) #[] #[],.func (.func (rk 2)) #[] #[]]) rfl rfl rfl rfl [(0,1),(1,1)] rfl (by kernel_rfl) ?_)
 refine bg rfl (dC (κ:=Int) hT 0 (.inr rfl) hs rfl rfl (a:=3) rfl rfl ?_)
 clear hs;intro g1 hs ah
 refine an rfl rfl (aQ T.ok rfl (vs:=[(0,.func (.func (rU 3)) #[] #[]),(1,.func (.func (rk 3)) #[] #[])]) (cells:=[.func (.func (rU 3)) #[] #[],.func (.func (rk 3)) #[] #[]]) rfl rfl rfl rfl [(0,1),(1,1)] rfl (by kernel_rfl) ?_)
 refine bg rfl (dC (κ:=Int) hT 0 (.inr rfl) hs rfl rfl (a:=4) rfl rfl ?_)
 clear hs;intro g1 hs ah
 refine an rfl rfl (aQ T.ok rfl (vs:=[(0,.func (.func (rU 4)) #[] #[]),(1,.func (.func (rk 4)) #[] #[])]) (cells:=[.func (.func (rU 4)) #[] #[],.func (.func (rk 4)) #[] #[]]) rfl rfl rfl rfl [(0,1),(1,1)] rfl (by kernel_rfl) ?_)
 refine bg rfl (dC (κ:=Int) hT 0 (.inr rfl) hs rfl rfl (a:=5) rfl rfl ?_)
 clear hs;intro g1 hs ah
 refine an rfl rfl (aQ T.ok rfl (vs:=[(0,.func (.func (rU 5)) #[] #[]),(1,.func (.func (rk 5)) #[] #[])]) (cells:=[.func (.func (rU 5)) #[] #[],.func (.func (rk 5)) #[] #[]]) rfl rfl rfl rfl [(0,1),(1,1)] rfl (by kernel_rfl) ?_)
 refine bg rfl (dC (κ:=Int) hT 0 (.inr rfl) hs rfl rfl (a:=6) rfl rfl ?_)
 clear hs;intro g1 hs ah
 refine an rfl rfl (aQ T.ok rfl (vs:=[(0,.func (.func (rU 6)) #[] #[]),(1,.func (.func (rk 6)) #[] #[])]) (cells:=[.func (.func (rU 6)) #[] #[],.func (.func (rk 6)) #[] #[]]) rfl rfl rfl rfl [(0,1),(1,1)] rfl (by kernel_rfl) ?_)
 refine bg rfl (dC (κ:=Int) hT 0 (.inr rfl) hs rfl rfl (a:=7) rfl rfl ?_)
 clear hs;intro g1 hs ah
 refine an rfl rfl (aQ T.ok rfl (vs:=[(0,.func (.func (rU 7)) #[] #[]),(1,.func (.func (rk 7)) #[] #[])]) (cells:=[.func (.func (rU 7)) #[] #[],.func (.func (rk 7)) #[] #[]]) rfl rfl rfl rfl [(0,1),(1,1)] rfl (by kernel_rfl) ?_)
 refine bg rfl (dC (κ:=Int) hT 0 (.inr rfl) hs rfl rfl (a:=8) rfl rfl ?_)
 clear hs;intro g1 hs ah
 refine an rfl rfl (aQ T.ok rfl (vs:=[(0,.func (.func (rU 8)) #[] #[]),(1,.func (.func (rk 8)) #[] #[])]) (cells:=[.func (.func (rU 8)) #[] #[],.func (.func (rk 8)) #[] #[]]) rfl rfl rfl rfl [(0,1),(1,1)] rfl (by kernel_rfl) ?_)
 refine bg rfl (dC (κ:=Int) hT 0 (.inr rfl) hs rfl rfl (a:=9) rfl rfl ?_)
 clear hs;intro g1 hs ah
 refine an rfl rfl (aQ T.ok rfl (vs:=[(0,.func (.func (rU 9)) #[] #[]),(1,.func (.func (rk 9)) #[] #[])]) (cells:=[.func (.func (rU 9)) #[] #[],.func (.func (rk 9)) #[] #[]]) rfl rfl rfl rfl [(0,1),(1,1)] rfl (by kernel_rfl) ?_)
 refine bg rfl (dC (κ:=Int) hT 0 (.inr rfl) hs rfl rfl (a:=10) rfl rfl ?_)
 clear hs;intro g1 hs ah
 refine an rfl rfl (aQ T.ok rfl (vs:=[(0,.func (.func (rU 10)) #[] #[]),(1,.func (.func (rk 10)) #[] #[])]) (cells:=[.func (.func (rU 10)) #[] #[],.func (.func (rk 10)) #[] #[]]) rfl rfl rfl rfl [(0,1),(1,1)] rfl (by kernel_rfl) ?_)
 refine bg rfl (dC (κ:=Int) hT 0 (.inr rfl) hs rfl rfl (a:=11) rfl rfl ?_)
 clear hs;intro g1 hs ah
 refine ba rfl ?_
 have aU:=hs.fz (i:=0) rfl
 have hh:=(hs.own 0 _ rfl).2.1
 refine aF (aV rfl rfl (aU.ret ⟨bm,rfl,.inr rfl,hh⟩))
end Go.Proofs.YtebobfdheanknaaGreatDoor
namespace Go.Proofs.YtebobfdheanknaaGreatDoor
variable {α:Type}
def kl(k:α→Int×Int)(x y:α):Bool:=decide ((k x).1<(k y).1∨((k x).1=(k y).1∧(k x).2<(k y).2))
variable {k:α→Int×Int}
theorem qt{x y:α}:kl k x y=true↔(k x).1<(k y).1∨((k x).1=(k y).1∧(k x).2<(k y).2):=by unfold kl;simp
theorem iC{x y:α}:kl k x y=false↔ ¬((k x).1<(k y).1∨((k x).1=(k y).1∧(k x).2<(k y).2)):=by unfold kl;simp
theorem C8{x y z:α}(h1:kl k x y=true)(h2:kl k y z=true):kl k x z=true:=by rw[qt]at*;omega
theorem qu{x y z:α}(h1:kl k x y=false)(h2:kl k y z=false):kl k x z=false:=by rw[iC]at*;omega
def C9(k:α→Int×Int)(x:α)(f:List α→List α)(xl:List α):List α→List α
 |[]=>xl
 |y::r=>if kl k y x=true then y::C9 k x f xl r else x::f (y::r)
def lE(k:α→Int×Int):List α→List α→List α
 |[],r=>r
 |x::l,r=>C9 k x (lE k l) (x::l) r
theorem gC(l:List α):lE k l []=l:=by cases l<;>rfl
theorem dQ(x y:α)(l r:List α):lE k (x::l) (y::r)=if kl k y x=true then y::lE k (x::l) r else x::lE k l (y::r):=rfl
theorem BP: ∀(n:Nat) (a b c:List α),a.length+b.length+c.length=n→lE k (lE k a b) c=lE k a (lE k b c):=by
 intro n
 induction n using Nat.strongRecOn with
 |_ n ih=>
  intro a b c hn
  match a,b,c with
  |[],b,c=>rfl
  |x::a,[],c=>rw[gC];rfl
  |x::a,y::b,[]=>rw[gC,gC]
  |x::a,y::b,z::c=>
   simp only[List.length_cons]at hn
   rw[dQ x y,dQ y z]
   by_cases h1:kl k y x=true
   ·rw[if_pos h1]
    by_cases h2:kl k z y=true
    ·rw[if_pos h2,dQ,if_pos h2,dQ,if_pos (C8 h2 h1)]
     congr 1
     have e:y::lE k (x::a) b=lE k (x::a) (y::b):=by rw[dQ,if_pos h1]
     rw[e]
     exact ih (n-1) (by omega) (x::a) (y::b) c (by simp only[List.length_cons];omega)
    ·rw[if_neg h2,dQ,if_neg h2,dQ,if_pos h1]
     congr 1
     exact ih (n-1) (by omega) (x::a) b (z::c) (by simp only[List.length_cons];omega)
   ·rw[if_neg h1]
    by_cases h2:kl k z y=true
    ·rw[if_pos h2,dQ,dQ]
     by_cases h3:kl k z x=true
     ·rw[if_pos h3,if_pos h3]
      congr 1
      have e:x::lE k a (y::b)=lE k (x::a) (y::b):=by rw[dQ,if_neg h1]
      rw[e]
      exact ih (n-1) (by omega) (x::a) (y::b) c (by simp only[List.length_cons];omega)
     ·rw[if_neg h3,if_neg h3]
      congr 1
      have e:z::lE k (y::b) c=lE k (y::b) (z::c):=by rw[dQ,if_pos h2]
      rw[e]
      exact ih (n-1) (by omega) a (y::b) (z::c) (by simp only[List.length_cons];omega)
    ·have h3: ¬kl k z x=true:=by
      have:=qu (Bool.eq_false_iff.2 h2) (Bool.eq_false_iff.2 h1)
      rw[this];simp
     rw[if_neg h2,dQ,if_neg h3,dQ,if_neg h1]
     congr 1
     have e:y::lE k b (z::c)=lE k (y::b) (z::c):=by rw[dQ,if_neg h2]
     rw[e]
     exact ih (n-1) (by omega) a (y::b) (z::c) (by simp only[List.length_cons];omega)
theorem gQ: ∀(a1 b1:List α) {a2 b2:List α},(∀x∈a1,∀y∈b2,kl k y x=false)→(∀y∈b1,∀x∈a2,kl k y x=true)→lE k (a1++a2) (b1++b2)=lE k a1 b1++lE k a2 b2
 |[],[],_,_,_,_=>rfl
 |[],y::b1,a2,b2,h1,h2=>by
  have ih:=gQ [] b1 (a2:=a2) (b2:=b2) (by simp) (fun z hz=>h2 z (List.mem_cons_of_mem _ hz))
  cases a2 with
  |nil=>rfl
  |cons x a2=>
   simp only[List.nil_append,List.cons_append]at ih⊢
   rw[dQ,if_pos (h2 y (List.mem_cons_self ..) x (List.mem_cons_self ..)),ih];rfl
 |x::a1,[],a2,b2,h1,h2=>by
  have ih:=gQ a1 [] (a2:=a2) (b2:=b2) (fun z hz=>h1 z (List.mem_cons_of_mem _ hz)) (by simp)
  rw[gC]at ih⊢
  cases b2 with
  |nil=>rw[List.append_nil,gC,gC]
  |cons y b2=>
   simp only[List.nil_append,List.cons_append]at ih⊢
   rw[dQ,if_neg (by rw[h1 x (List.mem_cons_self ..) y (List.mem_cons_self ..)];simp),ih]
 |x::a1,y::b1,a2,b2,h1,h2=>by
  have Se:=gQ (x::a1) b1 (a2:=a2) (b2:=b2) h1 (fun z hz=>h2 z (List.mem_cons_of_mem _ hz))
  have Sf:=gQ a1 (y::b1) (a2:=a2) (b2:=b2) (fun z hz=>h1 z (List.mem_cons_of_mem _ hz)) h2
  simp only[List.cons_append]at Se Sf⊢
  rw[dQ,dQ]
  split
  ·rw[Se];rfl
  ·rw[Sf];rfl
def dK(k:α→Int×Int):List α→List α
 |[]=>[]
 |x::l=>lE k [x] (dK k l)
theorem pb: ∀(l r:List α),dK k (l++r)=lE k (dK k l) (dK k r)
 |[],r=>rfl
 |x::l,r=>by
  show lE k [x] (dK k (l++r))=lE k (lE k [x] (dK k l)) (dK k r)
  rw[pb l r,BP _ _ _ _ rfl]
theorem mP: ∀(l r:List α),(lE k l r).Perm (l++r)
 |[],r=>List.Perm.refl _
 |x::l,r=>by
  have aux: ∀r:List α,(lE k (x::l) r).Perm (x::l++r):=by
   intro r
   induction r with
   |nil=>rw[gC,List.append_nil]
   |cons y r ih=>
    rw[dQ]
    split
    ·exact(ih.cons y).trans List.perm_middle.symm
    ·exact((mP l (y::r)).cons x)
  exact aux r
theorem iM: ∀l:List α,(dK k l).Perm l
 |[]=>List.Perm.refl _
 |x::l=>(mP [x] (dK k l)).trans ((iM l).cons x)
def zj(k:α→Int×Int)(l:List α):Prop:=l.Pairwise fun x y=>kl k y x=false
theorem AJ: ∀(l r:List α),zj k l→zj k r→zj k (lE k l r)
 |[],r,_,h=>h
 |x::l,r,hl,hr=>by
  have aux: ∀r:List α,zj k r→zj k (lE k (x::l) r):=by
   intro r
   induction r with
   |nil=>intro _;rw[gC];exact hl
   |cons y r ih=>
    intro hr
    rw[dQ]
    have CV:=List.pairwise_cons.1 hl
    have HA:=List.pairwise_cons.1 hr
    split
    ·rename_i h
     refine List.pairwise_cons.2 ⟨fun z hz=> ?_,ih HA.2⟩
     have hz:=(mP (x::l) r).mem_iff.1 hz
     simp only[List.cons_append,List.mem_cons,List.mem_append]at hz
     rcases hz with rfl|hz|hz
     ·rw[qt]at h;rw[iC];omega
     ·have:=CV.1 z hz;rw[qt]at h;rw[iC]at this⊢;omega
     ·exact HA.1 z hz
    ·rename_i h
     have h:=Bool.eq_false_iff.2 h
     refine List.pairwise_cons.2 ⟨fun z hz=> ?_,AJ l (y::r) CV.2 hr⟩
     have hz:=(mP l (y::r)).mem_iff.1 hz
     simp only[List.mem_append,List.mem_cons]at hz
     rcases hz with hz|rfl|hz
     ·exact CV.1 z hz
     ·exact h
     ·exact qu (HA.1 z hz) h
  exact aux r hr
theorem jG: ∀l:List α,zj k (dK k l)
 |[]=>List.Pairwise.nil
 |x::l=>AJ [x] _ (List.pairwise_singleton _ _) (jG l)
theorem ox: ∀{l r:List α},l.Perm r→zj k l→zj k r→(∀x∈l,∀y∈l,k x=k y→x=y)→l=r
 |[],r,hp,_,_,_=>(List.nil_perm.1 hp).symm
 |x::l,[],hp,_,_,_=>(List.Perm.nil_eq hp.symm).symm
 |x::l,y::r,hp,hl,hr,hd=>by
  have CV:=List.pairwise_cons.1 hl
  have HA:=List.pairwise_cons.1 hr
  have Kl:x=y:=by
   have hx:=hp.mem_iff.1 (List.mem_cons_self (a:=x) (l:=l))
   have hy:=hp.mem_iff.2 (List.mem_cons_self (a:=y) (l:=r))
   rcases List.mem_cons.1 hx with h|h
   ·exact h
   rcases List.mem_cons.1 hy with h2|h2
   ·exact h2.symm
   have e1:=HA.1 x h
   have e2:=CV.1 y h2
   refine hd x (List.mem_cons_self ..) y (List.mem_cons_of_mem _ h2) (Prod.ext ?_ ?_)<;>(rw[iC]at e1 e2;omega)
  subst Kl
  rw[ox (hp.cons_inv) CV.2 HA.2 fun a ha b hb=>hd a (List.mem_cons_of_mem _ ha) b (List.mem_cons_of_mem _ hb)]
end Go.Proofs.YtebobfdheanknaaGreatDoor
namespace Go.Proofs.YtebobfdheanknaaGreatDoor
open Go Go.K
set_option maxRecDepth 10000
attribute [local irreducible] W WL cT bu bX bA bB bD cW cG
abbrev KF:=List (List UInt8×bc)
def zt(a:List UInt8):KF→Option bc
 |[]=>none
 |(k,v)::r=>if a=k then some v else zt a r
def mE(a:List UInt8)(x:bc):KF→KF
 |[]=>[(a,x)]
 |(k,v)::r=>if a=k then(k,x)::r else(k,v)::mE a x r
def cq(m:KF):List (List UInt8×Value):=m.map fun p=>(p.1,fv p.2)
theorem AK(a:List UInt8): ∀m:KF,ij a (cq m)=(zt a m).map fv
 |[]=>rfl
 |(k,v)::r=>by
  show(if a=k then some (fv v)else ij a (cq r))=(if a=k then some v else zt a r).map fv
  split
  ·rfl
  ·exact AK a r
theorem wg(a:List UInt8)(x:bc): ∀m:KF,iX a (fv x) (cq m)=cq (mE a x m)
 |[]=>rfl
 |(k,v)::r=>by
  show(if a=k then(k,fv x)::cq r else(k,fv v)::iX a (fv x) (cq r))=cq (if a=k then(k,x)::r else(k,v)::mE a x r)
  split
  ·rfl
  ·rw[wg a x r];rfl
theorem F0(m:KF):(cq m).length=m.length:=List.length_map ..
theorem IM{m:KF}{j:Nat}{q:List UInt8×Value}(h:(cq m)[j]? =some q): ∃p,m[j]? =some p∧q=(p.1,fv p.2):=by
 unfold cq at h
 rw[List.getElem?_map]at h
 cases hm:m[j]? with
 |none=>rw[hm]at h;cases h
 |some p=>rw[hm]at h;exact⟨p,rfl,(Option.some.inj h).symm⟩
def iD(day:Int)(m:KF)(f:bc):KF:=
 if fp f=[]∨day<f.day then m
 else if(match zt (fp f) m with|none=>true|some o=>oa f o)=true then mE (fp f) f m else m
def jU(day:Int)(l:List bc):KF:=l.foldl (iD day) []
def gH(m:KF)(i:Nat):List bc:=(m.filter fun p=> !p.2.gone&&decide (p.2.kind=(i:Int)+1)).map (·.2)
def ofM(l:List bc)(day:Int):fX:=⟨fun i=>dK (lj i) (gH (jU day l) i)⟩
theorem va{a:List UInt8}{x:bc}: ∀{m:KF} (k:List UInt8),k∈(mE a x m).map (·.1)→k=a∨k∈m.map (·.1)
 |[],k,h=>by simp[mE]at h;exact .inl h
 |(b,v)::r,k,h=>by
  unfold mE at h
  split at h
  ·exact .inr (by simpa using h)
  ·simp only[List.map_cons,List.mem_cons]at h⊢
   rcases h with h|h
   ·exact .inr (.inl h)
   ·rcases va k h with h|h
    ·exact .inl h
    ·exact .inr (.inr h)
theorem sF{a:List UInt8}{x:bc}: ∀{m:KF},(m.map (·.1)).Nodup→((mE a x m).map (·.1)).Nodup
 |[],_=>by simp[mE]
 |(b,v)::r,h=>by
  unfold mE
  split
  ·simpa using h
  ·rename_i fu
   simp only[List.map_cons,List.nodup_cons]at h⊢
   refine⟨fun hb=> ?_,sF h.2⟩
   rcases va b hb with e|e
   ·exact fu e.symm
   ·exact h.1 e
theorem xH{a:List UInt8}{x:bc}: ∀{m:KF} {p},p∈mE a x m→p=(a,x)∨p∈m
 |[],p,h=>by simp[mE]at h;exact .inl h
 |(b,v)::r,p,h=>by
  unfold mE at h
  split at h
  ·rename_i e
   rcases List.mem_cons.1 h with h|h
   ·subst e;exact .inl h
   ·exact .inr (List.mem_cons_of_mem _ h)
  ·rcases List.mem_cons.1 h with h|h
   ·exact .inr (h▸List.mem_cons_self ..)
   ·rcases xH h with h|h
    ·exact .inl h
    ·exact .inr (List.mem_cons_of_mem _ h)
theorem xI{a:List UInt8}{x:bc}: ∀m:KF,(mE a x m).length≤m.length+1
 |[]=>Nat.le_refl _
 |(b,v)::r=>by
  unfold mE
  split
  ·simp
  ·simp only[List.length_cons];have:=xI (a:=a) (x:=x) r;omega
def FF(m:KF):Prop:=(m.map (·.1)).Nodup∧ ∀p∈m,p.1=fp p.2∧p.1≠[]
theorem FF.put{m:KF}{f:bc}(h:FF m)(hk:fp f≠[]):FF (mE (fp f) f m):=
 ⟨sF h.1,fun p hp=>(xH hp).elim (fun e=>by subst e;exact⟨rfl,hk⟩) (h.2 p)⟩
theorem AL(day:Int)(m:KF)(f:bc):iD day m f=m∨(fp f≠[]∧iD day m f=mE (fp f) f m):=by
 unfold iD
 by_cases hc:fp f=[]∨day<f.day
 ·exact .inl (if_pos hc)
 ·rw[if_neg hc]
  generalize(match zt (fp f) m with|none=>true|some o=>oa f o)=b
  cases b
  ·exact .inl rfl
  ·exact .inr ⟨fun e=>hc (.inl e),rfl⟩
theorem FF.step{day:Int}{m:KF}{f:bc}(h:FF m):FF (iD day m f):=by
 rcases AL day m f with e|⟨hk,e⟩<;>rw[e]
 ·exact h
 ·exact h.put hk
theorem C_(day:Int)(l:List bc)(f:bc):jU day (l++[f])=iD day (jU day l) f:=by
 unfold jU;rw[List.foldl_append];rfl
theorem xJ{P:KF→List bc→Prop}{day:Int}(h0:P [] [])(h1: ∀m l f,P m l→P (iD day m f) (l++[f]))(l:List bc):P (jU day l) l:=by
 unfold jU
 suffices h: ∀(l2 l1:List bc) m,P m l1→P (l2.foldl (iD day) m) (l1++l2) by simpa using h l [] [] h0
 intro l2
 induction l2 with
 |nil=>intro l1 m h;simpa using h
 |cons f l2 ih=>intro l1 m h;have:=ih (l1++[f]) _ (h1 m l1 f h);simpa using this
theorem AM(day:Int)(l:List bc):FF (jU day l):=xJ (P:=fun m _=>FF m) ⟨by simp,by simp⟩ (fun m l f h=>h.step) l
theorem xK(day:Int)(l:List bc):(jU day l).length≤l.length:=
 xJ (P:=fun m l=>m.length≤l.length) (Nat.le_refl _) (fun m l f h=>by
  have:=xI (a:=fp f) (x:=f) m
  rw[List.length_append,List.length_singleton]
  rcases AL day m f with e|⟨_,e⟩<;>rw[e]<;>omega) l
theorem PA{f h:bc}(hf:fp f≠[])(hh:fp h≠[])(hk:f.kind=h.kind)(ho:lj (f.kind-1).toNat f=lj (f.kind-1).toNat h):fp f=fp h:=by
 have v1:fm f=true:=by cases e:fm f with|true=>rfl|false=>exact absurd (by unfold fp;rw[e];rfl) hf
 have v2:fm h=true:=by cases e:fm h with|true=>rfl|false=>exact absurd (by unfold fp;rw[e];rfl) hh
 obtain⟨s,hs,_⟩:=kQ v1
 obtain⟨_,_,_,_,_,_,h1,h2⟩:=mO hs
 unfold fp
 rw[v1,v2,if_pos rfl,if_pos rfl,←hk]
 congr 1
 have:f.kind=1∨f.kind=2∨f.kind=3∨f.kind=4∨f.kind=5∨f.kind=6∨f.kind=7∨f.kind=8∨f.kind=9∨f.kind=10∨f.kind=11:=by omega
 rcases this with e|e|e|e|e|e|e|e|e|e|e<;>rw[e]at ho⊢ <;>(
  simp only[lj,Prod.mk.injEq,show((1:Int)-1).toNat=0 from rfl,show((2:Int)-1).toNat=1 from rfl,show((3:Int)-1).toNat=2 from rfl,show((4:Int)-1).toNat=3 from rfl,show((5:Int)-1).toNat=4 from rfl,show((6:Int)-1).toNat=5 from rfl,show((7:Int)-1).toNat=6 from rfl,show((8:Int)-1).toNat=7 from rfl,show((9:Int)-1).toNat=8 from rfl,show((10:Int)-1).toNat=9 from rfl,show((11:Int)-1).toNat=10 from rfl]at ho
  simp[dM,lU,sD,lT,eD,ez,qq,bc.num,ho.1,ho.2])
theorem sG{m:KF}{i:Nat}{f:bc}(h:f∈gH m i): ∃k,(k,f)∈m∧f.kind=(i:Int)+1:=by
 unfold gH at h
 obtain⟨p,hp,rfl⟩:=List.mem_map.1 h
 obtain⟨h1,h2⟩:=List.mem_filter.1 hp
 simp only[Bool.and_eq_true,decide_eq_true_eq]at h2
 exact⟨p.1,h1,h2.2⟩
theorem Da{m:KF}(hm:FF m){i:Nat}{f h:bc}(hf:f∈gH m i)(hh:h∈gH m i)(ho:lj i f=lj i h):f=h:=by
 obtain⟨k1,m1,e1⟩:=sG hf
 obtain⟨k2,m2,e2⟩:=sG hh
 obtain⟨a1,b1⟩:=hm.2 _ m1
 obtain⟨a2,b2⟩:=hm.2 _ m2
 simp only at a1 b1 a2 b2
 subst a1;subst a2
 have hi:(f.kind-1).toNat=i:=by omega
 have e:=PA b1 b2 (by omega) (by rw[hi];exact ho)
 have AN:=hm.1
 obtain⟨x,hx,ex⟩:=List.mem_iff_getElem.1 m1
 obtain⟨y,hy,ey⟩:=List.mem_iff_getElem.1 m2
 have Kl:x=y:=(List.getElem_inj (xs:=m.map (·.1)) (i:=x) (j:=y) (h₀:=by simpa using hx) (h₁:=by simpa using hy) AN).1 (by simp only[List.getElem_map];rw[ex,ey];exact e)
 subst Kl
 rw[ex]at ey
 exact congrArg Prod.snd ey
theorem zu{m:KF}(hm:FF m){i:Nat}{ys:List bc}(hp:ys.Perm (gH m i)):dK (lj i) ys=dK (lj i) (gH m i):=by
 refine ox (((iM ys).trans hp).trans (iM _).symm) (jG _) (jG _) fun x hx y hy h=> ?_
 exact Da hm (hp.mem_iff.1 ((iM ys).mem_iff.1 hx)) (hp.mem_iff.1 ((iM ys).mem_iff.1 hy)) h
def qw{α:Type}(m:List α)(js:List Nat):List α:=js.filterMap fun j=>m[j]?
theorem sH{α:Type}{m:List α}{js:List Nat}{j:Nat}{p:α}(h:m[j]? =some p):qw m (js++[j])=qw m js++[p]:=by
 unfold qw;rw[List.filterMap_append];simp[h]
theorem Db(m r:KF)(i:Nat):gH (m++r) i=gH m i++gH r i:=by unfold gH;rw[List.filter_append,List.map_append]
theorem BQ{m r:KF}(h:m.Perm r)(i:Nat):(gH m i).Perm (gH r i):=(h.filter _).map _
theorem sI(m:KF)(i:Nat):(gH m i).length≤m.length:=by unfold gH;rw[List.length_map];exact List.length_filter_le ..
theorem BR{α:Type}(m:List α):qw m (List.range m.length)=m:=by
 unfold qw
 induction m with
 |nil=>rfl
 |cons p m ih=>
  rw[List.length_cons,List.range_succ_eq_map,List.filterMap_cons]
  simp only[List.getElem?_cons_zero]
  rw[List.filterMap_map]
  congr 1
theorem AO{α:Type}{m:List α}{js:List Nat}(hn:js.Nodup)(h1: ∀j∈js,j<m.length)(h2: ∀j,j<m.length→j∈js):(qw m js).Perm m:=by
 have hp:js.Perm (List.range m.length):=(List.perm_ext_iff_of_nodup hn List.nodup_range).2 fun a=>by rw[List.mem_range];exact⟨h1 a,h2 a⟩
 have:=hp.filterMap (fun j=>m[j]?)
 rw[show(List.range m.length).filterMap (fun j=>m[j]?)=m from BR m]at this
 exact this
theorem wh{α:Type}(m:List α)(js:List Nat):(qw m js).length≤js.length:=List.length_filterMap_le ..
end Go.Proofs.YtebobfdheanknaaGreatDoor
