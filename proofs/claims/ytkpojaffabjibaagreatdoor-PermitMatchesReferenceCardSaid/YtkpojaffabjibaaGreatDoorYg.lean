/- Parts of the proof, from: The walk through fact.Encode. -/
import Derived.Test.YtkpojaffabjibaaGreatDoorYf
namespace Go.Proofs.YtkpojaffabjibaaGreatDoor
open Go Go.K Tryz
attribute [local irreducible] W WL cQ aP bG aR aQ aS cK ct
set_option maxRecDepth 10000
set_option maxHeartbeats 8000000
theorem Dq(f:bc)(g:G):cN prog 59 #[fv f] g fun _ r=>r= .tuple #[.string (bs (og f).1),vI (og f).2]:=by
 have hs:=St.start g;have aj:=G.le.refl g;refine enter func59 rfl ntmps59 rfl<|cO<|gF hs rfl fun bf g2 hs ag aq=>aF rfl<|ak<|eO 1 [.z aq] rfl<|jN rfl (Dk f _) hs fun g1 hs ag=>?_;replace aq:=aq.mono ag;refine aF rfl ?_;cases hv:gD f with
 |false=>
  refine bZ rfl<|aD rfl<|au<|ec<|uv rfl rfl rfl<|hs.ret ?_;unfold og;rw[hv];rfl
 |true=>
  refine bI rfl ?_;obtain⟨s,qL,VS,Ym,J_,VU,Yn,ZF,hd2,htx,_⟩:=nS hv;obtain⟨_,_,_,oO,C9,qn,JG,VT⟩:=qx qL;refine ar<|ai<|ak ?_;apply oU (.f Nk::(eA (.f (HW (eD f.kind) id)::(.f Fact.any:: .f Fact.any::[])))) 6 [(4,4)] [4,5] [[],[4]] (EY g [] 115 J5 (tz (eD f.kind)) 4 5) (Dl tz.mono) (OZ hs.dr) (by kernel_rfl) ⟨AU,rQ _ _,dw,dw,trivial⟩
  ·refine bA (cW (js:=[]) (by kernel_rfl) rfl fun _ g2 _ _ _ _=>bh (ay rfl (bu (cB 57) bJ rfl rfl rfl rfl rfl (yG g2) fun g' v hf ⟨b,cP,e,h1,h2⟩=>⟨g',rfl,hf,b,cP,e,h1,h2⟩)))<|Um [[],[1]] [.z aq] (by kernel_rfl) rfl<|bA (cW (js:=[(0,11),(2,13)]) (by kernel_rfl) rfl fun _ g2 _ _ _ _=>db fun v0 h0=>c_ rfl (bh ?_)) ?_
   ·obtain⟨b,cP,rfl,h1,h2⟩:=h0;exact ay rfl (B3 rfl h1 h2 rfl rfl fun cs h=>⟨g2,rfl,bW.refl _,cs,rfl,h⟩)
   refine bA (jW (js:=[]) (by kernel_rfl) rfl fun ρ g2 h1 _ h3 _ hJ=>bh ⟨rfl,AV rfl h3 (h1 1 [4] 5 rfl rfl (by simp)) hJ rfl rfl rfl⟩)<|bA (jW (js:=[(4,4),(3,14),(3,14),(4,4)]) (by kernel_rfl) rfl fun ρ g2 _ _ h3 _ hJ=>db fun _ _=>db fun _ _=>db fun v5 h5=>gT rfl fun v7 _ r7=>bh ⟨rfl,?_⟩) ?_
   ·obtain⟨cs,rfl,h⟩:=h5;exact AW tz.mono rfl r7 h3 hJ rfl rfl rfl rfl cs rfl h.len.1 rfl h.len.2 h
   exact AT
  intro ρ g3 hle hJ dW;refine gT rfl fun v7 _ r7=>bh ?_;obtain⟨b3,cs,rfl,hs,hO⟩:=GN r7 (dW 5 rfl) hJ;clear hJ dW r7;have ag:=(G.a_ _).trans hle;replace aq:=aq.mono ag;clear hle ρ;rw[qL]at hO;obtain⟨ka,kb,rfl,fg,ij⟩:=hO;obtain⟨g2,fm,dm,ag,aK⟩:=hs.fM (i:=0) rfl;replace hs:=dm;clear dm;rw[←fm];obtain⟨aq,fg⟩:=cA ag aq fg;have aB:=aK;clear aK;refine bE<|cO<|hZ [] [.pointer none,.slice none 0 0] [(0,2)] rfl<|nX hs rfl fun bw g1 hs ag=>?_;obtain⟨aq,aB,fg⟩:=eS ag aq aB fg;have hw:Dn bw [] [vO bw [.pointer none,.slice none 0 0] 107]:=⟨_,_,[],.inl rfl,.inl ⟨rfl,rfl,rfl⟩,rfl⟩;refine aF rfl<|ak ?_;have aac:qs f.gone=0∨qs f.gone=1:=by unfold qs;split<;>simp
  apply dP (cV (eA (.f (Fact.rs [f.kind,f.ver,f.day,qs f.gone])::[]))) 11 [(0,17),(10,27)] (by kernel_rfl)
  ·refine cY [[],[],[1],[],[3],[],[5],[],[7],[8]] [.z aq,.z aq,.z aq,.z aq,.c (cB 137) fun g _=>P_ f.gone g] hs rfl<|aW [(2,19),(4,21),(6,23),(9,26)] (fun gd hf=>su rfl (ay rfl (iD T.ok rfl (St.start gd) (vs:=[(0,vI f.kind),(1,vI f.ver),(2,vI f.day),(3,vI (qs f.gone))]) (cells:=[f.kind,f.ver,f.day,qs f.gone].map (Value.int .i64)) rfl rfl rfl rfl rfl rfl (by decide) (by decide) (by kernel_rfl) rfl fun b g' kP _=>?_))) ?_
   ·obtain⟨g2,e1,e2,e3⟩:=nz (α:=Int) kP (cR.ints g' [f.kind,f.ver,f.day,qs f.gone]);exact⟨g2,e1,e2,e3⟩
   exact fk
  intro g1 aH;refine bU rfl (aI fun v10 ue=>az ?_);replace hs:=hs.dr.call aH;have ag:=(G.a_ _).trans aH.le;obtain⟨aq,aB,fg⟩:=eS ag aq aB fg;refine nb rfl (Ft (L:=[]) [f.kind,f.ver,f.day,qs f.gone] hw (by intro n hn;simp only[aav,abi,or_false]at hn;unfold ur;rcases hn with rfl|rfl|rfl|rfl<;>omega) (by simp) ue hs) ?_;clear hs hw ue;rintro g5 _ ag ⟨rfl,VQ,hw,hs⟩;obtain⟨aq,aB,fg⟩:=eS ag aq aB fg;refine bE<|eO 4 [.z aq,.z aB] rfl<|d_ rfl (AX f s.fields (pv qL).1 ka _ fg) fun g1 v9 aH h9=>?_;replace hs:=hs.call aH;have ag:=aH.le;obtain⟨aq,aB⟩:=cA ag aq aB;have Fv:=nq [f.kind,f.ver,f.day,qs f.gone];have aad:=nq (uF f s.fields);have Fi:(uF f s.fields).length≤11:=by unfold uF;simpa using qn
  simp only[aaw,aay]at Fv;refine nb rfl (AY (L:=[]) (uF f s.fields) hw (by intro n hn;obtain⟨x,hx,rfl⟩:=aaU.1 hn;exact Ym x hx) (by simp only[aa1];omega) h9 hs) ?_;clear hs hw h9;rintro g5 _ ag ⟨rfl,Lw3,⟨p,v,Lr,hp,hb,rfl⟩,hs⟩;obtain⟨aq,aB⟩:=cA ag aq aB;refine bE<|ak<|pW [.z aB] rfl ?_
  cases ht:s.kT with
  |true=>
   refine bZ rfl<|eO 2 [.z aq] rfl<|jN rfl (Ka f.text _ (by omega)) hs fun g1 hs ag=>aF rfl<|ah<|Wp 4 rfl ?_
   have uf:(pn f.text).1.length≤f.text.length+10:=by
    unfold pn;split
    ·simp
    have:=n3 f.text.length;simp only[aal];omega
   refine nb rfl (J7 (L:=[]) hp hb (pn f.text).1 (by simp only[aa1,aal];omega) J8 hs) ?_;clear hs hp;rintro g5 _ ag ⟨v',Ae,hb,hs⟩;refine bE<|ck 3 rfl<|nb rfl (Fz (L:=[]) (by simp[lr,tB]) hb hs) ?_;clear hs hb;rintro g6 _ ag ⟨rfl,hs⟩;refine aF rfl<|au (uv rfl rfl rfl (hs.ret ?_));rw[vL];unfold og;rw[hv,qL];simp[lr,ht]
  |false=>
   refine bI rfl<|ar<|ai<|ck 3 rfl<|nb rfl (Fz (L:=[]) (by simp[lr,tB]) hb hs) ?_;clear hs hb;rintro g6 _ ag ⟨rfl,hs⟩;refine aF rfl<|au (uv rfl rfl rfl (hs.ret ?_));rw[vL];unfold og;rw[hv,qL];simp[lr,ht]
theorem HX(x y:List UInt8)(g:G):cN prog 60 #[.string (bs x),.string (bs y)] g fun _ r=>r=vI (Lib.compareBytes x y):=by refine nf ((Tryz.strings_Compare (bs x) (bs y) g.w).mono ?_) fun _ _=>rfl;rintro e w' ⟨rfl,rfl⟩;exact⟨rfl,RowKit.Below.refl _ _⟩
theorem FA(f h:bc)(g:G):cN prog 25 #[fv f,fv h] g fun _ r=>r= .bool (sL f h):=by
 have hs:=St.start g;have aj:=G.le.refl g;refine enter func25 rfl ntmps25 rfl<|cO<|nX hs rfl fun b1 g1 hs ag=>gF hs rfl fun b2 g2 hs ag aB=>?_;obtain⟨g2,fm,dm,ag,aK⟩:=hs.fM (i:=0) rfl;replace hs:=dm;clear dm;rw[←fm];replace aB:=aB.mono ag;have aq:=aK;clear aK;refine aF rfl<|eO 1 [.z aq] rfl<|jN rfl (Dq f _) hs fun g1 hs ag=>?_;obtain⟨aq,aB⟩:=cA ag aq aB;refine aF rfl<|eO 1 [.z aB] rfl<|jN rfl (Dq h _) hs fun g1 hs ag=>?_;obtain⟨aq,aB⟩:=cA ag aq aB;refine aF rfl<|ak<|aw<|ak<|aD rfl ?_
 by_cases h1:(og f).2=0
 ·refine bg (b:=(og f).2 !=0) (by simp[h1]) rfl<|aD rfl ?_;by_cases h2:(og h).2=0
  ·refine bg (b:=(og h).2 !=0) (by simp[h2]) rfl ?_;apply aO hs (gR (fe [])) 5 [(4,28)] (by kernel_rfl) rfl
   ·exact mX [[],[0],[],[2],[1,3]] [.z aq,.c (cB 24) fun g _=>J9 f g,.z aB,.c (cB 24) fun g _=>J9 h g] hs rfl
   clear hs;intro g5 hs ag;obtain⟨aq,aB⟩:=cA ag aq aB;refine aF rfl ?_;by_cases h3:gE f=gE h
   ·refine bg (b:=!((bs (gE f)).toList==(bs (gE h)).toList)) (by rw[h3];simp) rfl ?_;have hp:sL f h=if f.ver≠h.ver then decide (h.ver<f.ver)else decide (0<Lib.compareBytes (og f).1 (og h).1):=by unfold sL;rw[if_neg (by simp[h1,h2,h3])]
    refine pW [.z aq,.z aB] rfl ?_;by_cases h4:f.ver=h.ver
    ·refine bg (b:=f.ver !=h.ver) (by simp[h4]) rfl<|ar<|aX<|ai<|ck 2 rfl<|jN rfl (HX (og f).1 (og h).1 _) hs fun g1 hs ag=>?_;obtain⟨aq,aB⟩:=cA ag aq aB;refine aF rfl<|au<|cg rfl hs ?_;rw[hp,if_neg (by simp[h4])]
    refine aG (b:=f.ver !=h.ver) (by simp[h4]) rfl<|pW [.z aq,.z aB] rfl<|au<|iy<|ec<|cg rfl hs ?_;rw[hp,if_pos h4]
   refine aG (b:=!((bs (gE f)).toList==(bs (gE h)).toList)) (by rw[cH,cH];simp[h3]) rfl<|aD rfl<|au<|iy<|ec<|cg rfl hs ?_;unfold sL;rw[if_pos (by simp[h3])]
  refine aG (b:=(og h).2 !=0) (by simp[h2]) rfl<|ar<|ai<|aG (b:=(og h).2 !=0) (by simp[h2]) rfl<|aD rfl<|au<|iy<|ec<|cg rfl hs ?_;unfold sL;rw[if_pos (by simp[h2])]
 refine aG (b:=(og f).2 !=0) (by simp[h1]) rfl<|ar<|ai<|aG (b:=(og f).2 !=0) (by simp[h1]) rfl<|aD rfl<|au<|iy<|ec<|cg rfl hs ?_;unfold sL;rw[if_pos (by simp[h1])]
def xx:Nat→Nat
 |0=>61
 |1=>63
 |2=>64
 |3=>65
 |4=>67
 |5=>69
 |6=>70
 |7=>71
 |8=>73
 |9=>74
 |10=>76
 |_=>0
def wI:Nat→Nat
 |0=>62
 |1=>62
 |2=>62
 |3=>66
 |4=>68
 |5=>62
 |6=>62
 |7=>72
 |8=>62
 |9=>75
 |10=>62
 |_=>0
def oh:Nat→bc→Int×Int
 |3,f=>(f.waf,f.time)
 |4,f=>(f.prod,0)
 |7,f=>(f.oth,f.par)
 |9,f=>(f.rcp,f.time)
 |_,f=>(f.idn,0)
abbrev Kb(p:Int×Int):Value:=.agg #[vI p.1,vI p.2]
def AZ(i:Nat):Prop:=i=0∨i=1∨i=2∨i=3∨i=4∨i=5∨i=6∨i=7∨i=8∨i=9∨i=10
theorem nC{i:Nat}(h:i<11):AZ i:=by unfold AZ;omega
theorem O4{i:Nat}(hi:AZ i)(b:Nat)(g:G):cN prog (xx i) #[vP b] g fun _ r=>r= .pointer (some ⟨b,i,none⟩):=by
 rcases hi with rfl|rfl|rfl|rfl|rfl|rfl|rfl|rfl|rfl|rfl|rfl
 ·have hs:=St.start g;exact enter func61 rfl ntmps61 rfl<|aD rfl<|aD rfl<|au (cg rfl hs rfl)
 ·have hs:=St.start g;exact enter func63 rfl ntmps63 rfl<|aD rfl<|aD rfl<|au (cg rfl hs rfl)
 ·have hs:=St.start g;exact enter func64 rfl ntmps64 rfl<|aD rfl<|aD rfl<|au (cg rfl hs rfl)
 ·have hs:=St.start g;exact enter func65 rfl ntmps65 rfl<|aD rfl<|aD rfl<|au (cg rfl hs rfl)
 ·have hs:=St.start g;exact enter func67 rfl ntmps67 rfl<|aD rfl<|aD rfl<|au (cg rfl hs rfl)
 ·have hs:=St.start g;exact enter func69 rfl ntmps69 rfl<|aD rfl<|aD rfl<|au (cg rfl hs rfl)
 ·have hs:=St.start g;exact enter func70 rfl ntmps70 rfl<|aD rfl<|aD rfl<|au (cg rfl hs rfl)
 ·have hs:=St.start g;exact enter func71 rfl ntmps71 rfl<|aD rfl<|aD rfl<|au (cg rfl hs rfl)
 ·have hs:=St.start g;exact enter func73 rfl ntmps73 rfl<|aD rfl<|aD rfl<|au (cg rfl hs rfl)
 ·have hs:=St.start g;exact enter func74 rfl ntmps74 rfl<|aD rfl<|aD rfl<|au (cg rfl hs rfl)
 have hs:=St.start g;exact enter func76 rfl ntmps76 rfl<|aD rfl<|aD rfl<|au (cg rfl hs rfl)
theorem Kc{i:Nat}(hi:AZ i):cS prog (xx i):=by
 rcases hi with rfl|rfl|rfl|rfl|rfl|rfl|rfl|rfl|rfl|rfl|rfl
 ·exact(cB 61)
 ·exact(cB 63)
 ·exact(cB 64)
 ·exact(cB 65)
 ·exact(cB 67)
 ·exact(cB 69)
 ·exact(cB 70)
 ·exact(cB 71)
 ·exact(cB 73)
 ·exact(cB 74)
 exact(cB 76)
theorem tC(f:bc)(g:G):cN prog 62 #[fv f] g fun _ r=>r=Kb (f.idn,0):=by have hs:=St.start g;exact enter func62 rfl ntmps62 rfl<|cO<|nX hs rfl fun b1 g1 hs ag=>fA hs rfl fun b1 g1 hs ag=>bE<|jd 2 [.o 1] hs rfl<|aN rfl rfl<|ky T.ok rfl (vs:=[(0,vI (f.idn)),(1,vI (0))]) (cells:=[vI (f.idn),vI (0)]) rfl rfl rfl rfl rfl (by kernel_rfl)<|dC 0 hs rfl fun g1 hs ag=>bE<|au (my T.ok 0 rfl hs rfl rfl rfl (hs.ret rfl))
theorem Sq{i:Nat}(hi:AZ i)(f:bc)(g:G):cN prog (wI i) #[fv f] g fun _ r=>r=Kb (oh i f):=by
 rcases hi with rfl|rfl|rfl|rfl|rfl|rfl|rfl|rfl|rfl|rfl|rfl
 ·exact tC f g
 ·exact tC f g
 ·exact tC f g
 ·have hs:=St.start g;exact enter func66 rfl ntmps66 rfl<|cO<|nX hs rfl fun b1 g1 hs ag=>fA hs rfl fun b1 g1 hs ag=>bE<|jd 4 [.o 1,.o 1] hs rfl<|aN rfl rfl<|ky T.ok rfl (vs:=[(0,vI (f.waf)),(1,vI (f.time))]) (cells:=[vI (f.waf),vI (f.time)]) rfl rfl rfl rfl rfl (by kernel_rfl)<|dC 0 hs rfl fun g1 hs ag=>bE<|au (my T.ok 0 rfl hs rfl rfl rfl (hs.ret rfl))
 ·have hs:=St.start g;exact enter func68 rfl ntmps68 rfl<|cO<|nX hs rfl fun b1 g1 hs ag=>fA hs rfl fun b1 g1 hs ag=>bE<|jd 2 [.o 1] hs rfl<|aN rfl rfl<|ky T.ok rfl (vs:=[(0,vI (f.prod)),(1,vI (0))]) (cells:=[vI (f.prod),vI (0)]) rfl rfl rfl rfl rfl (by kernel_rfl)<|dC 0 hs rfl fun g1 hs ag=>bE<|au (my T.ok 0 rfl hs rfl rfl rfl (hs.ret rfl))
 ·exact tC f g
 ·exact tC f g
 ·have hs:=St.start g;exact enter func72 rfl ntmps72 rfl<|cO<|nX hs rfl fun b1 g1 hs ag=>fA hs rfl fun b1 g1 hs ag=>bE<|jd 4 [.o 1,.o 1] hs rfl<|aN rfl rfl<|ky T.ok rfl (vs:=[(0,vI (f.oth)),(1,vI (f.par))]) (cells:=[vI (f.oth),vI (f.par)]) rfl rfl rfl rfl rfl (by kernel_rfl)<|dC 0 hs rfl fun g1 hs ag=>bE<|au (my T.ok 0 rfl hs rfl rfl rfl (hs.ret rfl))
 ·exact tC f g
 ·have hs:=St.start g;exact enter func75 rfl ntmps75 rfl<|cO<|nX hs rfl fun b1 g1 hs ag=>fA hs rfl fun b1 g1 hs ag=>bE<|jd 4 [.o 1,.o 1] hs rfl<|aN rfl rfl<|ky T.ok rfl (vs:=[(0,vI (f.rcp)),(1,vI (f.time))]) (cells:=[vI (f.rcp),vI (f.time)]) rfl rfl rfl rfl rfl (by kernel_rfl)<|dC 0 hs rfl fun g1 hs ag=>bE<|au (my T.ok 0 rfl hs rfl rfl rfl (hs.ret rfl))
 exact tC f g
theorem Qd{i:Nat}(hi:AZ i):cS prog (wI i):=by
 rcases hi with rfl|rfl|rfl|rfl|rfl|rfl|rfl|rfl|rfl|rfl|rfl
 ·exact(cB 62)
 ·exact(cB 62)
 ·exact(cB 62)
 ·exact(cB 66)
 ·exact(cB 68)
 ·exact(cB 62)
 ·exact(cB 62)
 ·exact(cB 72)
 ·exact(cB 62)
 ·exact(cB 75)
 exact(cB 62)
def uG(i:Nat):Value:=.agg #[.func (.func (xx i)) #[] #[],.func (.func (wI i)) #[] #[]]
def nD:List (Int×Value):=[(1,uG 0),(2,uG 1),(3,uG 2),(4,uG 3),(5,uG 4),(6,uG 5),(7,uG 6),(8,uG 7),(9,uG 8),(10,uG 9),(11,uG 10)]
theorem HY{k:Int}(h1:1≤k)(h2:k≤11):jU k nD=some (uG (k-1).toNat):=by
 have:k=1∨k=2∨k=3∨k=4∨k=5∨k=6∨k=7∨k=8∨k=9∨k=10∨k=11:=by omega
 rcases this with rfl|rfl|rfl|rfl|rfl|rfl|rfl|rfl|rfl|rfl|rfl<;>rfl
theorem No(g:G):cN prog 26 #[] g fun g' r=> ∃b,r= .map (some b)∧g'.im b∧g'.w.heap[b]? =some (fy nD):=by have hs:=St.start g;have hT:vM Int prog 62 _:=Fq T.ok rfl rfl rfl rfl rfl;refine enter func26 rfl ntmps26 rfl<|aD rfl<|cO<|aN rfl rfl<|mz (κ:=Int) rfl hs fun bm g1 hs ag=>hZ [(0,.func (.func (xx 0)) #[] #[]),(1,.func (.func (wI 0)) #[] #[])] [.func (.func (xx 0)) #[] #[],.func (.func (wI 0)) #[] #[]] [(0,1),(1,1)] rfl<|gw rfl<|eg (κ:=Int) hT 0 (.inr rfl) hs rfl rfl (a:=1) rfl rfl fun g1 hs ag=>hZ [(0,.func (.func (xx 1)) #[] #[]),(1,.func (.func (wI 1)) #[] #[])] [.func (.func (xx 1)) #[] #[],.func (.func (wI 1)) #[] #[]] [(0,1),(1,1)] rfl<|gw rfl<|eg (κ:=Int) hT 0 (.inr rfl) hs rfl rfl (a:=2) rfl rfl fun g1 hs ag=>hZ [(0,.func (.func (xx 2)) #[] #[]),(1,.func (.func (wI 2)) #[] #[])] [.func (.func (xx 2)) #[] #[],.func (.func (wI 2)) #[] #[]] [(0,1),(1,1)] rfl<|gw rfl<|eg (κ:=Int) hT 0 (.inr rfl) hs rfl rfl (a:=3) rfl rfl fun g1 hs ag=>hZ [(0,.func (.func (xx 3)) #[] #[]),(1,.func (.func (wI 3)) #[] #[])] [.func (.func (xx 3)) #[] #[],.func (.func (wI 3)) #[] #[]] [(0,1),(1,1)] rfl<|gw rfl<|eg (κ:=Int) hT 0 (.inr rfl) hs rfl rfl (a:=4) rfl rfl fun g1 hs ag=>hZ [(0,.func (.func (xx 4)) #[] #[]),(1,.func (.func (wI 4)) #[] #[])] [.func (.func (xx 4)) #[] #[],.func (.func (wI 4)) #[] #[]] [(0,1),(1,1)] rfl<|gw rfl<|eg (κ:=Int) hT 0 (.inr rfl) hs rfl rfl (a:=5) rfl rfl fun g1 hs ag=>hZ [(0,.func (.func (xx 5)) #[] #[]),(1,.func (.func (wI 5)) #[] #[])] [.func (.func (xx 5)) #[] #[],.func (.func (wI 5)) #[] #[]] [(0,1),(1,1)] rfl<|gw rfl<|eg (κ:=Int) hT 0 (.inr rfl) hs rfl rfl (a:=6) rfl rfl fun g1 hs ag=>hZ [(0,.func (.func (xx 6)) #[] #[]),(1,.func (.func (wI 6)) #[] #[])] [.func (.func (xx 6)) #[] #[],.func (.func (wI 6)) #[] #[]] [(0,1),(1,1)] rfl<|gw rfl<|eg (κ:=Int) hT 0 (.inr rfl) hs rfl rfl (a:=7) rfl rfl fun g1 hs ag=>hZ [(0,.func (.func (xx 7)) #[] #[]),(1,.func (.func (wI 7)) #[] #[])] [.func (.func (xx 7)) #[] #[],.func (.func (wI 7)) #[] #[]] [(0,1),(1,1)] rfl<|gw rfl<|eg (κ:=Int) hT 0 (.inr rfl) hs rfl rfl (a:=8) rfl rfl fun g1 hs ag=>hZ [(0,.func (.func (xx 8)) #[] #[]),(1,.func (.func (wI 8)) #[] #[])] [.func (.func (xx 8)) #[] #[],.func (.func (wI 8)) #[] #[]] [(0,1),(1,1)] rfl<|gw rfl<|eg (κ:=Int) hT 0 (.inr rfl) hs rfl rfl (a:=9) rfl rfl fun g1 hs ag=>hZ [(0,.func (.func (xx 9)) #[] #[]),(1,.func (.func (wI 9)) #[] #[])] [.func (.func (xx 9)) #[] #[],.func (.func (wI 9)) #[] #[]] [(0,1),(1,1)] rfl<|gw rfl<|eg (κ:=Int) hT 0 (.inr rfl) hs rfl rfl (a:=10) rfl rfl fun g1 hs ag=>hZ [(0,.func (.func (xx 10)) #[] #[]),(1,.func (.func (wI 10)) #[] #[])] [.func (.func (xx 10)) #[] #[],.func (.func (wI 10)) #[] #[]] [(0,1),(1,1)] rfl<|gw rfl<|eg (κ:=Int) hT 0 (.inr rfl) hs rfl rfl (a:=11) rfl rfl fun g1 hs ag=>aF rfl ?_;have dm:=hs.fz (i:=0) rfl;have hh:=(hs.own 0 _ rfl).2.1;refine au (eC rfl (dm.ret ⟨bm,rfl,.inr rfl,hh⟩))
variable {α:Type}
def kl(k:α→Int×Int)(x y:α):Bool:=decide ((k x).1<(k y).1∨((k x).1=(k y).1∧(k x).2<(k y).2))
variable {k:α→Int×Int}
theorem vq{x y:α}:kl k x y=true↔(k x).1<(k y).1∨((k x).1=(k y).1∧(k x).2<(k y).2):=by unfold kl;simp
theorem jL{x y:α}:kl k x y=false↔ ¬((k x).1<(k y).1∨((k x).1=(k y).1∧(k x).2<(k y).2)):=by unfold kl;simp
theorem Jh{x y z:α}(h1:kl k x y=true)(h2:kl k y z=true):kl k x z=true:=by rw[vq]at*;omega
theorem rC{x y z:α}(h1:kl k x y=false)(h2:kl k y z=false):kl k x z=false:=by rw[jL]at*;omega
def Ji(k:α→Int×Int)(x:α)(f:List α→List α)(xl:List α):List α→List α
 |[]=>xl
 |y::r=>if kl k y x=true then y::Ji k x f xl r else x::f (y::r)
def oH(k:α→Int×Int):List α→List α→List α
 |[],r=>r
 |x::l,r=>Ji k x (oH k l) (x::l) r
theorem ja(l:List α):oH k l []=l:=by cases l<;>rfl
theorem eH(x y:α)(l r:List α):oH k (x::l) (y::r)=if kl k y x=true then y::oH k (x::l) r else x::oH k l (y::r):=rfl
theorem HE: ∀(n:Nat) (a b c:List α),a.length+b.length+c.length=n→oH k (oH k a b) c=oH k a (oH k b c):=by
 intro n
 induction n using Nat.strongRecOn with
 |_ n ih=>
  intro a b c hn
  match a,b,c with
  |[],b,c=>rfl
  |x::a,[],c=>rw[ja];rfl
  |x::a,y::b,[]=>rw[ja,ja]
  |x::a,y::b,z::c=>
   simp only[aaw]at hn;rw[eH x y,eH y z];by_cases h1:kl k y x=true
   ·rw[if_pos h1];by_cases h2:kl k z y=true
    ·rw[if_pos h2,eH,if_pos h2,eH,if_pos (Jh h2 h1)];congr 1;have e:y::oH k (x::a) b=oH k (x::a) (y::b):=by rw[eH,if_pos h1]
     rw[e];exact ih (n-1) (by omega) (x::a) (y::b) c (by simp only[aaw];omega)
    rw[if_neg h2,eH,if_neg h2,eH,if_pos h1];congr 1;exact ih (n-1) (by omega) (x::a) b (z::c) (by simp only[aaw];omega)
   rw[if_neg h1];by_cases h2:kl k z y=true
   ·rw[if_pos h2,eH,eH];by_cases h3:kl k z x=true
    ·rw[if_pos h3,if_pos h3];congr 1;have e:x::oH k a (y::b)=oH k (x::a) (y::b):=by rw[eH,if_neg h1]
     rw[e];exact ih (n-1) (by omega) (x::a) (y::b) c (by simp only[aaw];omega)
    rw[if_neg h3,if_neg h3];congr 1;have e:z::oH k (y::b) c=oH k (y::b) (z::c):=by rw[eH,if_pos h2]
    rw[e];exact ih (n-1) (by omega) a (y::b) (z::c) (by simp only[aaw];omega)
   have h3: ¬kl k z x=true:=by have:=rC (abS.2 h2) (abS.2 h1);rw[this];simp
   rw[if_neg h2,eH,if_neg h3,eH,if_neg h1];congr 1;have e:y::oH k b (z::c)=oH k (y::b) (z::c):=by rw[eH,if_neg h2]
   rw[e];exact ih (n-1) (by omega) a (y::b) (z::c) (by simp only[aaw];omega)
theorem ju: ∀(a1 b1:List α) {a2 b2:List α},(∀x∈a1,∀y∈b2,kl k y x=false)→(∀y∈b1,∀x∈a2,kl k y x=true)→oH k (a1++a2) (b1++b2)=oH k a1 b1++oH k a2 b2
 |[],[],_,_,_,_=>rfl
 |[],y::b1,a2,b2,h1,h2=>by
  have ih:=ju [] b1 (a2:=a2) (b2:=b2) (by simp) (fun z hz=>h2 z (aaR _ hz));cases a2 with
  |nil=>rfl
  |cons x a2=>
   simp only[aa1,aa0]at ih⊢;rw[eH,if_pos (h2 y (aaT ..) x (aaT ..)),ih];rfl
 |x::a1,[],a2,b2,h1,h2=>by
  have ih:=ju a1 [] (a2:=a2) (b2:=b2) (fun z hz=>h1 z (aaR _ hz)) (by simp);rw[ja]at ih⊢;cases b2 with
  |nil=>rw[aaI,ja,ja]
  |cons y b2=>
   simp only[aa1,aa0]at ih⊢;rw[eH,if_neg (by rw[h1 x (aaT ..) y (aaT ..)];simp),ih]
 |x::a1,y::b1,a2,b2,h1,h2=>by
  have X4:=ju (x::a1) b1 (a2:=a2) (b2:=b2) h1 (fun z hz=>h2 z (aaR _ hz));have X5:=ju a1 (y::b1) (a2:=a2) (b2:=b2) (fun z hz=>h1 z (aaR _ hz)) h2;simp only[aa0]at X4 X5⊢;rw[eH,eH];split
  ·rw[X4];rfl
  rw[X5];rfl
def dI(k:α→Int×Int):List α→List α
 |[]=>[]
 |x::l=>oH k [x] (dI k l)
theorem qy: ∀(l r:List α),dI k (l++r)=oH k (dI k l) (dI k r)
 |[],r=>rfl
 |x::l,r=>by show oH k [x] (dI k (l++r))=oH k (oH k [x] (dI k l)) (dI k r);rw[qy l r,HE _ _ _ _ rfl]
theorem qz: ∀(l r:List α),(oH k l r).Perm (l++r)
 |[],r=>List.Perm.refl _
 |x::l,r=>by
  have aux: ∀r:List α,(oH k (x::l) r).Perm (x::l++r):=by
   intro r
   induction r with
   |nil=>rw[ja,aaI]
   |cons y r ih=>
    rw[eH];split
    ·exact(ih.cons y).trans abA.symm
    exact((qz l (y::r)).cons x)
  exact aux r
theorem jv: ∀l:List α,(dI k l).Perm l
 |[]=>List.Perm.refl _
 |x::l=>(qz [x] (dI k l)).trans ((jv l).cons x)
def CX(k:α→Int×Int)(l:List α):Prop:=l.Pairwise fun x y=>kl k y x=false
theorem Gt: ∀(l r:List α),CX k l→CX k r→CX k (oH k l r)
 |[],r,_,h=>h
 |x::l,r,hl,hr=>by
  have aux: ∀r:List α,CX k r→CX k (oH k (x::l) r):=by
   intro r
   induction r with
   |nil=>intro _;rw[ja];exact hl
   |cons y r ih=>
    intro hr;rw[eH];have BM:=aaZ.1 hl;have I7:=aaZ.1 hr;split
    ·rename_i h;refine aaZ.2 ⟨fun z hz=>?_,ih I7.2⟩;have hz:=(qz (x::l) r).mem_iff.1 hz;simp only[aa0,aav,aaJ]at hz;rcases hz with rfl|hz|hz
     ·rw[vq]at h;rw[jL];omega
     ·have:=BM.1 z hz;rw[vq]at h;rw[jL]at this⊢;omega
     exact I7.1 z hz
    rename_i h;have h:=abS.2 h;refine aaZ.2 ⟨fun z hz=>?_,Gt l (y::r) BM.2 hr⟩;have hz:=(qz l (y::r)).mem_iff.1 hz;simp only[aaJ,aav]at hz;rcases hz with hz|rfl|hz
    ·exact BM.1 z hz
    ·exact h
    exact rC (I7.1 z hz) h
  exact aux r hr
theorem kU: ∀l:List α,CX k (dI k l)
 |[]=>List.Pairwise.nil
 |x::l=>Gt [x] _ (List.pairwise_singleton _ _) (kU l)
theorem tf: ∀{l r:List α},l.Perm r→CX k l→CX k r→(∀x∈l,∀y∈l,k x=k y→x=y)→l=r
 |[],r,hp,_,_,_=>(List.nil_perm.1 hp).symm
 |x::l,[],hp,_,_,_=>(List.Perm.nil_eq hp.symm).symm
 |x::l,y::r,hp,hl,hr,hd=>by
  have BM:=aaZ.1 hl;have I7:=aaZ.1 hr;have OI:x=y:=by
   have hx:=hp.mem_iff.1 (aaT (a:=x) (l:=l));have hy:=hp.mem_iff.2 (aaT (a:=y) (l:=r));rcases aav.1 hx with h|h
   ·exact h
   rcases aav.1 hy with h2|h2
   ·exact h2.symm
   have e1:=I7.1 x h;have e2:=BM.1 y h2;refine hd x (aaT ..) y (aaR _ h2) (Prod.ext ?_ ?_)<;>(rw[jL]at e1 e2;omega)
  subst OI;rw[tf (hp.cons_inv) BM.2 I7.2 fun a ha b hb=>hd a (aaR _ ha) b (aaR _ hb)]
abbrev KF:=List (List UInt8×bc)
def E8(a:List UInt8):KF→Option bc
 |[]=>none
 |(k,v)::r=>if a=k then some v else E8 a r
def qi(a:List UInt8)(x:bc):KF→KF
 |[]=>[(a,x)]
 |(k,v)::r=>if a=k then(k,x)::r else(k,v)::qi a x r
def cP(m:KF):List (List UInt8×Value):=m.map fun p=>(p.1,fv p.2)
theorem Gu(a:List UInt8): ∀m:KF,jU a (cP m)=(E8 a m).map fv
 |[]=>rfl
 |(k,v)::r=>by
  show(if a=k then some (fv v)else jU a (cP r))=(if a=k then some v else E8 a r).map fv;split
  ·rfl
  exact Gu a r
theorem BN(a:List UInt8)(x:bc): ∀m:KF,kX a (fv x) (cP m)=cP (qi a x m)
 |[]=>rfl
 |(k,v)::r=>by
  show(if a=k then(k,fv x)::cP r else(k,fv v)::kX a (fv x) (cP r))=cP (if a=k then(k,x)::r else(k,v)::qi a x r);split
  ·rfl
  rw[BN a x r];rfl
theorem MS(m:KF):(cP m).length=m.length:=aaS ..
theorem PI{m:KF}{j:Nat}{q:List UInt8×Value}(h:(cP m)[j]? =some q): ∃p,m[j]? =some p∧q=(p.1,fv p.2):=by
 unfold cP at h;rw[abd]at h;cases hm:m[j]? with
 |none=>rw[hm]at h;cases h
 |some p=>rw[hm]at h;exact⟨p,rfl,(aax h).symm⟩
def kj(day:Int)(m:KF)(f:bc):KF:=
 if gE f=[]∨day<f.day then m
 else if(match E8 (gE f) m with|none=>true|some o=>sL f o)=true then qi (gE f) f m else m
def mu(day:Int)(l:List bc):KF:=l.foldl (kj day) []
def jg(m:KF)(i:Nat):List bc:=(m.filter fun p=> !p.2.gone&&decide (p.2.kind=(i:Int)+1)).map (·.2)
def ofM(l:List bc)(day:Int):ft:=⟨fun i=>dI (oh i) (jg (mu day l) i)⟩
theorem AF{a:List UInt8}{x:bc}: ∀{m:KF} (k:List UInt8),k∈(qi a x m).map (·.1)→k=a∨k∈m.map (·.1)
 |[],k,h=>by simp[qi]at h;exact .inl h
 |(b,v)::r,k,h=>by
  unfold qi at h;split at h
  ·exact .inr (by simpa using h)
  simp only[aa8,aav]at h⊢;rcases h with h|h
  ·exact .inr (.inl h)
  rcases AF k h with h|h
  ·exact .inl h
  exact .inr (.inr h)
theorem x9{a:List UInt8}{x:bc}: ∀{m:KF},(m.map (·.1)).Nodup→((qi a x m).map (·.1)).Nodup
 |[],_=>by simp[qi]
 |(b,v)::r,h=>by
  unfold qi;split
  ·simpa using h
  rename_i fL;simp only[aa8,acL]at h⊢;refine⟨fun hb=>?_,x9 h.2⟩;rcases AF b hb with e|e
  ·exact fL e.symm
  exact h.1 e
theorem x_{a:List UInt8}{x:bc}: ∀{m:KF} {p},p∈qi a x m→p=(a,x)∨p∈m
 |[],p,h=>by simp[qi]at h;exact .inl h
 |(b,v)::r,p,h=>by
  unfold qi at h;split at h
  ·rename_i e;rcases aav.1 h with h|h
   ·subst e;exact .inl h
   exact .inr (aaR _ h)
  rcases aav.1 h with h|h
  ·exact .inr (h▸aaT ..)
  rcases x_ h with h|h
  ·exact .inl h
  exact .inr (aaR _ h)
theorem CY{a:List UInt8}{x:bc}: ∀m:KF,(qi a x m).length≤m.length+1
 |[]=>aaz _
 |(b,v)::r=>by
  unfold qi;split
  ·simp
  simp only[aaw];have:=CY (a:=a) (x:=x) r;omega
def My(m:KF):Prop:=(m.map (·.1)).Nodup∧ ∀p∈m,p.1=gE p.2∧p.1≠[]
theorem My.put{m:KF}{f:bc}(h:My m)(hk:gE f≠[]):My (qi (gE f) f m):=
 ⟨x9 h.1,fun p hp=>(x_ hp).elim (fun e=>by subst e;exact⟨rfl,hk⟩) (h.2 p)⟩
theorem BO(day:Int)(m:KF)(f:bc):kj day m f=m∨(gE f≠[]∧kj day m f=qi (gE f) f m):=by
 unfold kj;by_cases hc:gE f=[]∨day<f.day
 ·exact .inl (if_pos hc)
 rw[if_neg hc];generalize(match E8 (gE f) m with|none=>true|some o=>sL f o)=b;cases b
 ·exact .inl rfl
 exact .inr ⟨fun e=>hc (.inl e),rfl⟩
theorem My.step{day:Int}{m:KF}{f:bc}(h:My m):My (kj day m f):=by
 rcases BO day m f with e|⟨hk,e⟩<;>rw[e]
 ·exact h
 exact h.put hk
theorem Jj(day:Int)(l:List bc)(f:bc):mu day (l++[f])=kj day (mu day l) f:=by unfold mu;rw[abK];rfl
theorem ya{P:KF→List bc→Prop}{day:Int}(h0:P [] [])(h1: ∀m l f,P m l→P (kj day m f) (l++[f]))(l:List bc):P (mu day l) l:=by
 unfold mu;suffices h: ∀(l2 l1:List bc) m,P m l1→P (l2.foldl (kj day) m) (l1++l2) by simpa using h l [] [] h0
 intro l2
 induction l2 with
 |nil=>intro l1 m h;simpa using h
 |cons f l2 ih=>intro l1 m h;have:=ih (l1++[f]) _ (h1 m l1 f h);simpa using this
theorem Gv(day:Int)(l:List bc):My (mu day l):=ya (P:=fun m _=>My m) ⟨by simp,by simp⟩ (fun m l f h=>h.step) l
theorem CZ(day:Int)(l:List bc):(mu day l).length≤l.length:=
 ya (P:=fun m l=>m.length≤l.length) (aaz _) (fun m l f h=>by have:=CY (a:=gE f) (x:=f) m;rw[aal,aaF];rcases BO day m f with e|⟨_,e⟩<;>rw[e]<;>omega) l
theorem MT{f h:bc}(hf:gE f≠[])(hh:gE h≠[])(hk:f.kind=h.kind)(ho:oh (f.kind-1).toNat f=oh (f.kind-1).toNat h):gE f=gE h:=by
 have v1:gD f=true:=by cases e:gD f with|true=>rfl|false=>exact absurd (by unfold gE;rw[e];rfl) hf
 have v2:gD h=true:=by cases e:gD h with|true=>rfl|false=>exact absurd (by unfold gE;rw[e];rfl) hh
 obtain⟨s,hs,_⟩:=nS v1;obtain⟨_,_,_,_,_,_,h1,h2⟩:=qx hs;unfold gE;rw[v1,v2,if_pos rfl,if_pos rfl,←hk];congr 1;have:f.kind=1∨f.kind=2∨f.kind=3∨f.kind=4∨f.kind=5∨f.kind=6∨f.kind=7∨f.kind=8∨f.kind=9∨f.kind=10∨f.kind=11:=by omega
 rcases this with e|e|e|e|e|e|e|e|e|e|e<;>rw[e]at ho⊢ <;>(
  simp only[oh,aaB,show((1:Int)-1).toNat=0 from rfl,show((2:Int)-1).toNat=1 from rfl,show((3:Int)-1).toNat=2 from rfl,show((4:Int)-1).toNat=3 from rfl,show((5:Int)-1).toNat=4 from rfl,show((6:Int)-1).toNat=5 from rfl,show((7:Int)-1).toNat=6 from rfl,show((8:Int)-1).toNat=7 from rfl,show((9:Int)-1).toNat=8 from rfl,show((10:Int)-1).toNat=9 from rfl,show((11:Int)-1).toNat=10 from rfl]at ho;simp[eD,pj,x5,pf,fK,fB,vn,bc.num,ho.1,ho.2])
theorem uu{m:KF}{i:Nat}{f:bc}(h:f∈jg m i): ∃k,(k,f)∈m∧f.kind=(i:Int)+1:=by unfold jg at h;obtain⟨p,hp,rfl⟩:=aaU.1 h;obtain⟨h1,h2⟩:=ab4.1 hp;simp only[aaA,decide_eq_true_eq]at h2;exact⟨p.1,h1,h2.2⟩
theorem Jk{m:KF}(hm:My m){i:Nat}{f h:bc}(hf:f∈jg m i)(hh:h∈jg m i)(ho:oh i f=oh i h):f=h:=by
 obtain⟨k1,m1,e1⟩:=uu hf;obtain⟨k2,m2,e2⟩:=uu hh;obtain⟨a1,b1⟩:=hm.2 _ m1;obtain⟨a2,b2⟩:=hm.2 _ m2;simp only at a1 b1 a2 b2;subst a1;subst a2;have hi:(f.kind-1).toNat=i:=by omega
 have e:=MT b1 b2 (by omega) (by rw[hi];exact ho);have z8:=hm.1;obtain⟨x,hx,ex⟩:=aa4.1 m1;obtain⟨y,hy,ey⟩:=aa4.1 m2;have OI:x=y:=(List.getElem_inj (xs:=m.map (·.1)) (i:=x) (j:=y) (h₀:=by simpa using hx) (h₁:=by simpa using hy) z8).1 (by simp only[List.getElem_map];rw[ex,ey];exact e);subst OI;rw[ex]at ey;exact congrArg Prod.snd ey
theorem E9{m:KF}(hm:My m){i:Nat}{ys:List bc}(hp:ys.Perm (jg m i)):dI (oh i) ys=dI (oh i) (jg m i):=by refine tf (((jv ys).trans hp).trans (jv _).symm) (kU _) (kU _) fun x hx y hy h=>?_;exact Jk hm (hp.mem_iff.1 ((jv ys).mem_iff.1 hx)) (hp.mem_iff.1 ((jv ys).mem_iff.1 hy)) h
def vr{α:Type}(m:List α)(js:List Nat):List α:=js.filterMap fun j=>m[j]?
theorem yb{α:Type}{m:List α}{js:List Nat}{j:Nat}{p:α}(h:m[j]? =some p):vr m (js++[j])=vr m js++[p]:=by unfold vr;rw[List.filterMap_append];simp[h]
theorem Jl(m r:KF)(i:Nat):jg (m++r) i=jg m i++jg r i:=by unfold jg;rw[abe,aa3]
theorem HF{m r:KF}(h:m.Perm r)(i:Nat):(jg m i).Perm (jg r i):=(h.filter _).map _
theorem yc(m:KF)(i:Nat):(jg m i).length≤m.length:=by unfold jg;rw[aaS];exact abq ..
theorem HG{α:Type}(m:List α):vr m (List.range m.length)=m:=by
 unfold vr
 induction m with
 |nil=>rfl
 |cons p m ih=>
  rw[aaw,List.range_succ_eq_map,List.filterMap_cons];simp only[abF];rw[List.filterMap_map];congr 1
theorem Gw{α:Type}{m:List α}{js:List Nat}(hn:js.Nodup)(h1: ∀j∈js,j<m.length)(h2: ∀j,j<m.length→j∈js):(vr m js).Perm m:=by
 have hp:js.Perm (List.range m.length):=(List.perm_ext_iff_of_nodup hn List.nodup_range).2 fun a=>by rw[aa9];exact⟨h1 a,h2 a⟩
 have:=hp.filterMap (fun j=>m[j]?);rw[show(List.range m.length).filterMap (fun j=>m[j]?)=m from HG m]at this;exact this
theorem BP{α:Type}(m:List α)(js:List Nat):(vr m js).length≤js.length:=List.length_filterMap_le ..
set_option maxHeartbeats 2000000
def fG(a b:Int):Int:=if a<b then -1 else if b<a then 1 else 0
def GS:List Int→Int
 |[]=>0
 |n::r=>if n=0 then GS r else n
def vN(p q:Int×Int):Int:=GS [fG p.1 q.1,fG p.2 q.2]
theorem n9{α:Type}(k:α→Int×Int)(x y:α):decide (vN (k x) (k y)<0)=kl k x y:=by
 unfold vN kl fG GS GS GS;by_cases h1:(k x).1<(k y).1
 ·simp[h1]
 by_cases h2:(k y).1<(k x).1
 ·have:(k x).1≠(k y).1:=by omega
  simp[h1,h2,this]
 have:(k x).1=(k y).1:=by omega
 by_cases h3:(k x).2<(k y).2
 ·simp[this,h3]
 by_cases h4:(k y).2<(k x).2<;>simp[this,h3,h4]
theorem G5(n:Int)(g:G):cN prog 141 #[vI n] g fun _ r=>r= .bool false:=by have hs:=St.start g;exact enter func141 rfl ntmps141 rfl<|aD rfl<|aD rfl<|au (cg rfl hs (by simp))
theorem B5(m n:Int)(g:G):cN prog 80 #[vI m,vI n] g fun _ r=>r=vI (fG m n):=by
 have hs:=St.start g;refine enter func80 rfl ntmps80 rfl<|aD rfl<|ck 1 rfl<|jN rfl (G5 _ _) hs fun g1 hs ag=>aF rfl<|ck 1 rfl<|jN rfl (G5 _ _) hs fun g1 hs ag=>aF rfl<|ak<|aD rfl<|bI rfl<|ar<|ai<|ak<|aD rfl<|bI rfl<|ar<|ai<|ak<|aD rfl ?_;by_cases h1:m<n
 ·exact aG (b:=decide (m<n)) (by simp[h1]) rfl<|aD rfl<|au (cg rfl hs (by simp[fG,h1]))
 refine bg (b:=decide (m<n)) (by simp[h1]) rfl<|ar<|ai<|ak<|aD rfl ?_;by_cases h2:n<m
 ·exact aG (b:=decide (n<m)) (by simp[h2]) rfl<|aD rfl<|au (cg rfl hs (by simp[fG,h1,h2]))
 exact bg (b:=decide (n<m)) (by simp[h2]) rfl<|ar<|ai<|aD rfl<|au (cg rfl hs (by simp[fG,h1,h2]))
theorem Sr(v:Value)(l:List Int)(g:G)(aA:Rs g v l):cN prog 79 #[v] g fun _ r=>r=vI (GS l):=by
 obtain⟨a,c,rfl⟩:=aA.isSlice;have hlen:=aA.ef;unfold maxLen at hlen;have hs:=St.start g;refine enter func79 rfl ntmps79 rfl<|aD rfl<|aD rfl<|ak<|aD rfl<|aw ?_;refine aZ (fun m a' w=> ∃(k:Nat),w=g.w∧k≤l.length∧m=l.length-k∧GS (l.drop k)=GS l∧
  Fr 18 [] [(3,vI 0),(6,.slice a l.length c),(7,vI l.length),(8,vI k)] a') l.length (fun a' ha=>⟨0,rfl,aar _,rfl,rfl,ha.kp rfl⟩) ?_
 rintro m a' _ ⟨k,rfl,hk,rfl,dt,dT⟩;revert a';refine bT<|aD rfl<|ak ?_;by_cases aV:k<l.length
 ·refine aG (b:=decide ((k:Int)<(l.length:Int))) (by simp;omega) rfl ?_;rw[aa7 aV,GS]at dt;refine ar<|ai<|ak<|aw<|cO<|fP (y:=l[k]) aA (by simp[dq,aV]) rfl ?_;rintro b p ys aK rfl;refine dE 1 [.e aK 0] rfl<|aF rfl<|aD rfl ?_;by_cases hz:l[k]=0
  ·refine bg (b:=l[k] !=0) (by simp[hz]) rfl ?_;rw[if_pos hz]at dt;exact ar<|aX<|ai<|ah<|Wp 2 rfl<|an<|fun a ha=>⟨l.length-(k+1),by omega,k+1,rfl,by omega,rfl,dt,ha.keep ⟨rfl,rfl,rfl,kW rfl,trivial⟩⟩
  refine aG (b:=l[k] !=0) (by simp[hz]) rfl ?_;rw[if_neg hz]at dt;exact aD rfl<|au (cg rfl hs (by rw[dt]))
 refine bg (b:=decide ((k:Int)<(l.length:Int))) (by simp;omega) rfl ?_;obtain rfl:k=l.length:=by omega
 refine aJ<|aM<|aM<|b_<|ai<|aD rfl ?_;rw[acW,GS]at dt;exact au (cg rfl hs (by rw[←dt]))
set_option maxHeartbeats 8000000
abbrev GP(b:Nat):dc:=vO b [vI 0,vI 0] 121
def sA(g0:G)(i j:Nat)(ρ:Nat→Option Value)(g:G):Prop:=
 match ρ i,ρ j with
 |none,none=>St g0 g []
 |some v,none=> ∃b,v=vP b∧St g0 g [GP b]
 |none,some u=> ∃c,u=vP c∧St g0 g [GP c]
 |some v,some u=> ∃b c,v=vP b∧u=vP c∧St g0 g [GP b,GP c]
theorem HZ{g0:G}{i j:Nat}(ρ:Nat→Option Value)(g g':G)(hf:bW g g')(h:sA g0 i j ρ g):sA g0 i j ρ g':=by
 unfold sA at h⊢;split at h
 ·exact h.call hf
 ·obtain⟨b,e,h⟩:=h;exact⟨b,e,h.call hf⟩
 ·obtain⟨b,e,h⟩:=h;exact⟨b,e,h.call hf⟩
 obtain⟨b,c,e1,e2,h⟩:=h;exact⟨b,c,e1,e2,h.call hf⟩
theorem Kd{g0 g:G}{F:Fence}{N:Nat}{ds:List Deferred}{Q:Exit→Act→World→Prop}{l:Env}{o:Oper}{i j:Nat}{ρ:Nat→Option Value}(fL:Nat.beq j i=false)(h1:ρ i=none)(hJ:sA g0 i j ρ g)(ho:o.op= .alloc 121):
  cQ F prog N ds o l g.w Q fun v w'=> ∃ez,ez.w=w'∧(g.le ez∧sA g0 i j (uB ρ i v) ez)∧Fact.any.p v ez:=by
 have hn: ¬j=i:=fun e=>by subst e;simp at fL
 unfold sA at hJ;rw[h1]at hJ;cases h2:ρ j with
 |none=>
  rw[h2]at hJ;refine ik T.ok ho hJ rfl rfl fun b g' hs hle=>⟨g',rfl,⟨hle,?_⟩,trivial⟩
  unfold sA uB;rw[if_pos rfl,if_neg hn,h2];exact⟨b,rfl,hs⟩
 |some u=>
  rw[h2]at hJ;obtain⟨c,e,hJ⟩:=hJ;refine ik T.ok ho hJ rfl rfl fun b g' hs hle=>⟨g',rfl,⟨hle,?_⟩,trivial⟩
  unfold sA uB;rw[if_pos rfl,if_neg hn,h2];exact⟨b,c,rfl,e,hs⟩
theorem Ke{g0 g:G}{F:Fence}{N:Nat}{ds:List Deferred}{Q:Exit→Act→World→Prop}{l:Env}{o:Oper}{i j:Nat}{ρ:Nat→Option Value}(fL:Nat.beq j i=false)(h1:ρ j=none)(hJ:sA g0 i j ρ g)(ho:o.op= .alloc 121):
  cQ F prog N ds o l g.w Q fun v w'=> ∃ez,ez.w=w'∧(g.le ez∧sA g0 i j (uB ρ j v) ez)∧Fact.any.p v ez:=by
 have hn: ¬i=j:=fun e=>by subst e;simp at fL
 unfold sA at hJ;cases h2:ρ i with
 |none=>
  rw[h2,h1]at hJ;refine ik T.ok ho hJ rfl rfl fun b g' hs hle=>⟨g',rfl,⟨hle,?_⟩,trivial⟩
  unfold sA uB;rw[if_neg hn,if_pos rfl,h2];exact⟨b,rfl,hs⟩
 |some u=>
  rw[h2,h1]at hJ;obtain⟨c,e,hJ⟩:=hJ;refine ik T.ok ho hJ rfl rfl fun b g' hs hle=>⟨g',rfl,⟨hle,?_⟩,trivial⟩
  unfold sA uB;rw[if_neg hn,if_pos rfl,h2];exact⟨c,b,e,rfl,hs.perm (List.Perm.swap _ _ [])⟩
def Kf(fo:Value)(k:bc→Int×Int)(g:G):Prop:=∀g',g.le g'→ ∀f,jX prog fo [fv f] g'.w (ug g' fun _ r=>r=Kb (k f))
theorem Kf.mono{fo:Value}{k:bc→Int×Int}{g g':G}(hle:g.le g')(h:Kf fo k g):Kf fo k g':=fun g1 h1=>h g1 (hle.trans h1)
theorem Kg{fo:Value}{k:bc→Int×Int}{bp:Nat}(x y:bc)(g:G)(aq:EP g bp 0 [fo])(hk:Kf fo k g):
  cN prog 78 #[fv x,fv y,vP bp] g fun _ r=>r=vI (vN (k x) (k y)):=by
 have hs:=St.start g;have aj:=G.le.refl g;refine enter func78 rfl ntmps78 rfl<|cO<|gF hs rfl fun b1 g2 hs ag aB=>?_;obtain⟨aj,aq⟩:=cA ag aj aq;refine gF hs rfl fun b2 g2 hs ag cF=>?_;obtain⟨aj,aq,aB⟩:=eS ag aj aq aB;refine aF rfl<|ak ?_;apply oU (gR (eA (.f Fact.any:: .f Fact.any::[]))) 8 [(2,10),(5,13),(6,6),(7,7)] [6,7] [[],[]] (sA g 6 7) HZ (by unfold sA;exact hs.dr) (by kernel_rfl) ⟨dw,dw,trivial⟩
 ·exact Um [[],[]] [.z aq,.z aB] (by kernel_rfl) rfl<|bA (cW (js:=[(0,8),(1,9)]) (by kernel_rfl) rfl fun _ g2 _ _ hf _=>c_ rfl (c_ rfl (bh (ay rfl (fF rfl rfl rfl rfl rfl rfl (hk g2 (aj.trans ((G.a_ _).trans hf)) x) fun g' v h1 h2=>⟨g',rfl,h1,h2⟩)))))<|Um [[],[]] [.z aq,.z cF] (by kernel_rfl) rfl<|bA (cW (js:=[(3,11),(4,12)]) (by kernel_rfl) rfl fun _ g2 _ _ hf _=>c_ rfl (c_ rfl (bh (ay rfl (fF rfl rfl rfl rfl rfl rfl (hk g2 (aj.trans ((G.a_ _).trans hf)) y) fun g' v h1 h2=>⟨g',rfl,h1,h2⟩)))))<|bA (jW (js:=[]) (by kernel_rfl) rfl fun ρ g2 h1 _ h3 _ hJ=>bh ⟨rfl,Kd rfl h3 hJ rfl⟩)<|bA (jW (js:=[]) (by kernel_rfl) rfl fun ρ g2 h1 _ h3 _ hJ=>bh ⟨rfl,Ke rfl h3 hJ rfl⟩)<|AT
 intro ρ g3 hle hJ dW;refine c_ rfl (c_ rfl (gT rfl fun v6 _ r6=>gT rfl fun v7 _ r7=>bh ?_));unfold sA at hJ;rw[r6,r7]at hJ;obtain⟨b,c,rfl,rfl,hs⟩:=hJ;have ag:=(G.a_ _).trans hle;obtain⟨aB,cF⟩:=cA ag aB cF;clear hle dW r6 r7 ρ;clear aB cF;refine dC 0 hs rfl fun g1 hs ag=>dC 1 hs rfl fun g1 hs ag=>?_;obtain⟨g2,fm,dm,ag,aK⟩:=hs.fM (i:=0) rfl;replace hs:=dm;clear dm;rw[←fm];have aB:=aK;clear aK;obtain⟨g2,fm,dm,ag,aK⟩:=hs.fM (i:=0) rfl;replace hs:=dm;clear dm;rw[←fm];replace aB:=aB.mono ag;have cF:=aK;clear aK;replace hs:St g _ []:=hs;refine bE<|ak ?_;apply aO hs (cV (eA (.f (Fact.rs [fG (k x).1 (k y).1,fG (k x).2 (k y).2])::fe []))) 12 [(11,25)] (by kernel_rfl) rfl
 ·refine aW [] (fun gd hf=>az (ay rfl (dG T.ok (q:=0) rfl rfl rfl rfl rfl rfl (by decide) (cC rfl))))<|cY [[0]] [.z aB] hs rfl<|aW [] (fun gd hf=>az (ay rfl (dG T.ok (q:=0) rfl rfl rfl rfl rfl rfl (by decide) (cC rfl))))<|cY [[2],[1,3]] [.z cF,.c (cB 80) fun g _=>B5 (k x).1 (k y).1 g] hs rfl<|aW [] (fun gd hf=>az (ay rfl (dG T.ok (q:=1) rfl rfl rfl rfl rfl rfl (by decide) (cC rfl))))<|cY [[5]] [.z aB] hs rfl<|aW [] (fun gd hf=>az (ay rfl (dG T.ok (q:=1) rfl rfl rfl rfl rfl rfl (by decide) (cC rfl))))<|cY [[7],[6,8]] [.z cF,.c (cB 80) fun g _=>B5 (k x).2 (k y).2 g] hs rfl<|aW [(4,18),(9,23)] (fun gd hf=>bN rfl (ay rfl (iD T.ok rfl (St.start gd) (vs:=[(0,vI (fG (k x).1 (k y).1)),(1,vI (fG (k x).2 (k y).2))]) (cells:=[fG (k x).1 (k y).1,fG (k x).2 (k y).2].map (Value.int .i64)) rfl rfl rfl rfl rfl rfl (by decide) (by decide) (by kernel_rfl) rfl fun b g' kP _=>?_))) ?_
  ·obtain⟨g2,e1,e2,e3⟩:=nz (α:=Int) kP (cR.ints g' [fG (k x).1 (k y).1,fG (k x).2 (k y).2]);exact⟨g2,e1,e2,e3⟩
  exact aW [(10,24)] (fun gd hf=>aI fun v h=>az (ji rfl (Sr v [fG (k x).1 (k y).1,fG (k x).2 (k y).2] _ h)))<|fk
 clear hs;intro g6 hs ag;exact aF rfl<|au (cg rfl hs rfl)
end Go.Proofs.YtkpojaffabjibaaGreatDoor
namespace Go.K
open Go Go.RowKit
class kL(α:Type) where
 k:Nat
 enc:α→List Value
 len: ∀x,(enc x).length=k
 one: ∀x,(enc x).all Value.oneCell'=true
 pos:0<k
variable {α:Type} [kL α]
def fl(xs:List α):List Value:=xs.flatMap kL.enc
theorem xO(x:α)(xs:List α):fl (x::xs)=kL.enc x++fl xs:=by unfold fl;rw[List.flatMap_cons]
theorem jM(xs ys:List α):fl (xs++ys)=fl xs++fl ys:=by unfold fl;rw[ac4]
theorem pF: ∀xs:List α,(fl xs).length=xs.length*kL.k α
 |[]=>by simp[fl]
 |x::xs=>by rw[xO,aal,kL.len,pF xs,aaw,Nat.succ_mul];omega
theorem oZ(xs:List α){i:Nat}(h:i<xs.length):fl xs=fl (xs.take i)++(kL.enc xs[i]++fl (xs.drop (i+1))):=by
 conv=>lhs;rw[←aaY i xs]
 rw[aa7 h,jM,xO]
theorem TC(xs:List α){i:Nat}(h:i<xs.length):((fl xs).drop (i*kL.k α)).take (kL.k α)=kL.enc xs[i]:=by
 have e:(fl (xs.take i)).length=i*kL.k α:=by rw[pF,aat,abD (by omega)]
 rw[oZ xs h,←e,ack,←kL.len xs[i],acf]
theorem Q3(xs:List α){i:Nat}(h:i<xs.length)(y:α):nY (fl xs) (i*kL.k α) (kL.enc y)=fl (xs.set i y):=by
 have e:(fl (xs.take i)).length=i*kL.k α:=by rw[pF,aat,abD (by omega)]
 unfold nY;rw[oZ xs h];rw[←e,acf,←aca,ack,kL.len,←kL.len xs[i],ack];rw[oZ (xs.set i y) (i:=i) (by rw[abI];exact h),List.getElem_set_self,List.take_set_of_le (aaz _),ac5 (by omega),aaG]
theorem F7(xs:List α){i:Nat}(h:i<xs.length):i*kL.k α+kL.k α≤(fl xs).length:=by rw[pF,←Nat.succ_mul];exact acB _ h
variable {F:Fence} {P:Program} {N:Nat} {ds:List Deferred} {l:Env} {w:World} {Q:Exit→Act→World→Prop} {o:Oper} {g0 g:G} {L:List dc} {K:Value→World→Prop}
theorem eJ[eE P](i:Nat){t:Nat}{ti:TI}{x:Operand}{e:TypeId}{b p c n m j:Nat}{xs:List α}(ho:o.op= .load t x)(hs:St g0 g L)
  (hi:L[i]? =some (.row e (kL.k α) (.slice (some ⟨b,p,none⟩) n c) m (fl xs))) (hx:ev l x=some (.pointer (some ⟨b,p+j*kL.k α,none⟩))) {y:α} (hj:xs[j]? =some y)
  (ht:tl (eE.tb P) t=some ti) (ha:xh ti.desc=true) (hk:ti.size=kL.k α) (k:K (.agg (kL.enc y).toArray) g.w):cQ F P N ds o l g.w Q K:=by
 obtain⟨I9,rfl⟩:=aaN.1 hj;refine eW eE.ok (j*kL.k α) ho (hs.own i _ hi).1 hx ?_ k;unfold Ad;rw[ht];simp only[ha,cond_true];rw[hk,show Nat.ble (j*kL.k α+kL.k α) (fl xs).length=true from acv (F7 xs I9),cond_true,TC xs I9]
theorem iE[eE P](i:Nat){t:Nat}{ti:TI}{x y:Operand}{e:TypeId}{b p c n m j:Nat}{xs:List α}{v:α}(ho:o.op= .store t x y)(hs:St g0 g L)
  (hi:L[i]? =some (.row e (kL.k α) (.slice (some ⟨b,p,none⟩) n c) m (fl xs))) (hx:ev l x=some (.pointer (some ⟨b,p+j*kL.k α,none⟩))) (hy:ev l y=some (.agg (kL.enc v).toArray)) (hj:j<xs.length)
  (ht:tl (eE.tb P) t=some ti) (hk:ti.size=kL.k α)
  (kk: ∀g',St g0 g' (L.set i (.row e (kL.k α) (.slice (some ⟨b,p,none⟩) n c) m (fl (xs.set j v))))→g.le g'→K undef g'.w):cQ F P N ds o l g.w Q K:=
 iC eE.ok i (j*kL.k α) ho hs hi hx hy ht rfl (by rw[kL.len,hk]) (kL.one v) (by rw[kL.len];exact kL.pos) (by rw[kL.len];exact F7 xs hj) (Q3 xs hj v) kk
theorem dB[eE P](i:Nat){t e:Nat}{ti tj:TI}{x ix:Operand}{ad:Option Addr}{c n m:Nat}{kk:IntKind}{z:Int}{xs:List α}(ho:o.op= .indexAddr t x ix)(hs:St g0 g L)
  (hi:L[i]? =some (.row e (kL.k α) (.slice ad n c) m (fl xs))) (h0:0≤z) (aV:z.toNat<n) (hx:ev l x=some (.slice ad n c)) (Lj:ev l ix=some (.int kk z)) (ht:tl (eE.tb P) t=some ti) (hd:ti.desc= .slice e) (hj:tl (eE.tb P) e=some tj) (hk:tj.size=kL.k α)
  (k: ∀b p,ad=some ⟨b,p,none⟩→K (.pointer (some ⟨b,p+z.toNat*kL.k α,none⟩)) g.w):cQ F P N ds o l g.w Q K:=
 ea eE.ok ho (hs.own i _ hi).1 h0 aV hx Lj ht hd hj hk k
end Go.K
namespace Go.Proofs.YtkpojaffabjibaaGreatDoor
open Go Go.K Tryz
attribute [local irreducible] W WL cQ aP bG aR aQ aS cK ct
set_option maxRecDepth 10000
set_option maxHeartbeats 8000000
instance:kL bc where
 k:=19
 enc:=bK
 len _:=rfl
 one f:=by simp[bK,Value.oneCell']
 pos:=by decide
def FB(fo:Value)(k:bc→Int×Int)(g:G):Prop:=∀g',g.le g'→ ∀x y,jX prog fo [fv x,fv y] g'.w (ug g' fun _ r=>r=vI (vN (k x) (k y)))
theorem FB.mono{fo:Value}{k:bc→Int×Int}{g g':G}(hle:g.le g')(h:FB fo k g):FB fo k g':=fun g1 h1=>h g1 (hle.trans h1)
theorem xE{α:Type}{k:α→Int×Int}{A B:List α}{x:α}(h1: ∀a∈A,kl k x a=false)(h2: ∀b∈B,kl k x b=true):oH k (A++B) [x]=A++x::B:=by have e:=ju (k:=k) A [] (a2:=B) (b2:=[x]) (fun a ha y hy=>by rw[aaL.1 hy];exact h1 a ha) (by simp);have e2:=ju (k:=k) [] [x] (a2:=B) (b2:=[]) (by simp) (fun y hy b hb=>by rw[aaL.1 hy];exact h2 b hb);simp only[aa1,aaI]at e e2;rw[e,e2,ja,ja];rfl
theorem Kh{α:Type}{k:α→Int×Int}{A:List α}{x y:α}(hs:CX k (A++[y]))(h:kl k x y=false): ∀a∈A++[y],kl k x a=false:=by
 intro a ha;rcases aaJ.1 ha with ha|ha
 ·exact rC h ((abN.1 hs).2.2 a ha y (by simp))
 rw[aaL.1 ha];exact h
theorem Dr{α:Type}(X Y:List α)(y x:α):((X++y::x::Y).set (X.length+1) y).set X.length x=X++x::y::Y:=by rw[acw _ _ (by omega),acw _ _ (by omega)];simp
def ow:Bool→Nat
 |false=>50
 |true=>176
def Ss:Bool→Nat
 |false=>201
 |true=>248
theorem Su(tw:Bool):cS prog (Ss tw):=by
 cases tw
 ·exact(cB 201)
 exact(cB 248)
def Sv:Bool→Nat
 |false=>273
 |true=>287
theorem Qe(tw:Bool):cS prog (Sv tw):=by
 cases tw
 ·exact(cB 273)
 exact(cB 287)
def Sw:Bool→Nat
 |false=>247
 |true=>274
theorem VV(tw:Bool):cS prog (Sw tw):=by
 cases tw
 ·exact(cB 247)
 exact(cB 274)
def Sx:Bool→Nat
 |false=>202
 |true=>249
theorem Np(tw:Bool):cS prog (Sx tw):=by
 cases tw
 ·exact(cB 202)
 exact(cB 249)
def Sy:Bool→Nat
 |false=>140
 |true=>203
theorem VW(tw:Bool):cS prog (Sy tw):=by
 cases tw
 ·exact(cB 140)
 exact(cB 203)
def Sz:Bool→Nat
 |false=>77
 |true=>146
theorem SA(tw:Bool):cS prog (Sz tw):=by
 cases tw
 ·exact(cB 77)
 exact(cB 146)
abbrev gG(e:Nat)(ad:Option Addr)(n c:Nat)(xs:List bc):dc:=.row e 19 (.slice ad n c) n (fl xs)
theorem O5(tw:Bool){fo:Value}{kf:bc→Int×Int}{ad:Option Addr}{n c:Nat}{L:List dc}(U S V:List bc){g0 g:G}(hn:n=U.length+S.length+V.length)(hm:n≤1000000000)(hk:FB fo kf g)(hs:St g0 g (gG (ow tw) ad n c (U++S++V)::L)):
  CallsIn Wd 0 prog (Ss tw) #[.slice ad n c,vI (U.length:Nat),vI (U.length+S.length:Nat),fo] g.w (df g fun g' r=>r= .tuple #[]∧St g0 g' (gG (ow tw) ad n c (U++dI kf S++V)::L)):=by
 cases tw
 case' false=>let tw:=false
 case' true=>let tw:=true
 all_goals
  have aj:=G.le.refl g
  first|refine enter func201 rfl ntmps201 rfl ?_|refine enter func248 rfl ntmps248 rfl ?_
  refine aD rfl<|aw ?_
  refine aZ (fun m a' w=> ∃(d:Nat) (g':G),w=g'.w∧St g0 g' (gG (ow tw) ad n c (U++dI kf (S.take d)++(S.drop d++V))::L)∧G.le g g'∧1≤d∧(d≤S.length∨d=1)∧m=S.length+1-d∧
    Fr 53 [] [(0,.slice ad n c),(1,vI (U.length:Nat)),(2,vI (U.length+S.length:Nat)),(3,fo),(8,vI (U.length+d:Nat))] a') S.length
   (fun a' ha=>⟨1,g,rfl,?_,aj,aaz _,.inr rfl,rfl,ha.keep ⟨rfl,rfl,rfl,rfl,kI rfl (by rw[wq];simp),trivial⟩⟩) ?_
  ·have e:U++dI kf (S.take 1)++(S.drop 1++V)=U++S++V:=by
    cases S with
    |nil=>simp[dI]
    |cons s S=>simp[dI,ja]
   rw[e];exact hs
  clear hs aj;rintro m a' _ ⟨d,g',rfl,hs,aj,hd,hd2,rfl,dT⟩;revert a';refine bT<|ak<|aD rfl ?_;by_cases aV:d<S.length
  ·refine aG (b:=decide (((U.length+d:Nat):Int)<((U.length+S.length:Nat):Int))) (by simp;omega) rfl<|ar<|ai<|ak<|aw<|aD rfl<|aw ?_
   have e0:U++dI kf (S.take d)++(S.drop d++V)=(U++dI kf (S.take d))++S[d]::([]++(S.drop (d+1)++V)):=by rw[aa7 aV];simp only[aaG,aa0,aa1]
   rw[e0]at hs;generalize hW:S.drop (d+1)++V=W0 at hs;generalize hx:S[d]=x at hs;have ee:(dI kf (S.take d)).length=d:=by rw[(jv _).length_eq,aat];omega
   have hWl:W0.length+d+1+U.length=n:=by rw[←hW,aal,aaM];omega
   have VX:=kU (k:=kf) (S.take d);have e1:dI kf (S.take (d+1))=oH kf (dI kf (S.take d)) [x]:=by rw[←hx,aaX aV,qy];rfl
   generalize hq:dI kf (S.take d)=q at hs VX ee e1;have fE:=G.le.refl g';refine aZ (fun m a' w=> ∃(A B:List bc) (g2:G),w=g2.w∧St g0 g2 (gG (ow tw) ad n c (U++A++x::(B++W0))::L)∧G.le g' g2∧q=A++B∧(∀b∈B,kl kf x b=true)∧m=A.length∧
     Fr 53 [] [(0,.slice ad n c),(1,vI (U.length:Nat)),(2,vI (U.length+S.length:Nat)),(3,fo),(8,vI (U.length+d:Nat)),(9,vI (U.length+A.length:Nat))] a') d
    (fun a' ha=>⟨q,[],g',rfl,hs,fE,by simp,by simp,ee.symm,ha.keep ⟨rfl,rfl,rfl,rfl,rfl,kI rfl (by rw[ee]),trivial⟩⟩) ?_
   clear hs fE;rintro m a' _ ⟨A,B,g2,rfl,hs,fE,EZ,hB,rfl,dT⟩;have rD:A.length+B.length=d:=by rw[←aal,←EZ,ee]
   have aj:=aj.trans fE;revert a';rcases ach A with rfl|⟨A,y,rfl⟩
   ·refine bT<|ak<|ak ?_;apply aO hs (eA (.e (.bool false)::cV (gR (eA [])))) 17 [(16,34)] (by kernel_rfl) rfl
    ·refine cY [[],[]] [] hs rfl<|aW [(0,18),(1,19)] (fun gd hf=>bN rfl (ay rfl (bR _ T.ok rfl ⟨gd,rfl,bW.refl _,?_⟩))) ?_
     ·exact congrArg Value.bool (by simp)
     exact mX [[2],[3],[3],[3],[5,6,3],[7,3],[3],[3],[10,3],[9,11,3],[12,3],[4,8,13,3,3],[14,3],[3,15]] [] hs rfl
    clear hs;intro g5 hs ag;obtain⟨aj,fE⟩:=cA ag aj fE;refine bE<|bI rfl<|aJ<|aM<|aM<|b_<|aX<|ai<|ah<|Wp 3 rfl<|an<|fun a ha=>⟨S.length+1-(d+1),by omega,d+1,g5,rfl,?_,aj,by omega,by omega,rfl,ha.keep ⟨rfl,rfl,rfl,rfl,kW rfl,trivial⟩⟩
    have e2:=xE (A:=[]) (x:=x) (by simp) hB;rw[e1,EZ,hW];simp only[aa1]at e2⊢;rw[e2];simpa using hs
   rw[ab9]at*;obtain⟨b0,p0,rfl⟩: ∃b p,ad=some ⟨b,p,none⟩:=by
    rcases(hs.own 0 _ rfl).1.2 with⟨h0,_⟩|⟨b,off,cap,cur,hv,_⟩
    ·omega
    simp only[aaK]at hv;exact⟨b,off,hv.1⟩
   generalize hX:U++A=X;have Nq:X.length=U.length+A.length:=by rw[←hX,aal]
   have ej:U.length+(A++[y]).length=X.length+1:=by rw[Nq,aal];rfl
   rw[ej];have er:U++(A++[y])++x::(B++W0)=X++y::x::(B++W0):=by rw[←hX];simp
   rw[er]at hs;have Yo:X.length+1<n:=by simp only[aal,aaF]at rD;omega
   have gy:(X++y::x::(B++W0))[X.length]? =some y:=by simp
   have gx:(X++y::x::(B++W0))[X.length+1]? =some x:=by rw[aby (by omega)];simp
   refine bT<|ak<|ak ?_;apply aO hs (eA (.e (.bool true)::cV (.e (vI (X.length:Nat))::gR (fe [])))) 17 [(16,34)] (by kernel_rfl) rfl
   ·refine cY [[],[]] [] hs rfl<|aW [(0,18),(1,19)] (fun gd hf=>bN rfl (ay rfl (bR _ T.ok rfl ⟨gd,rfl,bW.refl _,?_⟩))) ?_
    ·exact congrArg Value.bool (by simp;omega)
    refine cY [[2],[3],[3],[3]] [] hs rfl<|aW [(5,23),(6,24),(3,21)] (fun gd hf=>dD rfl (ay rfl (dB (α:=bc) 0 rfl (hs.dr.call hf) rfl (by omega) (by omega) rfl rfl rfl rfl rfl rfl fun b p hb=>⟨gd,rfl,bW.refl _,?_⟩))) ?_
    ·obtain⟨rfl,rfl⟩:b0=b∧p0=p:=by simpa using hb
     rfl
    refine aW [(7,25),(3,21)] (fun gd hf=>bN rfl (ay rfl (eJ (α:=bc) 0 rfl (hs.dr.call hf) rfl rfl (j:=X.length+1) gx rfl rfl rfl (cC rfl))))<|cY [[3],[3]] [] hs rfl<|aW [(10,28),(3,21)] (fun gd hf=>bN rfl (ay rfl (bR _ T.ok rfl ⟨gd,rfl,bW.refl _,?_⟩))) ?_
    ·exact congrArg (Value.int .i64) (by rw[wq];omega)
    refine aW [(9,27),(11,29),(3,21)] (fun gd hf=>dD rfl (ay rfl (dB (α:=bc) 0 rfl (hs.dr.call hf) rfl (by omega) (by omega) rfl rfl rfl rfl rfl rfl fun b p hb=>⟨gd,rfl,bW.refl _,?_⟩))) ?_
    ·obtain⟨rfl,rfl⟩:b0=b∧p0=p:=by simpa using hb
     rfl
    exact aW [(12,30),(3,21)] (fun gd hf=>bN rfl (ay rfl (eJ (α:=bc) 0 rfl (hs.dr.call hf) rfl rfl (j:=X.length) gy rfl rfl rfl (cC rfl))))<|aW [(4,22),(8,26),(13,31),(3,21),(3,21)] (fun gd hf=>bU rfl (su rfl (ay rfl (fF rfl rfl rfl rfl rfl rfl (hk gd (aj.trans ((G.a_ _).trans hf.le)) x y) fun g' v h1 h2=>⟨g',rfl,h1,h2⟩))))<|mX [[14,3],[3,15]] [] hs rfl
   clear hs;intro g5 hs ag;obtain⟨aj,fE⟩:=cA ag aj fE;apply bE;cases oO:kl kf x y with
   |true=>
    refine aG (b:=decide (vN (kf x) (kf y)<0)) (by rw[n9];exact oO) rfl<|ar<|ai<|ak<|aw ?_;have nL:(X++y::x::(B++W0)).length=n:=by rw[aal,Nq];simp only[aal,aaw,aay]at rD⊢;omega
    apply rH (gR (.e (vI (X.length:Nat))::eA (.e (vI (X.length:Nat))::gR (eA (fe [.f Fact.any]))))) 16 [(2,39),(4,41),(13,50)] [15] [[0,1,5,6,7,8,9,10,11,12,13,14]]
     (fun s=>match s with|0=>gG (ow tw) (some ⟨b0,p0,none⟩) n c (X++y::x::(B++W0))::L|_+1=>gG (ow tw) (some ⟨b0,p0,none⟩) n c ((X++y::x::(B++W0)).set (X.length+1) y)::L) hs (by kernel_rfl) ⟨dw,trivial⟩
    ·refine Lm [[],[],[],[]] [] (by kernel_rfl) rfl<|dA (qe (js:=[(3,40)]) (by kernel_rfl) rfl fun s g' _ _ _ hf _=>cj rfl (ay rfl (bR _ T.ok rfl ⟨g',rfl,bW.refl _,?_⟩))) ?_
     ·exact congrArg (Value.int .i64) (by rw[wq];omega)
     refine Lm [[],[]] [] (by kernel_rfl) rfl<|dA (qe (js:=[(6,43)]) (by kernel_rfl) rfl fun s g' _ _ _ hf _=>cj rfl (ay rfl (bR _ T.ok rfl ⟨g',rfl,bW.refl _,?_⟩))) ?_
     ·exact congrArg (Value.int .i64) (by rw[wq];omega)
     refine dA (mZ 0 0 (js:=[(5,42),(7,44)]) (by kernel_rfl) (by kernel_rfl) ?_) ?_
     ·intro s g' _ h1 hf hJ;obtain rfl:s=0:=by omega
      refine bN rfl (ay rfl (dB (α:=bc) 0 rfl hJ rfl (by omega) (by omega) rfl rfl rfl rfl rfl rfl fun b p hb=>⟨g',rfl,bW.refl _,?_⟩));obtain⟨rfl,rfl⟩:b0=b∧p0=p:=by simpa using hb
      rfl
     refine dA (mZ 0 0 (js:=[(8,45)]) (by kernel_rfl) (by kernel_rfl) ?_) ?_
     ·intro s g' _ h1 hf hJ;obtain rfl:s=0:=by omega
      exact cj rfl (ay rfl (eJ (α:=bc) 0 rfl hJ rfl rfl (j:=X.length) gy rfl rfl rfl ⟨g',rfl,bW.refl _,rfl⟩))
     refine Lm [[],[]] [] (by kernel_rfl) rfl<|dA (mZ 0 0 (js:=[(10,47),(11,48)]) (by kernel_rfl) (by kernel_rfl) ?_) ?_
     ·intro s g' _ h1 hf hJ;obtain rfl:s=0:=by omega
      refine bN rfl (ay rfl (dB (α:=bc) 0 rfl hJ rfl (by omega) (by omega) rfl rfl rfl rfl rfl rfl fun b p hb=>⟨g',rfl,bW.refl _,?_⟩));obtain⟨rfl,rfl⟩:b0=b∧p0=p:=by simpa using hb
      rfl
     refine dA (mZ 0 0 (js:=[(12,49)]) (by kernel_rfl) (by kernel_rfl) ?_) ?_
     ·intro s g' _ h1 hf hJ;obtain rfl:s=0:=by omega
      exact cj rfl (ay rfl (eJ (α:=bc) 0 rfl hJ rfl rfl (j:=X.length+1) gx rfl rfl rfl ⟨g',rfl,bW.refl _,rfl⟩))
     refine dA (mZ 0 0 (js:=[(0,37),(1,38),(0,37),(1,38)]) (by kernel_rfl) (by kernel_rfl) ?_) ?_
     ·intro s g' _ h1 hf hJ;obtain rfl:s=0:=by omega
      refine su rfl (ay rfl (dB (α:=bc) 0 rfl hJ rfl (by omega) (by omega) rfl rfl rfl rfl rfl rfl fun b p hb=>⟨g',rfl,bW.refl _,?_⟩));obtain⟨rfl,rfl⟩:b0=b∧p0=p:=by simpa using hb
      rfl
     exact dA (yn 0 (js:=[(14,51),(9,46),(9,46)]) (by kernel_rfl) rfl fun g' hf hJ=>dD rfl (tg rfl (iE (α:=bc) 0 rfl hJ rfl rfl rfl (v:=y) (j:=X.length+1) (by omega) rfl rfl fun g3 hs hle=>⟨g3,rfl,⟨hle,hs⟩,trivial⟩)))<|AM
    clear hs;intro g6 hs ag;obtain⟨aj,fE⟩:=cA ag aj fE;refine dD rfl<|aN rfl rfl (dB (α:=bc) 0 rfl hs rfl (by omega) (by omega) rfl rfl rfl rfl rfl rfl fun b p hb=>?_);obtain⟨rfl,rfl⟩:b0=b∧p0=p:=by simpa using hb
    refine gw rfl<|iE (α:=bc) 0 rfl hs rfl rfl rfl (v:=x) (j:=X.length) (by rw[abI];omega) rfl rfl fun g7 hs ag=>?_;obtain⟨aj,fE⟩:=cA ag aj fE;replace hs:St g0 g7 (gG (ow tw) (some ⟨b0,p0,none⟩) n c (((X++y::x::(B++W0)).set (X.length+1) y).set X.length x)::L):=hs;rw[Dr]at hs;refine an<|aX<|ai<|ah<|Wp 3 rfl<|an<|fun a ha=>⟨A.length,by simp,A,y::B,g7,rfl,?_,fE,by rw[EZ];simp,?_,rfl,ha.keep ⟨rfl,rfl,rfl,rfl,rfl,kW rfl,trivial⟩⟩
    ·rw[←hX]at hs;simpa using hs
    intro b hb;rcases aav.1 hb with rfl|hb
    ·exact oO
    exact hB b hb
   |false=>
    refine bg (b:=decide (vN (kf x) (kf y)<0)) (by rw[n9];exact oO) rfl<|aJ<|aM<|aM<|b_<|aX<|ai<|ah<|Wp 3 rfl<|an<|fun a ha=>⟨S.length+1-(d+1),by omega,d+1,g5,rfl,?_,aj,by omega,by omega,rfl,ha.keep ⟨rfl,rfl,rfl,rfl,kW rfl,trivial⟩⟩
    have e2:=xE (A:=A++[y]) (x:=x) (Kh (by rw[EZ]at VX;exact(abN.1 VX).1) oO) hB;rw[e1,EZ,hW,e2];rw[←er]at hs;simpa using hs
  refine bg (b:=decide (((U.length+d:Nat):Int)<((U.length+S.length:Nat):Int))) (by simp;omega) rfl<|aJ<|aM<|aM<|b_<|nd rfl (df.intro aj ⟨rfl,?_⟩);rw[aaD (by omega),abr (by omega)]at hs;exact hs
theorem Ds{α:Type}(E H G:List α)(x y:α):((E++x::(H++y::G)).set E.length y).set (E.length+1+H.length) x=E++y::(H++x::G):=by rw[acw _ _ (by omega),acw _ _ (by omega),Nat.sub_self,List.set_cons_zero,show E.length+1+H.length-E.length=H.length+1 from by omega,List.set_cons_succ,acw _ _ (by omega),Nat.sub_self,List.set_cons_zero]
theorem B6{α:Type}(E H G:List α)(x y:α):(E++x::(H++y::G))[E.length+1+H.length]? =some y:=by rw[aby (by omega),show E.length+1+H.length-E.length=H.length+1 from by omega,ab2,aby (by omega),Nat.sub_self];rfl
theorem B7(tw:Bool){fo:Value}{ad:Option Addr}{n c:Nat}{L:List dc}(U X M Y V:List bc){g0 g:G}(OI:X.length=Y.length)(hn:n=U.length+X.length+M.length+Y.length+V.length)(hm:n≤1000000000)(hs:St g0 g (gG (ow tw) ad n c (U++X++M++Y++V)::L)):
  CallsIn Wd 0 prog (Sv tw) #[.slice ad n c,vI (U.length:Nat),vI (U.length+X.length+M.length:Nat),vI (X.length:Nat),fo] g.w (df g fun g' r=>r= .tuple #[]∧St g0 g' (gG (ow tw) ad n c (U++Y++M++X++V)::L)):=by
 cases tw
 case' false=>let tw:=false
 case' true=>let tw:=true
 all_goals
  have aj:=G.le.refl g
  first|refine enter func273 rfl ntmps273 rfl ?_|refine enter func287 rfl ntmps287 rfl ?_
  refine aD rfl<|aw ?_
  refine aZ (fun m a' w=> ∃(i:Nat) (g':G),w=g'.w∧St g0 g' (gG (ow tw) ad n c (U++Y.take i++(X.drop i++M++X.take i)++(Y.drop i++V))::L)∧G.le g g'∧i≤X.length∧m=X.length-i∧
    Fr 38 [] [(0,.slice ad n c),(1,vI (U.length:Nat)),(2,vI (U.length+X.length+M.length:Nat)),(3,vI (X.length:Nat)),(4,fo),(10,vI (i:Nat))] a') X.length
   (fun a' ha=>⟨0,g,rfl,by simpa using hs,aj,aar _,rfl,ha.kp rfl⟩) ?_
  clear hs aj;rintro m a' _ ⟨i,g',rfl,hs,aj,hi,rfl,dT⟩;revert a';refine bT<|ak<|aD rfl ?_;by_cases aV:i<X.length
  ·refine aG (b:=decide ((i:Int)<(X.length:Int))) (by simp;omega) rfl ?_;have Yp:i<Y.length:=by omega
   obtain⟨b0,p0,rfl⟩: ∃b p,ad=some ⟨b,p,none⟩:=by
    rcases(hs.own 0 _ rfl).1.2 with⟨h0,_⟩|⟨b,off,cap,cur,hv,_⟩
    ·omega
    simp only[aaK]at hv;exact⟨b,off,hv.1⟩
   have tX:X.take (i+1)=X.take i++[X[i]]:=aaX aV;have tY:Y.take (i+1)=Y.take i++[Y[i]]:=aaX Yp;have dX:X.drop i=X[i]::X.drop (i+1):=aa7 aV;have dY:Y.drop i=Y[i]::Y.drop (i+1):=aa7 Yp;have e_:(X.drop (i+1)).length=X.length-(i+1):=aaM;have Yq:(X.take i).length=i:=by rw[aat];omega
   have xN:(Y.take i).length=i:=by rw[aat];omega
   have cM:(Y.drop (i+1)).length=Y.length-(i+1):=aaM;generalize X[i]=x at tX dX;generalize Y[i]=y at tY dY;have er:U++Y.take i++(X.drop i++M++X.take i)++(Y.drop i++V)=(U++Y.take i)++x::((X.drop (i+1)++M++X.take i)++y::(Y.drop (i+1)++V)):=by rw[dX,dY];simp only[aaG,aa0]
   have ew:(U++Y.take i)++y::((X.drop (i+1)++M++X.take i)++x::(Y.drop (i+1)++V))=U++Y.take (i+1)++(X.drop (i+1)++M++X.take (i+1))++(Y.drop (i+1)++V):=by rw[tX,tY];simp only[aaG,aa0,aa1]
   rw[er]at hs;generalize hE:U++Y.take i=E at hs ew;generalize hH:X.drop (i+1)++M++X.take i=H at hs ew;generalize hG:Y.drop (i+1)++V=Gr at hs ew;have hEl:E.length=U.length+i:=by rw[←hE,aal,xN]
   have hHl:H.length=X.length-(i+1)+M.length+i:=by rw[←hH,aal,aal,e_,Yq]
   have Yr:(E++x::(H++y::Gr)).length=n:=by rw[←hG];simp only[aal,aaw];omega
   have gx:(E++x::(H++y::Gr))[E.length]? =some x:=by simp
   have gy:=B6 E H Gr x y;clear e_ Yq xN cM;refine ar<|ai<|ak<|aw ?_
   apply rH (eA (fe (.e (vI (E.length:Nat))::eA (fe (.e (vI (E.length+1+H.length:Nat))::eA (fe (.e (vI (E.length+1+H.length:Nat))::gR (fe (.e (vI (E.length:Nat))::eA (fe [.f Fact.any])))))))))) 22 [(4,20),(7,23),(19,35)] [21] [[0,1,2,3,8,9,10,11,12,13,14,15,16,17,18,19,20]]
    (fun s=>match s with|0=>gG (ow tw) (some ⟨b0,p0,none⟩) n c (E++x::(H++y::Gr))::L|_+1=>gG (ow tw) (some ⟨b0,p0,none⟩) n c ((E++x::(H++y::Gr)).set E.length y)::L) hs (by kernel_rfl) ⟨dw,trivial⟩
   ·refine Lm [[],[],[]] [] (by kernel_rfl) rfl<|dA (qe (js:=[(1,17),(2,18)]) (by kernel_rfl) rfl fun s g' _ _ _ hf _=>bN rfl (ay rfl (bR _ T.ok rfl ⟨g',rfl,bW.refl _,?_⟩))) ?_
    ·exact congrArg (Value.int .i64) (by rw[wq];omega)
    refine Lm [[],[],[]] [] (by kernel_rfl) rfl<|dA (qe (js:=[(5,21),(6,22)]) (by kernel_rfl) rfl fun s g' _ _ _ hf _=>bN rfl (ay rfl (bR _ T.ok rfl ⟨g',rfl,bW.refl _,?_⟩))) ?_
    ·exact congrArg (Value.int .i64) (by rw[wq];omega)
    refine Lm [[],[],[]] [] (by kernel_rfl) rfl<|dA (qe (js:=[(9,25),(10,26)]) (by kernel_rfl) rfl fun s g' _ _ _ hf _=>bN rfl (ay rfl (bR _ T.ok rfl ⟨g',rfl,bW.refl _,?_⟩))) ?_
    ·exact congrArg (Value.int .i64) (by rw[wq];omega)
    refine dA (mZ 0 0 (js:=[(8,24),(11,27)]) (by kernel_rfl) (by kernel_rfl) ?_) ?_
    ·intro s g' _ h1 hf hJ;obtain rfl:s=0:=by omega
     refine bN rfl (ay rfl (dB (α:=bc) 0 rfl hJ rfl (by omega) (by omega) rfl rfl rfl rfl rfl rfl fun b p hb=>⟨g',rfl,bW.refl _,?_⟩));obtain⟨rfl,rfl⟩:b0=b∧p0=p:=by simpa using hb
     rfl
    refine dA (mZ 0 0 (js:=[(12,28)]) (by kernel_rfl) (by kernel_rfl) ?_) ?_
    ·intro s g' _ h1 hf hJ;obtain rfl:s=0:=by omega
     exact cj rfl (ay rfl (eJ (α:=bc) 0 rfl hJ rfl rfl (j:=E.length+1+H.length) gy rfl rfl rfl ⟨g',rfl,bW.refl _,rfl⟩))
    refine Lm [[],[],[]] [] (by kernel_rfl) rfl<|dA (qe (js:=[(15,31),(16,32)]) (by kernel_rfl) rfl fun s g' _ _ _ hf _=>bN rfl (ay rfl (bR _ T.ok rfl ⟨g',rfl,bW.refl _,?_⟩))) ?_
    ·exact congrArg (Value.int .i64) (by rw[wq];omega)
    refine dA (mZ 0 0 (js:=[(14,30),(17,33)]) (by kernel_rfl) (by kernel_rfl) ?_) ?_
    ·intro s g' _ h1 hf hJ;obtain rfl:s=0:=by omega
     refine bN rfl (ay rfl (dB (α:=bc) 0 rfl hJ rfl (by omega) (by omega) rfl rfl rfl rfl rfl rfl fun b p hb=>⟨g',rfl,bW.refl _,?_⟩));obtain⟨rfl,rfl⟩:b0=b∧p0=p:=by simpa using hb
     rfl
    refine dA (mZ 0 0 (js:=[(18,34)]) (by kernel_rfl) (by kernel_rfl) ?_) ?_
    ·intro s g' _ h1 hf hJ;obtain rfl:s=0:=by omega
     exact cj rfl (ay rfl (eJ (α:=bc) 0 rfl hJ rfl rfl (j:=E.length) gx rfl rfl rfl ⟨g',rfl,bW.refl _,rfl⟩))
    refine dA (mZ 0 0 (js:=[(0,16),(3,19),(0,16),(3,19)]) (by kernel_rfl) (by kernel_rfl) ?_) ?_
    ·intro s g' _ h1 hf hJ;obtain rfl:s=0:=by omega
     refine su rfl (ay rfl (dB (α:=bc) 0 rfl hJ rfl (by omega) (by omega) rfl rfl rfl rfl rfl rfl fun b p hb=>⟨g',rfl,bW.refl _,?_⟩));obtain⟨rfl,rfl⟩:b0=b∧p0=p:=by simpa using hb
     rfl
    exact dA (yn 0 (js:=[(20,36),(13,29),(13,29)]) (by kernel_rfl) rfl fun g' hf hJ=>dD rfl (tg rfl (iE (α:=bc) 0 rfl hJ rfl rfl rfl (v:=y) (j:=E.length) (by omega) rfl rfl fun g3 hs hle=>⟨g3,rfl,⟨hle,hs⟩,trivial⟩)))<|AM
   clear hs;intro g6 hs ag;replace aj:=G.le.trans aj ag;refine dD rfl<|aN rfl rfl (dB (α:=bc) 0 rfl hs rfl (by omega) (by omega) rfl rfl rfl rfl rfl rfl fun b p hb=>?_);obtain⟨rfl,rfl⟩:b0=b∧p0=p:=by simpa using hb
   refine gw rfl<|iE (α:=bc) 0 rfl hs rfl rfl rfl (v:=x) (j:=E.length+1+H.length) (by rw[abI];omega) rfl rfl fun g7 hs ag=>?_;replace aj:=G.le.trans aj ag;replace hs:St g0 g7 (gG (ow tw) (some ⟨b0,p0,none⟩) n c (((E++x::(H++y::Gr)).set E.length y).set (E.length+1+H.length) x)::L):=hs;rw[Ds,ew,←hG]at hs;exact an<|aX<|ai<|ah<|Wp 3 rfl<|an<|fun a ha=>⟨X.length-(i+1),by omega,i+1,g7,rfl,hs,aj,by omega,rfl,ha.keep ⟨rfl,rfl,rfl,rfl,rfl,kW rfl,trivial⟩⟩
  refine bg (b:=decide ((i:Int)<(X.length:Int))) (by simp;omega) rfl<|aJ<|aM<|aM<|b_<|nd rfl (df.intro aj ⟨rfl,?_⟩);rw[aaD (by omega),abr (l:=X) (by omega),abr (l:=Y) (by omega),aaD (l:=X) (by omega)]at hs
  simpa using hs
theorem Ki(tw:Bool){fo:Value}{ad:Option Addr}{n c:Nat}{L:List dc}(U X Y V:List bc){g0 g:G}(hX:0<X.length)(hY:0<Y.length)(hn:n=U.length+X.length+Y.length+V.length)(hm:n≤1000000000)(hs:St g0 g (gG (ow tw) ad n c (U++X++Y++V)::L)):
  CallsIn Wd 0 prog (Sw tw) #[.slice ad n c,vI (U.length:Nat),vI (U.length+X.length:Nat),vI (U.length+X.length+Y.length:Nat),fo] g.w (df g fun g' r=>r= .tuple #[]∧St g0 g' (gG (ow tw) ad n c (U++Y++X++V)::L)):=by
 cases tw
 case' false=>let tw:=false
 case' true=>let tw:=true
 all_goals
  have aj:=G.le.refl g
  first|refine enter func247 rfl ntmps247 rfl ?_|refine enter func274 rfl ntmps274 rfl ?_
  refine aD rfl<|aD rfl<|ak<|aw ?_
  refine aZ (fun m a' w=> ∃(Y1 X2 Y2 X1:List bc) (g':G),w=g'.w∧St g0 g' (gG (ow tw) ad n c (U++Y1++X2++Y2++(X1++V))::L)∧G.le g g'∧0<X2.length∧0<Y2.length∧U.length+Y1.length+X2.length=U.length+X.length∧Y++X=Y1++(Y2++X2)++X1∧m=X2.length+Y2.length∧
    Fr 58 [] [(0,.slice ad n c),(1,vI (U.length:Nat)),(2,vI (U.length+X.length:Nat)),(3,vI (U.length+X.length+Y.length:Nat)),(4,fo),(10,vI (X2.length:Nat)),(11,vI (Y2.length:Nat))] a') (X.length+Y.length)
   (fun a' ha=>⟨[],X,Y,[],g,rfl,by simpa using hs,aj,hX,hY,by simp,by simp,rfl,ha.keep ⟨rfl,rfl,rfl,rfl,rfl,kW rfl,kW rfl,trivial⟩⟩) ?_
  clear hs aj;rintro m a' _ ⟨Y1,X2,Y2,X1,g',rfl,hs,aj,h1,h2,h3,h4,rfl,dT⟩;have h5:X.length+Y.length=Y1.length+(Y2.length+X2.length)+X1.length:=by have:=congrArg List.length h4;simp only[aal]at this;omega
  revert a';refine bT<|ak<|aD rfl ?_;by_cases he:X2.length=Y2.length
  ·refine bg (b:=(X2.length:Int) !=(Y2.length:Int)) (by simp;omega) rfl<|aJ<|aM<|aM<|b_<|ai<|ah<|Wp 7 rfl<|cT (vI ((U++Y1).length:Nat)) (t:=53) rfl (congrArg (Value.int .i64) (by rw[wq,aal];omega))<|cT (vI ((U++Y1).length+X2.length+([]:List bc).length:Nat)) (t:=54) rfl (congrArg (Value.int .i64) (by rw[aal,aay];omega))<|aN rfl rfl<|lu (Qe tw) bJ rfl rfl rfl rfl rfl (B7 tw (U++Y1) X2 [] Y2 (X1++V) he (by simp only[aal,aay];omega) hm (by simpa using hs)) ?_;clear hs;rintro g5 _ ag ⟨rfl,hs⟩;replace aj:=G.le.trans aj ag;refine an<|nd rfl (df.intro aj ⟨rfl,?_⟩);have e:U++Y++X++V=U++Y1++Y2++[]++X2++(X1++V):=by rw[aaG U Y X,h4];simp only[aaG,aa1]
   rw[e];exact hs
  refine aG (b:=(X2.length:Int) !=(Y2.length:Int)) (by simp;omega) rfl<|ar<|ai<|aw<|aD rfl ?_;by_cases aV:Y2.length<X2.length
  ·refine aG (b:=decide ((Y2.length:Int)<(X2.length:Int))) (by simp;omega) rfl ?_;have l1:(X2.take Y2.length).length=Y2.length:=by rw[aat];omega
   have l2:(X2.drop Y2.length).length=X2.length-Y2.length:=aaM;have eX:=aaY Y2.length X2;generalize X2.take Y2.length=Xa at l1 eX;generalize X2.drop Y2.length=Xb at l2 eX;refine ck 7 rfl<|cT (vI ((U++Y1).length:Nat)) (t:=27) rfl (congrArg (Value.int .i64) (by rw[wq,aal];omega))<|cT (vI ((U++Y1).length+Xa.length+Xb.length:Nat)) (t:=28) rfl (congrArg (Value.int .i64) (by rw[aal];omega))<|cT (vI (Xa.length:Nat)) (t:=29) rfl (congrArg (Value.int .i64) (by omega))<|aN rfl rfl<|lu (Qe tw) bJ rfl rfl rfl rfl rfl (B7 tw (U++Y1) Xa Xb Y2 (X1++V) l1 (by simp only[aal];omega) hm (by rw[←eX]at hs;simpa using hs)) ?_;clear hs;rintro g5 _ ag ⟨rfl,hs⟩;replace aj:=G.le.trans aj ag;refine bE<|ah<|Wp 4 rfl<|an<|aX<|fun a ha=>⟨X2.length,by omega,Y1++Y2,Xb,Xa,X1,g5,rfl,by simpa using hs,aj,by omega,by omega,by simp only[aal];omega,by rw[h4,←eX];simp only[aaG],by omega,ha.keep ⟨rfl,rfl,rfl,rfl,rfl,kW rfl,kJ rfl,trivial⟩⟩
  refine bg (b:=decide ((Y2.length:Int)<(X2.length:Int))) (by simp;omega) rfl ?_;have l1:(Y2.take (Y2.length-X2.length)).length=Y2.length-X2.length:=by rw[aat];omega
  have l2:(Y2.drop (Y2.length-X2.length)).length=Y2.length-(Y2.length-X2.length):=aaM;have eY:=aaY (Y2.length-X2.length) Y2;generalize Y2.take (Y2.length-X2.length)=Ya at l1 eY;generalize Y2.drop (Y2.length-X2.length)=Yb at l2 eY;refine ck 11 rfl<|cT (vI ((U++Y1).length:Nat)) (t:=38) rfl (congrArg (Value.int .i64) (by rw[wq,aal];omega))<|cT (vI ((U++Y1).length+X2.length+Ya.length:Nat)) (t:=43) rfl (congrArg (Value.int .i64) (by rw[wq (n:=_+_),wq,aal];omega))<|aN rfl rfl<|lu (Qe tw) bJ rfl rfl rfl rfl rfl (B7 tw (U++Y1) X2 Ya Yb (X1++V) (by omega) (by simp only[aal];omega) hm (by rw[←eY]at hs;simpa using hs)) ?_;clear hs;rintro g5 _ ag ⟨rfl,hs⟩;replace aj:=G.le.trans aj ag;refine bE<|ah<|Wp 4 rfl<|an<|aX<|fun a ha=>⟨Y2.length,by omega,Y1,Yb,Ya,X2++X1,g5,rfl,by simpa using hs,aj,by omega,by omega,by omega,by rw[h4,←eY];simp only[aaG],by omega,ha.keep ⟨rfl,rfl,rfl,rfl,rfl,kJ rfl,kW rfl,trivial⟩⟩
end Go.Proofs.YtkpojaffabjibaaGreatDoor
