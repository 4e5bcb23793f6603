/- Parts of the proof, from: The types that the walks ask about: their shapes, sizes and zero values. Printed by a program out of the translation. -/
import Derived.Test.YtbfjdfecgiegpaaGreatDoorYa
import Derived.Test.YtbfjdfecgiegpaaGreatDoorProg
import Derived.KernelRfl
import Derived.Test.YtbfjdfecgiegpaaGreatDoorYc
import Derived.Lib.Bytealg
import Derived.Maps.RangeRun
namespace Go.Proofs.YtbfjdfecgiegpaaGreatDoor
open Go Go.K Tryz
set_option maxRecDepth 100000
def T:Tb:=[(3,⟨.int .i64,1,8,.int .i64 0⟩),(4,⟨.bool,1,1,.bool false⟩),(31,⟨.slice 3,1,24,.slice none 0 0⟩),(40,⟨.struct [(3,0),(3,1),(3,2),(3,3),(4,4),(3,5),(3,6),(3,7),(3,8),(3,9),(3,10),(3,11),(3,12),(3,13),(3,14),(3,15),(3,16),(3,17),(9,18)],19,160,.agg #[.int .i64 0,.int .i64 0,.int .i64 0,.int .i64 0,.bool false,.int .i64 0,.int .i64 0,.int .i64 0,.int .i64 0,.int .i64 0,.int .i64 0,.int .i64 0,.int .i64 0,.int .i64 0,.int .i64 0,.int .i64 0,.int .i64 0,.int .i64 0,.string ByteArray.empty]⟩),(22,⟨.slice 40,1,24,.slice none 0 0⟩),(9,⟨.string,1,16,.string ByteArray.empty⟩),(1,⟨.other,1,8,.nilFunc⟩),(28,⟨.struct [(22,0),(22,1),(22,2),(22,3),(22,4),(22,5),(22,6),(22,7),(22,8),(22,9),(22,10)],11,264,.agg #[.slice none 0 0,.slice none 0 0,.slice none 0 0,.slice none 0 0,.slice none 0 0,.slice none 0 0,.slice none 0 0,.slice none 0 0,.slice none 0 0,.slice none 0 0,.slice none 0 0]⟩),(67,⟨.struct [(3,0),(3,1),(64,2),(65,3)],4,64,.agg #[.int .i64 0,.int .i64 0,.slice none 0 0,.slice none 0 0]⟩),(2,⟨.int .i64,1,8,.int .i64 0⟩),(24,⟨.struct [(3,0),(3,1),(3,2),(3,3),(3,4),(3,5),(3,6)],7,56,.agg #[.int .i64 0,.int .i64 0,.int .i64 0,.int .i64 0,.int .i64 0,.int .i64 0,.int .i64 0]⟩),(115,⟨.struct [(3,0),(31,1),(3,2),(3,3),(31,4),(3,5),(3,6)],7,88,.agg #[.int .i64 0,.slice none 0 0,.int .i64 0,.int .i64 0,.slice none 0 0,.int .i64 0,.int .i64 0]⟩),(64,⟨.slice 115,1,24,.slice none 0 0⟩),(5,⟨.int .u8,1,1,.int .u8 0⟩),(237,⟨.ptr 239,1,8,.pointer none⟩),(87,⟨.slice 132,1,24,.slice none 0 0⟩),(150,⟨.slice 152,1,24,.slice none 0 0⟩),(177,⟨.slice 9,1,24,.slice none 0 0⟩),(194,⟨.struct [(3,0),(3,1),(3,2)],3,24,.agg #[.int .i64 0,.int .i64 0,.int .i64 0]⟩),(132,⟨.struct [(130,0),(3,1),(3,2)],3,24,.agg #[.nilFunc,.int .i64 0,.int .i64 0]⟩),(152,⟨.struct [(3,0),(3,1),(3,2),(3,3),(4,4),(3,5),(3,6),(3,7),(3,8),(3,9),(3,10),(3,11),(3,12),(3,13),(3,14),(3,15),(3,16),(3,17),(9,18)],19,160,.agg #[.int .i64 0,.int .i64 0,.int .i64 0,.int .i64 0,.bool false,.int .i64 0,.int .i64 0,.int .i64 0,.int .i64 0,.int .i64 0,.int .i64 0,.int .i64 0,.int .i64 0,.int .i64 0,.int .i64 0,.int .i64 0,.int .i64 0,.int .i64 0,.string ByteArray.empty]⟩),(65,⟨.slice 194,1,24,.slice none 0 0⟩),(185,⟨.slice 4,1,24,.slice none 0 0⟩),(112,⟨.int .u64,1,8,.int .u64 0⟩),(101,⟨.other,1,8,.nilFunc⟩),(69,⟨.struct [(67,0),(4,4),(22,5)],6,96,.agg #[.int .i64 0,.int .i64 0,.slice none 0 0,.slice none 0 0,.bool false,.slice none 0 0]⟩),(239,⟨.struct [(9,0),(3,1),(4,2)],3,32,.agg #[.string ByteArray.empty,.int .i64 0,.bool false]⟩),(6,⟨.int .u8,1,1,.int .u8 0⟩),(93,⟨.int .i64,1,8,.int .i64 0⟩),(134,⟨.ptr 40,1,8,.pointer none⟩),(212,⟨.struct [(40,0),(52,19)],20,168,.agg #[.int .i64 0,.int .i64 0,.int .i64 0,.int .i64 0,.bool false,.int .i64 0,.int .i64 0,.int .i64 0,.int .i64 0,.int .i64 0,.int .i64 0,.int .i64 0,.int .i64 0,.int .i64 0,.int .i64 0,.int .i64 0,.int .i64 0,.int .i64 0,.string ByteArray.empty,.pointer none]⟩),(52,⟨.ptr 28,1,8,.pointer none⟩),(89,⟨.struct [(87,0),(87,1),(58,2),(4,3)],4,64,.agg #[.slice none 0 0,.slice none 0 0,.nilFunc,.bool false]⟩),(51,⟨.struct [(48,0),(49,1)],2,16,.agg #[.nilFunc,.nilFunc]⟩),(133,⟨.ptr 3,1,8,.pointer none⟩),(97,⟨.arr 2 3,2,16,.agg #[.int .i64 0,.int .i64 0]⟩),(155,⟨.other,1,8,.nilFunc⟩),(7,⟨.struct [(2,0),(3,1),(4,2),(6,3)],4,24,.agg #[.int .i64 0,.int .i64 0,.bool false,.int .u8 0]⟩),(58,⟨.other,1,8,.nilFunc⟩),(252,⟨.struct [(3,0),(3,1),(3,2)],3,24,.agg #[.int .i64 0,.int .i64 0,.int .i64 0]⟩),(47,⟨.ptr 22,1,8,.pointer none⟩),(174,⟨.int .u64,1,8,.int .u64 0⟩),(45,⟨.map 3 51,1,8,.map none⟩),(76,⟨.ptr 79,1,8,.pointer none⟩),(77,⟨.slice 5,1,24,.slice none 0 0⟩),(85,⟨.other,1,8,.nilFunc⟩),(106,⟨.map 3 3,1,8,.map none⟩),(201,⟨.slice 87,1,24,.slice none 0 0⟩),(124,⟨.struct [(3,0),(31,1)],2,32,.agg #[.int .i64 0,.slice none 0 0]⟩),(181,⟨.ptr 67,1,8,.pointer none⟩),(104,⟨.other,1,8,.nilFunc⟩),(75,⟨.ptr 81,1,8,.pointer none⟩),(90,⟨.map 3 89,1,8,.map none⟩),(130,⟨.other,1,8,.nilFunc⟩),(116,⟨.other,1,8,.nilFunc⟩),(161,⟨.struct [(3,0),(25,1)],2,16,.agg #[.int .i64 0,.nilFunc]⟩),(235,⟨.slice 31,1,24,.slice none 0 0⟩),(254,⟨.slice 252,1,24,.slice none 0 0⟩),(8,⟨.struct [(2,0),(3,1),(4,2),(6,3)],4,24,.agg #[.int .i64 0,.int .i64 0,.bool false,.int .u8 0]⟩),(10,⟨.string,1,16,.string ByteArray.empty⟩),(13,⟨.struct [(9,0),(12,1)],2,24,.agg #[.string ByteArray.empty,.int .u64 0]⟩),(105,⟨.map 3 3,1,8,.map none⟩),(14,⟨.struct [(9,0),(12,1)],2,24,.agg #[.string ByteArray.empty,.int .u64 0]⟩),(207,⟨.map 3 214,1,8,.map none⟩),(11,⟨.string,1,16,.string ByteArray.empty⟩),(49,⟨.other,1,8,.nilFunc⟩),(111,⟨.other,1,8,.nilFunc⟩),(15,⟨.ptr 310,1,8,.pointer none⟩),(46,⟨.other,1,8,.nilFunc⟩),(79,⟨.struct [(76,0),(77,1)],2,32,.agg #[.pointer none,.slice none 0 0]⟩),(12,⟨.int .u64,1,8,.int .u64 0⟩),(81,⟨.struct [(79,0)],2,32,.agg #[.pointer none,.slice none 0 0]⟩),(109,⟨.other,1,8,.nilFunc⟩),(206,⟨.arr 4 3,4,32,.agg #[.int .i64 0,.int .i64 0,.int .i64 0,.int .i64 0]⟩),(17,⟨.ptr 320,1,8,.pointer none⟩),(18,⟨.struct [(17,0)],1,8,.agg #[.pointer none]⟩),(25,⟨.other,1,8,.nilFunc⟩),(41,⟨.map 9 40,1,8,.map none⟩),(162,⟨.slice 161,1,24,.slice none 0 0⟩),(99,⟨.other,1,8,.nilFunc⟩),(108,⟨.other,1,8,.nilFunc⟩),(137,⟨.other,1,16,.nilIface⟩),(228,⟨.other,1,8,.nilFunc⟩),(233,⟨.other,1,8,.nilFunc⟩),(20,⟨.other,1,16,.nilIface⟩),(110,⟨.other,1,8,.nilFunc⟩),(268,⟨.other,1,8,.nilFunc⟩),(48,⟨.other,1,8,.nilFunc⟩),(30,⟨.slice 28,1,24,.slice none 0 0⟩),(84,⟨.other,1,8,.nilFunc⟩),(114,⟨.struct [(3,0),(31,1),(3,2),(3,3),(31,4),(3,5),(3,6)],7,88,.agg #[.int .i64 0,.slice none 0 0,.int .i64 0,.int .i64 0,.slice none 0 0,.int .i64 0,.int .i64 0]⟩),(119,⟨.other,1,8,.nilFunc⟩),(120,⟨.other,1,8,.nilFunc⟩),(209,⟨.other,1,8,.nilFunc⟩),(50,⟨.struct [(48,0),(49,1)],2,16,.agg #[.nilFunc,.nilFunc]⟩),(98,⟨.other,1,8,.nilFunc⟩),(107,⟨.other,1,8,.nilFunc⟩),(148,⟨.other,1,8,.nilFunc⟩),(153,⟨.other,1,8,.nilFunc⟩),(158,⟨.other,1,8,.nilFunc⟩),(159,⟨.other,1,8,.nilFunc⟩),(199,⟨.other,1,8,.nilFunc⟩),(273,⟨.struct [],0,0,.agg #[]⟩),(16,⟨.ptr 313,1,8,.pointer none⟩),(100,⟨.other,1,8,.nilFunc⟩),(144,⟨.ptr 5,1,8,.pointer none⟩),(214,⟨.struct [],0,0,.agg #[]⟩),(245,⟨.other,1,8,.nilFunc⟩),(250,⟨.other,1,8,.nilFunc⟩),(35,⟨.other,1,8,.nilFunc⟩),(44,⟨.other,1,8,.nilFunc⟩),(62,⟨.other,1,8,.nilFunc⟩),(96,⟨.other,1,8,.nilFunc⟩),(122,⟨.other,1,8,.nilFunc⟩),(123,⟨.struct [(3,0),(31,1)],2,32,.agg #[.int .i64 0,.slice none 0 0]⟩),(131,⟨.struct [(130,0),(3,1),(3,2)],3,24,.agg #[.nilFunc,.int .i64 0,.int .i64 0]⟩),(135,⟨.other,1,8,.nilFunc⟩),(136,⟨.other,1,16,.nilIface⟩),(140,⟨.other,1,8,.nilFunc⟩),(157,⟨.other,1,8,.nilFunc⟩),(186,⟨.other,1,8,.nilFunc⟩),(198,⟨.other,1,8,.nilFunc⟩),(202,⟨.other,1,8,.nilFunc⟩),(208,⟨.other,1,8,.nilFunc⟩),(215,⟨.other,1,8,.nilFunc⟩),(217,⟨.int .u64,1,8,.int .u64 0⟩),(231,⟨.other,1,8,.nilFunc⟩),(236,⟨.other,1,8,.nilFunc⟩),(241,⟨.other,1,8,.nilFunc⟩),(255,⟨.other,1,8,.nilFunc⟩),(257,⟨.other,1,8,.nilFunc⟩),(310,⟨.struct [(17,0),(17,1),(17,2),(9,3)],4,40,.agg #[.pointer none,.pointer none,.pointer none,.string ByteArray.empty]⟩),(313,⟨.struct [(311,0)],0,0,.agg #[]⟩),(320,⟨.struct [(12,0),(12,1),(172,2),(314,3),(5,4),(5,5),(315,6),(316,7),(144,8),(317,9),(318,10)],11,48,.agg #[.int .u64 0,.int .u64 0,.int .u32 0,.int .u8 0,.int .u8 0,.int .u8 0,.int .u8 0,.nilFunc,.pointer none,.int .i32 0,.int .i32 0]⟩)]
theorem T.ok:Tb.ok prog T:=by repeat (first|exact trivial|refine⟨TI.LW (by kernel_rfl) (by kernel_rfl),?_⟩)
theorem aK(f:FuncId):Wd.fn f:=trivial
instance:eK prog:=⟨T,T.ok,by kernel_rfl⟩
instance:HV prog:=⟨[4,5,6,7,8,9,10,11,12,13,14,15,16,17,18,19,20,21,22,23,24,25,26,27,28,29,30,31,32,33,34,35,36,37,38,39,40,41,42,43,44,45,46,47,48,49,50,51,52,53,54,55,56,57,58,59,60,61,62,63,64,65,66,67,68,69,70,71,72,73,76,77,78,79,80,81,82,83,84,85,86,87,88,89,90,91,92,93,94,95,96,97,98,99,100,101,102,103,104,105,106,107,108,109,110,111,112,113,114,115,116,117,118,120,121,122,123,124,125,126,127,128,129,130,131,132,133,134,135,136,137,138,139,140,152,153,154,155,156,157,158,159,160,161,162,163,164,165,166,167,168,169,170,171,172,173,174,175,176,177,178,179,180,182,183,184,185,186,187,188,189,190,191,197,198,199,202,203,204,205,206,207,208,209,210,211,212,213,214,215,216,217,218,219,220,221,222,223,224,225,226,227,228,229,230,231,233,234,235,236,237,238,239,240,241,246,247,248,249,250,251,252,253,254,255,256,257,258,259,260,261,262,263,264,265,266,271,273,274,275],by kernel_rfl⟩
theorem Wc(f:Nat)(h:(HV.l prog).contains f=true:=by kernel_rfl):ag prog f:=MA h
end Go.Proofs.YtbfjdfecgiegpaaGreatDoor
namespace Go.K
open Go
class Mn(p:Prop)(g g':G)(q:outParam Prop):Prop where
 mn:g.le g'→p→q
variable {g g':G} {A B C D E F A' B' C' D' E' F':Prop}
instance{α:Type}[El α]{v:Value}{xs:List α}:Mn (Rs g v xs) g g' (Rs g' v xs):=⟨fun h a=>a.mono h⟩
instance{α:Type}[El α]{cs:List Value}{xs:List α}:Mn (cY g cs xs) g g' (cY g' cs xs):=⟨fun h a=>a.mono h⟩
instance{b o:Nat}{ys:List Value}:Mn (EP g b o ys) g g' (EP g' b o ys):=⟨fun h a=>a.mono h⟩
instance{g0:G}:Mn (G.le g0 g) g g' (G.le g0 g'):=⟨fun h a=>a.trans h⟩
theorem cr[Mn A g g' A'][Mn B g g' B'](h:g.le g')(a:A)(b:B):A'∧B':=⟨Mn.mn h a,Mn.mn h b⟩
theorem dR[Mn A g g' A'][Mn B g g' B'][Mn C g g' C'](h:g.le g')(a:A)(b:B)(c:C):A'∧B'∧C':=⟨Mn.mn h a,cr h b c⟩
theorem dK[Mn A g g' A'][Mn B g g' B'][Mn C g g' C'][Mn D g g' D'](h:g.le g')(a:A)(b:B)(c:C)(d:D):A'∧B'∧C'∧D':=⟨Mn.mn h a,dR h b c d⟩
theorem nX[Mn A g g' A'][Mn B g g' B'][Mn C g g' C'][Mn D g g' D'][Mn E g g' E'](h:g.le g')(a:A)(b:B)(c:C)(d:D)(e:E):A'∧B'∧C'∧D'∧E':=⟨Mn.mn h a,dK h b c d e⟩
theorem hZ[Mn A g g' A'][Mn B g g' B'][Mn C g g' C'][Mn D g g' D'][Mn E g g' E'][Mn F g g' F'](h:g.le g')(a:A)(b:B)(c:C)(d:D)(e:E)(f:F):A'∧B'∧C'∧D'∧E'∧F':=⟨Mn.mn h a,nX h b c d e f⟩
end Go.K
namespace Go.Proofs.YtbfjdfecgiegpaaGreatDoor
structure Step where
 eQ:Int
 ed:List Int
 min:Int
 max:Int
 next:List Int
 back:Int
 dN:Int
structure cQ where
 src:Int
 dst:Int
 dN:Int
structure bG where
 dm:Int
 dv:Int
 steps:List Step
 windows:List cQ
def within(n lo hi:Int):Bool:=decide (lo≤n)&&decide (n≤hi)
def kN(lo hi:Int):Int→List Int→Bool
 |_,[]=>true
 |p,n::r=>within n lo hi&&decide (p<n)&&kN lo hi n r
def ascending(l:List Int)(lo hi:Int):Bool:=
 match l with
 |[]=>true
 |n::r=>within n lo hi&&kN lo hi n r
def cf(s:Step)(n:Int):Bool:=
 ((s.back== -1&&s.dN==0)||(within s.back 0 (n-1)&&within s.dN 1 9))&&(within s.ed.length 1 8&&decide ((s.next.length:Int)≤4))&&
 within s.eQ 1 1000000&&ascending s.ed 0 59&&ascending s.next 0 (n-1)&&decide (1≤s.min)&&decide (s.min≤s.max)&&decide (s.max≤10000)
def dA(w:cQ)(n:Int):Bool:=
 within w.src 0 (n-1)&&within w.dst 0 (n-1)&&(w.src !=w.dst)&&within w.dN 0 1000000
def oa(v w:cQ):Bool:=decide (v.src<w.src)||(v.src==w.src&&decide (v.dst<w.dst))
def follows(l:List cQ)(w:cQ):Bool:=
 match l.getLast? with
 |none=>true
 |some v=>oa v w
def eg(f:bG):Bool:=decide (0≤f.dm)&&decide (f.dm≤f.dv)&&decide (f.dv≤10000)
def fq(n:Int):List cQ→List cQ→Bool
 |_,[]=>true
 |pre,w::r=>dA w n&&follows pre w&&fq n (pre++[w]) r
def valid(f:bG):Bool:=
 eg f&&within f.steps.length 1 40&&decide ((f.windows.length:Int)≤20)&&f.steps.all (fun s=>cf s f.steps.length)&&fq f.steps.length [] f.windows
end Go.Proofs.YtbfjdfecgiegpaaGreatDoor
namespace Go.Proofs.YtbfjdfecgiegpaaGreatDoor
open Go Go.K
def sW(g:G)(cs:List Value)(s:Step):Prop:=
 ∃a1 n1 c1 a2 n2 c2,cs=[vI s.eQ,.slice a1 n1 c1,vI s.min,vI s.max,.slice a2 n2 c2,vI s.back,vI s.dN]∧Rs g (.slice a1 n1 c1) s.ed∧Rs g (.slice a2 n2 c2) s.next
instance:El Step where
 k:=7
 pos:=by omega
 rc:=sW
 len h:=by obtain⟨_,_,_,_,_,_,rfl,_⟩:=h;rfl
 mono hle h:=by obtain⟨a1,n1,c1,a2,n2,c2,e,h1,h2⟩:=h;exact⟨a1,n1,c1,a2,n2,c2,e,h1.mono hle,h2.mono hle⟩
 one h:=by obtain⟨_,_,_,_,_,_,rfl,_⟩:=h;simp[Value.oneCell']
instance:El cQ where
 k:=3
 pos:=by omega
 rc _ cs w:=cs=[vI w.src,vI w.dst,vI w.dN]
 len h:=by rw[h];rfl
 mono _ h:=h
 one h:=by rw[h];simp[Value.oneCell']
def fP(g:G)(v:Value)(f:bG):Prop:=
 ∃a1 n1 c1 a2 n2 c2,v= .agg #[vI f.dm,vI f.dv,.slice a1 n1 c1,.slice a2 n2 c2]∧Rs g (.slice a1 n1 c1) f.steps∧Rs g (.slice a2 n2 c2) f.windows
theorem fP.mono{g g':G}{v:Value}{f:bG}(hle:g.le g')(h:fP g v f):fP g' v f:=by obtain⟨a1,n1,c1,a2,n2,c2,e,h1,h2⟩:=h;exact⟨a1,n1,c1,a2,n2,c2,e,h1.mono hle,h2.mono hle⟩
instance{g g':G}{v:Value}{f:bG}:Mn (fP g v f) g g' (fP g' v f):=⟨fun h a=>a.mono h⟩
def jS(g:G)(v:Value)(s:Step):Prop:=∃cs,v= .agg cs.toArray∧sW g cs s
theorem jS.mono{g g':G}{v:Value}{s:Step}(hle:g.le g')(h:jS g v s):jS g' v s:=by obtain⟨cs,e,h⟩:=h;exact⟨cs,e,El.mono (α:=Step) hle h⟩
def mA:Nat→Int→List (Int×Bool)
 |0,_=>[]
 |k+1,z=>(IntKind.u8.wrap (bh .u64 z 127),decide (z<128))::if z<128 then []else mA k (cD .u64 z 7)
def zz(n:Int):Int:=bB .u64 (cL .u64 (IntKind.u64.wrap n) 1) (IntKind.u64.wrap (cD .i64 n 63))
def Gm(x:Int×Bool):Int:=if x.2=true then x.1 else bY .u8 x.1 128
def gD(n:Int):List UInt8:=((mA 10 (zz n)).map Gm).map fun m=>UInt8.ofNat m.toNat
def sF(n:Int):Prop:=-4611686018427387903≤n∧n≤4611686018427387903
theorem zu(k:Nat): ∀z,(mA k z).length≤k:=by
 induction k with
 |zero=>intro z;simp[mA]
 |succ k ih=>
  intro z;unfold mA;rw[List.length_cons];split
  ·simp
  have:=ih (cD .u64 z 7);omega
theorem mz(n:Int):(gD n).length≤10:=by unfold gD;rw[List.length_map,List.length_map];exact zu 10 _
theorem yL(n:Int):0≤IntKind.u64.wrap n∧IntKind.u64.wrap n<18446744073709551616:=by unfold IntKind.wrap;simp[IntKind.signed,IntKind.bits];omega
theorem I5(n:Int):0≤zz n∧zz n<128^10:=by have:zz n=IntKind.u64.wrap ((BitVec.ofInt IntKind.u64.bits (cL .u64 (IntKind.u64.wrap n) 1)^^^BitVec.ofInt IntKind.u64.bits (IntKind.u64.wrap (cD .i64 n 63))).toNat:Int):=rfl;rw[this];have h:=yL ((BitVec.ofInt IntKind.u64.bits (cL .u64 (IntKind.u64.wrap n) 1)^^^BitVec.ofInt IntKind.u64.bits (IntKind.u64.wrap (cD .i64 n 63))).toNat:Int);generalize IntKind.u64.wrap _=m at*;omega
theorem Xq{z:Int}(_h0:0≤z):cD .u64 z 7=z/128:=by have:cD .u64 z 7=z.fdiv 128:=rfl;rw[this,Int.fdiv_eq_ediv_of_nonneg _ (by omega)]
def nV(s:List UInt8):List UInt8×Int:=if 65536<s.length then([],10)else(gD s.length++s,0)
structure bO where
 kind:Int
 idn:Int
 ver:Int
 day:Int
 gone:Bool
 time:Int
 til:Int
 waf:Int
 oth:Int
 lot:Int
 prod:Int
 tool:Int
 cham:Int
 step:Int
 rcp:Int
 rvn:Int
 val:Int
 par:Int
 text:List UInt8
 deriving DecidableEq
def fS:bO:=⟨0,0,0,0,false,0,0,0,0,0,0,0,0,0,0,0,0,0,[]⟩
def bO.num(f:bO):Nat→Int
 |0=>f.kind
 |1=>f.idn
 |2=>f.ver
 |3=>f.day
 |5=>f.time
 |6=>f.til
 |7=>f.waf
 |8=>f.oth
 |9=>f.lot
 |10=>f.prod
 |11=>f.tool
 |12=>f.cham
 |13=>f.step
 |14=>f.rcp
 |15=>f.rvn
 |16=>f.val
 |17=>f.par
 |_=>0
def bO.put(f:bO)(i:Nat)(n:Int):bO:=
 match i with
 |0=>{f with kind:=n}
 |1=>{f with idn:=n}
 |2=>{f with ver:=n}
 |3=>{f with day:=n}
 |5=>{f with time:=n}
 |6=>{f with til:=n}
 |7=>{f with waf:=n}
 |8=>{f with oth:=n}
 |9=>{f with lot:=n}
 |10=>{f with prod:=n}
 |11=>{f with tool:=n}
 |12=>{f with cham:=n}
 |13=>{f with step:=n}
 |14=>{f with rcp:=n}
 |15=>{f with rvn:=n}
 |16=>{f with val:=n}
 |17=>{f with par:=n}
 |_=>f
structure kK where
 at_:Nat
 lo:Int
 hi:Int
structure CT where
 fields:List kK
 key:List kK
 rest:Nat
 jI:Bool
def fj(i:Nat):kK:=⟨i,1,1000000⟩
def eZ:kK:=⟨5,0,1000000⟩
def iw:List kK:=[eZ,⟨6,0,1000000⟩]
def fF:List kK:=[⟨11,0,59⟩,⟨12,0,3⟩]
def nR:List kK:=[fj 1]
def vv:List kK:=[fj 14,fj 15]
def pn:List kK:=[⟨7,0,1000000⟩,⟨9,0,1000000⟩,⟨11,0,60⟩,⟨12,0,4⟩,⟨13,0,40⟩,⟨14,0,1000000⟩,⟨15,0,1000000⟩]
def tL:kK:=⟨17,1,255⟩
def zZ:kK:=⟨16,-1000000,1000000⟩
def nT:List CT:=[
 ⟨nR++[fj 7]++fF++[⟨13,0,39⟩]++vv++iw++[⟨16,-10000000,10000000⟩],nR,1,false⟩,
 ⟨nR++[eZ,zZ],nR,0,false⟩,
 ⟨nR++[fj 7,fj 8,eZ],nR,2,false⟩,
 ⟨[fj 7,fj 9,fj 10,eZ],[fj 7,eZ],0,false⟩,
 ⟨[fj 10],[fj 10],0,true⟩,
 ⟨nR++fF++vv++iw,nR,1,false⟩,
 ⟨nR++pn++iw++[tL],nR,1,false⟩,
 ⟨[fj 8,tL,eZ],[fj 8,tL],0,false⟩,
 ⟨nR++fF++[eZ],nR,0,false⟩,
 ⟨[fj 14,eZ,zZ],[fj 14,eZ],0,false⟩,
 ⟨nR++fF++iw,nR,1,false⟩]
def ee(k:Int):Option CT:=if k<1 then none else nT[(k-1).toNat]?
def sC:Nat→bO→Bool
 |1,f=>decide (f.time≤f.til)
 |2,f=>f.waf !=f.oth
 |_,_=>true
def nU:List kK→bO→Option bO
 |[],f=>some f
 |x::l,f=>if f.num x.at_<x.lo||x.hi<f.num x.at_ then none else nU l (f.put x.at_ 0)
def rB(f:bO):bO:={fS with kind:=f.kind,ver:=f.ver,day:=f.day,gone:=f.gone}
def fT(f:bO):Bool:=
 match ee f.kind with
 |none=>false
 |some s=>
  if f.ver<1||1000000<f.ver||f.day<0||100000<f.day||8192<(f.text.length:Int)|| !sC s.rest f then false
  else match nU s.fields f with
   |none=>false
   |some g=>decide ((if s.jI then {g with text:=[]}else g)=rB f)
def wv(f:bO)(l:List kK):List UInt8:=l.flatMap fun x=>gD (f.num x.at_)
def fU(f:bO):List UInt8:=if fT f then gD f.kind++wv f ((ee f.kind).elim [] (·.key))else []
def pv(b:Bool):Int:=if b then 1 else 0
def mJ(f:bO):List UInt8×Int:=
 if fT f then(gD f.kind++gD f.ver++gD f.day++gD (pv f.gone)++wv f ((ee f.kind).elim [] (·.fields))++(if(ee f.kind).elim false (·.jI)then(nV f.text).1 else []),0)else([],150)
def rb(a b:bO):Bool:=
 if(mJ a).2≠0∨(mJ b).2≠0∨fU a≠fU b then false
 else if a.ver≠b.ver then decide (b.ver<a.ver)else decide (0<Lib.compareBytes (mJ a).1 (mJ b).1)
structure eL where
 ls:Nat→List bO
def eL.procs(b:eL):=b.ls 0
def eL.wx(b:eL):=b.ls 2
def eL.kr(b:eL):=b.ls 3
def eL.pw(b:eL):=b.ls 4
def eL.px(b:eL):=b.ls 5
def eL.holds(b:eL):=b.ls 6
def eL.lq(b:eL):=b.ls 7
structure gi where
 waf:Int
 step:Int
 tool:Int
 cham:Int
 rcp:Int
 rvn:Int
 time:Int
end Go.Proofs.YtbfjdfecgiegpaaGreatDoor
namespace Go.K
open Go Go.RowKit Go.MapKept
class fO(κ:Type)[DecidableEq κ] where
 enc:κ→Value
 desc:TypeDesc
 kd:KD
 of: ∀{d},KD.of d=kd→d=desc
 same: ∀a b,Instr.sameNow desc (enc a) (enc b)=some (decide (a=b))
 key: ∀a,IsKey desc (enc a)
 bits: ∀a,Instr.sameBits 10000 (enc a) (enc a)=true
instance:fO Int where
 enc:=.int .i64
 desc:=.int .i64
 kd:=.int .i64
 of h:=KD.of_int h
 same a b:=by simp[Instr.sameNow];rfl
 key a:=rfl
 bits a:=by simp[Instr.sameBits]
instance:fO (List UInt8) where
 enc x:=.string (bs x)
 desc:=.string
 kd:=.string
 of h:=KD.of_string h
 same a b:=by
  simp only[Instr.sameNow,Option.some.injEq];by_cases h:a=b
  ·subst h;simp[(MapKept.bytes_beq _ _).2 rfl]
  rw[decide_eq_false h];cases hb:(bs a==bs b)with
  |false=>rfl
  |true=>exact absurd (Pf ((MapKept.bytes_beq _ _).1 hb)) h
 key a:=trivial
 bits a:=by simp[Instr.sameBits,(MapKept.bytes_beq _ _).2 rfl]
variable {F:Fence} {P:Program} {N:Nat} {ds:List Deferred} {l:Env} {w:World} {Q:Exit→Act→World→Prop} {o:Oper} {g0 g:G} {L:List df} {K:Value→World→Prop}
variable {κ:Type} [DecidableEq κ] [fO κ]
def nf:Nat→List (κ×Value)→List MapEntry
 |_,[]=>[]
 |i,(k,v)::r=>{key:=fO.enc k,val:=v,born:=i}::nf (i+1) r
def eV(oW:List (κ×Value)):Obj:=.map (nf 0 oW).toArray oW.length
def mf(a:κ):List (κ×Value)→Nat→Option (Nat×Value)
 |[],_=>none
 |(k,v)::r,j=>if a=k then some (j,v)else mf a r (j+1)
def jb(a:κ):List (κ×Value)→Option Value
 |[]=>none
 |(k,v)::r=>if a=k then some v else jb a r
def jK(a:κ)(x:Value):List (κ×Value)→List (κ×Value)
 |[]=>[(a,x)]
 |(k,v)::r=>if a=k then(k,x)::r else(k,v)::jK a x r
theorem Ff: ∀(oW:List (κ×Value)) (i:Nat),(nf i oW).length=oW.length
 |[],_=>rfl
 |_::r,i=>by simp[nf,Ff r]
theorem kD: ∀(oW:List (κ×Value)) (i j:Nat),(nf i oW)[j]? =(oW[j]?).map fun p=>{key:=fO.enc p.1,val:=p.2,born:=i+j}
 |[],_,_=>by simp[nf]
 |(k,v)::r,i,0=>by simp[nf]
 |(k,v)::r,i,j+1=>by simp only[nf,List.getElem?_cons_succ];rw[kD r (i+1) j,show i+1+j=i+(j+1)from by omega]
theorem A5(ys:List (κ×Value)): ∀(xs:List (κ×Value)) (i:Nat),nf i (xs++ys)=nf i xs++nf (i+xs.length) ys
 |[],i=>by simp[nf]
 |(k,v)::r,i=>by simp only[List.cons_append,nf,List.length_cons];rw[A5 ys r (i+1),show i+1+r.length=i+(r.length+1)from by omega]
theorem ow(a:κ): ∀(oW:List (κ×Value)) (i j:Nat),Instr.findNow (fO.desc κ) (fO.enc a) (nf i oW) j=some (mf a oW j)
 |[],_,_=>rfl
 |(k,v)::r,i,j=>by
  simp only[nf,Instr.findNow,fO.same,mf];by_cases h:a=k
  ·simp[h]
  simp[h,ow a r]
omit [fO κ] in
theorem tv{a:κ}: ∀{oW:List (κ×Value)} {j:Nat},mf a oW j=none→jb a oW=none∧ ∀x,jK a x oW=oW++[(a,x)]
 |[],_,_=>⟨rfl,fun _=>rfl⟩
 |(k,v)::r,j,h=>by
  unfold mf at h;split at h
  ·cases h
  rename_i eO;obtain⟨h1,h2⟩:=tv h;exact⟨by simp[jb,eO,h1],fun x=>by simp[jK,eO,h2]⟩
omit [fO κ] in
theorem qP{a:κ}: ∀{oW:List (κ×Value)} {j i:Nat} {v:Value},mf a oW j=some (i,v)→jb a oW=some v∧ ∃n,i=j+n∧oW[n]? =some (a,v)∧ ∀x,jK a x oW=oW.set n (a,x)
 |[],_,_,_,h=>by cases h
 |(k,u)::r,j,i,v,h=>by
  unfold mf at h;split at h
  ·rename_i he;simp only[Option.some.injEq,Prod.mk.injEq]at h;obtain⟨rfl,rfl⟩:=h;subst he;exact⟨by simp[jb],0,rfl,rfl,fun x=>by simp[jK]⟩
  rename_i eO;obtain⟨h1,n,h2,h3,h4⟩:=qP h;exact⟨by simp[jb,eO,h1],n+1,by omega,by simpa using h3,fun x=>by simp[jK,eO,h4]⟩
omit [fO κ] in
theorem ug(a b:κ)(x:Value): ∀oW:List (κ×Value),jb b (jK a x oW)=if b=a then some x else jb b oW
 |[]=>by simp[jK,jb]
 |(k,v)::r=>by
  by_cases h:a=k
  ·subst h;by_cases hb:b=a<;>simp[jK,jb,hb]
  by_cases hb:b=k
  ·subst hb;simp[jK,jb,h];intro e;exact absurd e.symm h
  simp[jK,jb,h,hb,ug a b x r]
theorem KD.of_map{d:TypeDesc}{k e:TypeId}(h:KD.of d= .map k e):d= .map k e:=by cases d<;>simp only[KD.of,reduceCtorEq,KD.map.injEq]at h;rw[h.1,h.2]
structure um(κ:Type)[DecidableEq κ][fO κ](P:Program)(T:TypeId)(zero:Value):Prop where
 kt: ∃k e,P.underlying T=some (.map k e)∧P.underlying k=some (fO.desc κ)∧ ∀w,(zeroValue e).run P w= .ok zero w
theorem Dk{tb:Tb}(dE:tb.ok P){T k e:Nat}{i j m:TI}(hi:tl tb T=some i)(hd:i.desc= .map k e)(hk:tl tb k=some j)(XO:j.desc=fO.kd κ)(he:tl tb e=some m):um κ P T m.zero:=by obtain⟨⟨d,hu,MG⟩,_⟩:=dE.at hi;rw[hd]at MG;obtain rfl:=KD.of_map MG;obtain⟨⟨d2,Kr,T9⟩,_⟩:=dE.at hk;rw[XO]at T9;obtain rfl:=fO.of T9;obtain⟨_,inf,h1,_,_,h4⟩:=dE.at he;exact⟨k,e,hu,Kr,fun w=>by simp[zeroValue,typeInfo,h1,h4]⟩
theorem D1{T:TypeId}{z:Value}(ht:um κ P T z){b:Nat}{oW:List (κ×Value)}(hb:w.heap[b]? =some (eV oW))(a:κ)(x:Value):
  (Instr.mapUpdate T (.map (some b)) (fO.enc a) x).run P w= .ok () (w.putObj b (eV (jK a x oW))):=by
 obtain⟨k,e,h1,h2,_⟩:=ht.kt;have hf:=run_findKey (P:=P) (w:=w) (l:=nf 0 oW) h2 (ow a oW 0 0);simp only[Instr.mapUpdate,Sem.run_bind,run_underlying h1,Result.andThen_ok,MapKept.run_getObj_map hb,run_checkKey h2 (fO.key a)];rw[show(Instr.findKey k (fO.enc a) (nf 0 oW)).run P w=_ from hf];cases hm:mf a oW 0 with
 |none=>
  simp only[Result.andThen_ok];rw[run_setObj_map _ hb,(tv hm).2 x];unfold World.putObj eV;rw[A5];simp[nf]
 |some p=>
  obtain⟨i,v⟩:=p;obtain⟨_,n,h3,h4,h5⟩:=qP hm;obtain rfl:i=n:=by omega
  have h6:(nf 0 oW)[i]? =some {key:=fO.enc a,val:=v,born:=i}:=by rw[kD,h4];simp
  simp only[Result.andThen_ok,List.getElem?_toArray,h6,Option.map_some,Option.getD_some,Instr.keyThatStays,fO.bits,if_true,Sem.run_bind,Sem.run_pure];rw[run_setObj_map _ hb,h5 x];unfold World.putObj eV;congr 3;rw[List.length_set];congr 1;apply Array.ext';rw[Array.toList_modify];simp only;apply List.ext_getElem?;intro j;rw[List.getElem?_modify,kD,kD,List.getElem?_set];by_cases hj:i=j
  ·subst hj;have bt:=(List.getElem?_eq_some_iff.1 h4).1;simp[bt]
  simp[hj]
theorem D2{T:TypeId}{z:Value}(ht:um κ P T z){b:Nat}{oW:List (κ×Value)}(hb:w.heap[b]? =some (eV oW))(a:κ)(ok:Bool):
  (Instr.lookup T (.map (some b)) (fO.enc a) ok).run P w= .ok (if ok then .tuple #[(jb a oW).getD z,.bool (jb a oW).isSome]else(jb a oW).getD z) w:=by
 obtain⟨k,e,h1,h2,h3⟩:=ht.kt;have hf:=run_findKey (P:=P) (w:=w) (l:=nf 0 oW) h2 (ow a oW 0 0);simp only[Instr.lookup,Sem.run_bind,run_underlying h1,Result.andThen_ok,MapKept.run_getObj_map hb,run_checkKey h2 (fO.key a),Sem.run_pure];rw[show(Instr.findKey k (fO.enc a) (nf 0 oW)).run P w=_ from hf];cases hm:mf a oW 0 with
 |none=>
  simp only[Result.andThen_ok,Sem.run_bind,h3,Sem.run_pure,(tv hm).1];cases ok<;>rfl
 |some p=>
  obtain⟨i,v⟩:=p;simp only[Result.andThen_ok,(qP hm).1];cases ok<;>rfl
theorem kS{T:TypeId}(ho:o.op= .makeMap T none)(hs:St g0 g L)(k: ∀b g',St g0 g' (.obj b (eV ([]:List (κ×Value)))::L)→g.le g'→K (.map (some b)) g'.w):cS F P N ds o l g.w Q K:=by refine bX (w':=(g.al (.map #[] 0)).w) (fun c=>⟨by rw[ho];simp,by rw[ho];simp⟩) (fun a ha=>?_) (k _ _ (hs.al _).1 (hs.al _).2);simp[execOp,ho,Instr.makeMap,newObj];rfl
theorem dQ{T:TypeId}{z:Value}(ht:um κ P T z)(i:Nat){m kk x:Operand}{b:Nat}{oW:List (κ×Value)}{a:κ}{v:Value}(ho:o.op= .mapUpdate T m kk x∨o.op= .insert T m kk x)(hs:St g0 g L)(hi:L[i]? =some (.obj b (eV oW)))
  (hm:ev l m=some (.map (some b))) (hk:ev l kk=some (fO.enc a)) (hx:ev l x=some v) (k: ∀g',St g0 g' (L.set i (.obj b (eV (jK a v oW))))→g.le g'→K undef g'.w):cS F P N ds o l g.w Q K:=by
 have hh:=(hs.own i _ hi).2.1;have h:=hs.po hi (o':=eV (jK a v oW));have hr:=D1 ht hh a v;rcases ho with ho|ho
 all_goals
  refine s_ (w':=(g.po b (eV (jK a v oW))).w) (fun c=>⟨by rw[ho];simp,by rw[ho];simp⟩) (fun ac ha=>?_) (k _ h.1 h.2);simp only[execOp,ho,ha.ev hm,ha.ev hk,ha.ev hx,Sem.run_bind,hr];rfl
theorem n_{T:TypeId}{z:Value}(ht:um κ P T z){m kk:Operand}{ok:Bool}{b:Nat}{oW:List (κ×Value)}{a:κ}(ho:o.op= .lookup T m kk ok)(hh:w.heap[b]? =some (eV oW))
  (hm:ev l m=some (.map (some b))) (hk:ev l kk=some (fO.enc a)) (k:K (if ok then .tuple #[(jb a oW).getD z,.bool (jb a oW).isSome]else(jb a oW).getD z) w):cS F P N ds o l w Q K:=by
 refine bX (fun c=>⟨by rw[ho];simp,by rw[ho];simp⟩) (fun ac ha=>?_) k;simp only[execOp,ho,ha.ev hm,ha.ev hk,Sem.run_bind,D2 ht hh a ok];rfl
def Ay(b n:Nat)(seen:Array Nat):Obj:=.mapIter (some b) n seen n
theorem uq{T:TypeId}{z:Value}(ht:um κ P T z){m:Operand}{b:Nat}{oW:List (κ×Value)}(ho:o.op= .range T m)(hh:g.w.heap[b]? =some (eV oW))(hm:ev l m=some (.map (some b)))(hs:St g0 g L)
  (k: ∀r g',St g0 g' (.obj r (Ay b oW.length #[])::L)→g.le g'→K (vP r) g'.w):cS F P N ds o l g.w Q K:=by
 obtain⟨kt,e,h1,_,_⟩:=ht.kt;refine bX (w':=(g.al (Ay b oW.length #[])).w) (fun c=>⟨by rw[ho];simp,by rw[ho];simp⟩) (fun a ha=>?_) (k _ _ (hs.al _).1 (hs.al _).2);have:=run_range_map (P:=P) g.w T kt e b _ _ h1 hh;simp only[execOp,ho,ha.ev hm,Sem.run_bind,this];rfl
theorem xe(i:Nat){it:Operand}{r b:Nat}{oW:List (κ×Value)}{seen:Array Nat}(ho:o.op= .next it false)(hs:St g0 g L)(hi:L[i]? =some (.obj r (Ay b oW.length seen)))(hh:g.w.heap[b]? =some (eV oW))
  (hit:ev l it=some (vP r))
  (k0:(∀j,j<oW.length→j∈seen)→K (.tuple #[.bool false]) g.w)
  (k1: ∀(j:Nat) p g',oW[j]? =some p→j∉seen→St g0 g' (L.set i (.obj r (Ay b oW.length (seen.push j))))→g.le g'→K (.tuple #[.bool true,fO.enc p.1,p.2]) g'.w):cS F P N ds o l g.w Q K:=by
 have hr:=(hs.own i _ hi).2.1;have U6: ∀x∈(nf 0 oW).toArray.toList,x.born<oW.length:=by intro x hx;obtain⟨j,hj⟩:=List.mem_iff_getElem?.1 (by simpa using hx:x∈nf 0 oW);rw[kD]at hj;obtain⟨p,hp,rfl⟩:=Option.map_eq_some_iff.1 hj;have:=(List.getElem?_eq_some_iff.1 hp).1;simpa using this
 rcases run_next_at (P:=P) g.w o.type r b oW.length oW.length seen (nf 0 oW).toArray oW.length hr hh U6 (Nat.le_refl _)with⟨h1,h2⟩|⟨e,he,w1,hw,h2⟩
 ·refine bX (fun c=>⟨by rw[ho];simp,by rw[ho];simp⟩) (fun a ha=>by simp only[execOp,ho,ha.ev hit,Sem.run_bind,h2];rfl) (k0 fun j hj=>?_);apply Classical.byContradiction;intro IY;have hx:(nf 0 oW)[j]? =some {key:=fO.enc oW[j].1,val:=oW[j].2,born:=j}:=by rw[kD,List.getElem?_eq_getElem hj];simp
  have:({key:=fO.enc oW[j].1,val:=oW[j].2,born:=j}:MapEntry)∈leftOf (nf 0 oW).toArray seen:=by unfold leftOf;rw[Array.mem_filter];exact⟨by simpa using List.mem_of_getElem? hx,by simpa using IY⟩
  rw[Array.eq_empty_of_size_eq_zero h1]at this;simp at this
 unfold leftOf at he;have FF:e∈(Array.filter (fun e=> !seen.contains e.born) (nf 0 oW).toArray):=by simpa using he
 rw[Array.mem_filter]at FF;obtain⟨hm,IY⟩:=FF;obtain⟨j,hj⟩:=List.mem_iff_getElem?.1 (by simpa using hm:e∈nf 0 oW);rw[kD]at hj;obtain⟨p,hp,rfl⟩:=Option.map_eq_some_iff.1 hj;simp only[Nat.zero_add]at h2 IY;have XP:j∉seen:=by simpa using IY
 have fin: ∀g1:G,St g0 g1 L→g.le g1→g1.w=w1→cS F P N ds o l g.w Q K:=fun g1 tK hle yP=>by have h:=tK.po hi (o':=Ay b oW.length (seen.push j));refine bX (w':=(g1.po r (Ay b oW.length (seen.push j))).w) (fun c=>⟨by rw[ho];simp,by rw[ho];simp⟩) (fun a ha=>?_) (k1 j p _ hp XP h.1 (hle.trans h.2));simp only[execOp,ho,ha.ev hit,Sem.run_bind,h2,←yP];rfl
 rcases hw with rfl|rfl
 ·exact fin g hs (G.le.refl g) rfl
 exact fin g.dr hs.dr (G.bI g) rfl
theorem zC: ∀(oW:List (κ×Value)) (i:Nat),((nf i oW).map (·.born)).Nodup∧ ∀x∈nf i oW,i≤x.born
 |[],_=>by simp[nf]
 |(k,v)::r,i=>by
  obtain⟨h1,h2⟩:=zC r (i+1);refine⟨?_,fun x hx=>?_⟩
  ·simp only[nf,List.map_cons,List.nodup_cons];refine⟨fun hm=>?_,h1⟩;obtain⟨x,hx,he⟩:=List.mem_map.1 hm;have:=h2 x hx;omega
  simp only[nf,List.mem_cons]at hx;rcases hx with rfl|hx
  ·exact Nat.le_refl _
  have:=h2 x hx;omega
theorem ur(i:Nat){it:Operand}{r b j:Nat}{p:κ×Value}{oW:List (κ×Value)}{seen:Array Nat}(ho:o.op= .entry it)(hs:St g0 g L)(hi:L[i]? =some (.obj r (Ay b oW.length (seen.push j))))(hh:g.w.heap[b]? =some (eV oW))
  (hit:ev l it=some (vP r)) (hp:oW[j]? =some p) (k:K (.tuple #[fO.enc p.1,p.2]) g.w):cS F P N ds o l g.w Q K:=by
 have hr:=(hs.own i _ hi).2.1;have he:(nf 0 oW)[j]? =some {key:=fO.enc p.1,val:=p.2,born:=j}:=by rw[kD,hp];simp
 have:=run_entry_at (P:=P) g.w r b oW.length seen (nf 0 oW).toArray oW.length {key:=fO.enc p.1,val:=p.2,born:=j} hr hh (by simpa using List.mem_of_getElem? he) (by simpa using(zC oW 0).1);refine bX (fun c=>⟨by rw[ho];simp,by rw[ho];simp⟩) (fun a ha=>?_) k;simp only[execOp,ho,ha.ev hit,Sem.run_bind,this];rfl
end Go.K
namespace Go.K
open Go Go.RowKit
variable {F:Fence} {P:Program} {N:Nat} {ds:List Deferred} {ops:Array Oper} {Q:Exit→Act→World→Prop} {φs:List Fact} {l0:Env} {gd:G}
variable (N ops l0) in
def qO(m:Nat):Bool:=
 (List.range ops.size).all (fun i=>match ops[i]? with|some o=>(ll o).all (fun j=>Nat.blt j i)|none=>true)&&
 (List.range ops.size).all (fun j=>Nat.blt j m||(List.range j).all (fun k=>(List.range (j+1)).any (fun i=>Nat.blt k i&&(match ops[i]? with|some o=>(ll o).contains k|none=>false))))&&
 (List.range m).all (fun i=>match dk ops i with
  |some d=>Nat.blt d N&&(lk l0 d).isNone&&(List.range m).all (fun j=>j==i||(match dk ops j with|some e=>e !=d|none=>true))
  |none=>true)&&Nat.ble m ops.size
def xK(F:Fence)(P:Program)(N:Nat)(ds:List Deferred)(ops:Array Oper)(Q:Exit→Act→World→Prop)(φs:List Fact)(l0:Env)(gd:G)(es:List Nat)(dZ:List (List Nat))(J:Nat→G→Prop)(i:Nat)(o:Oper):Prop:=
 ∀s g',gd.le g'→J s g'→s≤es.length→(∀k,posOf es i=some k→s=k)→(∀k A,dZ[k]? =some A→i∈A→s≤k)→(∀k e,es[k]? =some e→e∈ll o→k<s)→QA φs g' (eM ops o) l0 fun env=>
  match o9 ops env o.guard with
  |some true=>cS F P N ds o env g'.w Q fun v w'=> ∃dM,dM.w=w'∧Cs es J s i g' dM∧(gT φs i).p v dM
  |some false=>posOf es i=none∧(gT φs i).p undef g'
  |none=>False
def kC(F:Fence)(P:Program)(N:Nat)(ds:List Deferred)(ops:Array Oper)(Q:Exit→Act→World→Prop)(φs:List Fact)(l0:Env)(gd:G)(es:List Nat)(dZ:List (List Nat))(J:Nat→G→Prop):Nat→List Oper→Prop
 |_,[]=>True
 |i,o::os=>xK F P N ds ops Q φs l0 gd es dZ J i o∧kC F P N ds ops Q φs l0 gd es dZ J (i+1) os
theorem kC.at{es:List Nat}{dZ:List (List Nat)}{J:Nat→G→Prop}: ∀{l:List Oper} {i0:Nat},kC F P N ds ops Q φs l0 gd es dZ J i0 l→ ∀(j:Nat) o,l[j]? =some o→xK F P N ds ops Q φs l0 gd es dZ J (i0+j) o
 |[],_,_,j,o,h=>by simp at h
 |x::l,i0,hs,0,o,h=>by simp only[List.getElem?_cons_zero,Option.some.injEq]at h;subst h;exact hs.1
 |x::l,i0,hs,j+1,o,h=>by simp only[List.getElem?_cons_succ]at h;have:=kC.at (i0:=i0+1) hs.2 j o h;rw[show i0+(j+1)=i0+1+j from by omega];exact this
theorem L3{id:Nat}{g:G}(hF: ∀f,F.fn f)(hm:P.follows .mixedOrders=true)(φs:List Fact)(m:Nat)(outs:List (Nat×Nat))(es:List Nat)(dZ:List (List Nat))(J:Nat→G→Prop)(hJ: ∀s g g',a_ g g'→J s g→J s g')(Ds:J 0 g.dr)(l_:qO N ops l0 m=true)(XL:A1 ops es m=true)(Ji:((es.zip dZ).all fun p=>va ops p.2 p.1)=true)(hsoft:jB [] 0 φs)
  (houts:outs.all (fun p=>Nat.blt p.1 m&&(dk ops p.1==some p.2))=true)
  (iC:kC F P N ds ops Q φs l0 g.dr es dZ J 0 (ops.toList.take m))
  (kj: ∀g',g.dr.le g'→J es.length g'→QA φs g' outs l0 fun env=>WL F P N ds ops Q (ops.toList.drop m) env g'.w):W F P N ds (.region id ops true) Q l0 g.w:=by
 intro a ha;simp only[qO,Bool.and_eq_true,List.all_eq_true,List.mem_range]at l_;obtain⟨⟨⟨c1,c2⟩,c3⟩,c4⟩:=l_;have c4:m≤ops.size:=Nat.le_of_ble_eq_true c4;have k1: ∀i o,ops[i]? =some o→ ∀j∈ll o,j<i:=by intro i o ho j hj;have:=c1 i (Array.getElem?_eq_some_iff.1 ho).1;rw[ho]at this;have:=(List.all_eq_true.1 this) j hj;simpa [Nat.blt_eq]using this
 have k2: ∀j o,m≤j→ops[j]? =some o→ ∀k,k<j→ ∃i' o',k<i'∧i'≤j∧ops[i']? =some o'∧k∈ll o':=by
  intro j o hj ho k hk;have:=c2 j (Array.getElem?_eq_some_iff.1 ho).1;simp only[Bool.or_eq_true]at this;rcases this with h|h
  ·have:j<m:=by simpa [Nat.blt_eq]using h
   omega
  have:=(List.all_eq_true.1 h) k (List.mem_range.2 hk);obtain⟨i',h1,h2⟩:=List.any_eq_true.1 this;simp only[Bool.and_eq_true]at h2;have h3:=List.mem_range.1 h1;cases pb:ops[i']? with
  |none=>rw[pb]at h2;simp at h2
  |some o'=>
   rw[pb]at h2;exact⟨i',o',by simpa [Nat.blt_eq]using h2.1,by omega,pb,by simpa using h2.2⟩
 have k4: ∀(listed:Array Bool),(∀k o,listed.getD k false=true→ops[k]? =some o→ ∀e∈ll o,listed.getD e false=true)→ ∀j o,m≤j→ops[j]? =some o→(∀e∈ll o,listed.getD e false=true)→ ∀k,k<j→listed.getD k false=true:=by
  intro listed fw j o hj ho dj;have: ∀d k,k<j→j-k=d→listed.getD k false=true:=by
   intro d
   induction d using Nat.strongRecOn with
   |_ d Cc=>
    intro k hk hd;obtain⟨i',o',h1,h2,h3,h4⟩:=k2 j o hj ho k hk;rcases Nat.lt_or_ge i' j with h|h
    ·exact fw i' o' (Cc (j-i') (by omega) i' h rfl) h3 k h4
    obtain rfl:i'=j:=by omega
    rw[ho]at h3;obtain rfl:=Option.some.inj h3;exact dj k h4
  exact fun k hk=>this _ k hk rfl
 have k3: ∀i,i<m→ ∀d,dk ops i=some d→d<N∧lk l0 d=none∧ ∀j,j<m→j≠i→ ∀e,dk ops j=some e→e≠d:=by
  intro i hi d hd;have:=c3 i hi;simp only[hd,Bool.and_eq_true,List.all_eq_true,List.mem_range,Bool.or_eq_true]at this;refine⟨by simpa [Nat.blt_eq]using this.1.1,by simpa using this.1.2,fun j hj eO e he=>?_⟩;rcases this.2 j hj with h|h
  ·exact absurd (by simpa using h) eO
  simpa [he]using h
 have AQ: ∀(listed:Array Bool),(∀k o,listed.getD k false=true→ops[k]? =some o→ ∀e∈ll o,listed.getD e false=true)→ ∀(k:Nat) e A,es[k]? =some e→dZ[k]? =some A→listed.getD e false=true→ ∀i∈A,listed.getD i false=true:=by
  intro listed fw k e A he hA Oh;have hz:(e,A)∈es.zip dZ:=by rw[List.mem_iff_getElem?];exact⟨k,by rw[List.getElem?_zip_eq_some];exact⟨he,hA⟩⟩
  have h1:=(List.all_eq_true.1 Ji) _ hz;simp only[va,List.all_eq_true,Bool.and_eq_true]at h1;have: ∀d i,i∈A→e-i=d→listed.getD i false=true:=by
   intro d
   induction d using Nat.strongRecOn with
   |_ d Cc=>
    intro i hi hd;obtain⟨h2,h3⟩:=h1 i hi;have oh:i<e:=by simpa [Nat.blt_eq]using h2
    obtain⟨j,hj,L4⟩:=List.any_eq_true.1 h3;cases ho:ops[j]? with
    |none=>rw[ho]at L4;simp at L4
    |some o=>
     rw[ho]at L4;have Bk:i∈ll o:=by simpa using L4
     have bt:=k1 j o ho i Bk;rcases List.mem_cons.1 hj with rfl|hj
     ·exact fw _ o Oh ho i Bk
     have Gp:j<e:=by simpa [Nat.blt_eq]using(h1 j hj).1
     exact fw j o (Cc (e-j) (by omega) j hj rfl) ho i Bk
  exact fun i hi=>this _ i hi rfl
 have ch:=DY XL;let Qq:Array Bool→G→Prop:=fun listed g'=>g.dr.le g'∧ ∃s,s≤es.length∧(∀k e,es[k]? =some e→(listed.getD e false=true↔k<s))∧J s g'
 have DA: ∀listed g',Qq listed g'→(∀j,j<m→listed.getD j false=true)→g.dr.le g'∧J es.length g':=by
  rintro listed g' ⟨h1,s,h2,h3,h4⟩ dj;refine⟨h1,?_⟩;have:s=es.length:=by
   apply Classical.byContradiction;intro eO;have bt:s<es.length:=by omega
   have he:=List.getElem?_eq_getElem bt;have:=(h3 s _ he).1 (dj _ (ch s _ he).2.1);omega
  rw[←this];exact h4
 refine wpIn_region_any hm ?_;have key: ∀(fuel:Nat) (listed:Array Bool) (a:Act) (g':G),listed.size=ops.size→Qq listed g'→Fr N ds l0 a→
   (∀i,i<m→listed.getD i false=true→ ∀d,dk ops i=some d→ ∃v,a.tmps[d]? =some v∧(gT φs i).p v g')→(∀j,m≤j→j<ops.size→listed.getD j false=false)→(∀k o,listed.getD k false=true→ops[k]? =some o→ ∀e∈ll o,listed.getD e false=true)→
   (ops.size-((List.range ops.size).filter fun i=>listed.getD i false).length≤fuel)→wpAnyIn F 0 P .any ops Q fuel listed a g'.w:=by
  intro fuel
  induction fuel with
  |zero=>
   intro listed a g' cK hf ha eC f_ fw td;have dj: ∀j,j<ops.size→listed.getD j false=true:=by
    have hlen:((List.range ops.size).filter fun i=>listed.getD i false).length=(List.range ops.size).length:=by have:=List.length_filter_le (fun i=>listed.getD i false) (List.range ops.size);simp only[List.length_range]at this⊢;omega
    have:=List.length_filter_eq_length_iff.1 hlen;intro j hj;exact this j (List.mem_range.2 hj)
   have F5:m=ops.size:=by
    rcases Nat.lt_or_ge m ops.size with h|h
    ·have:=f_ m (Nat.le_refl _) h;rw[dj m h]at this;cases this
    omega
   have we:=DA listed g' hf (fun j hj=>dj j (by omega));obtain⟨env,hW,gR⟩:=kA outs (kj g' we.1 we.2) ha (fun p hp=>by
    have:=(List.all_eq_true.1 houts) p hp;simp only[Bool.and_eq_true,beq_iff_eq]at this;have bt:p.1<m:=by simpa [Nat.blt_eq]using this.1
    exact eC p.1 bt (dj _ (by omega)) _ this.2)
   refine jg k1 0 ops.size listed a g'.w cK (Nat.le_refl _) (fun j o hj ho=>?_) (fun j hj=>⟨fun _=>hj,fun _=>dj j hj⟩) (by omega) (by rw[←F5];exact hW a gR);have:=(Array.getElem?_eq_some_iff.1 ho).1;omega
  |succ fuel ih=>
   intro listed a g' cK hf ha eC f_ fw td;by_cases gM: ∀j,j<m→listed.getD j false=true
   ·have we:=DA listed g' hf gM;obtain⟨env,hW,gR⟩:=kA outs (kj g' we.1 we.2) ha (fun p hp=>by
     have:=(List.all_eq_true.1 houts) p hp;simp only[Bool.and_eq_true,beq_iff_eq]at this;have bt:p.1<m:=by simpa [Nat.blt_eq]using this.1
     exact eC p.1 bt (gM _ bt) _ this.2)
    refine jg k1 (fuel+1) m listed a g'.w cK c4 (fun j o hj ho=>k2 j o hj ho) (fun j hj=>⟨fun h=>?_,fun h=>gM j h⟩) ?_ (hW a gR)
    ·rcases Nat.lt_or_ge j m with h'|h'
     ·exact h'
     rw[f_ j h' hj]at h;cases h
    have hle:((List.range ops.size).filter fun i=>listed.getD i false).length≤m:=by
     have oi:((List.range ops.size).filter fun i=>listed.getD i false).length≤((List.range ops.size).filter fun i=>decide (i<m)).length:=by
      refine List.Sublist.length_le ?_;rw[show((List.range ops.size).filter fun i=>listed.getD i false)=((List.range ops.size).filter fun i=>decide (i<m)).filter (fun i=>listed.getD i false)from ?_]
      ·exact List.filter_sublist
      rw[List.filter_filter];refine List.filter_congr fun i hi=>?_;have hi:=List.mem_range.1 hi;by_cases h:i<m
      ·simp[h]
      rw[f_ i (by omega) hi];simp
     have:((List.range ops.size).filter fun i=>decide (i<m)).length=m:=by
      have e:ops.size=m+(ops.size-m):=by omega
      rw[e,List.range_add,List.filter_append,List.length_append,List.filter_eq_self.2 (by intro x hx;simpa using hx),List.filter_eq_nil_iff.2 (by intro x hx;obtain⟨y,_,rfl⟩:=List.mem_map.1 hx;simp)];simp
     omega
    omega
   --qK of Bp first part is not listed:Bp least LS is ready
   have hex: ∃j,j<m∧listed.getD j false=false∧ ∀k,k<j→listed.getD k false=true:=by
    have: ∃j,j<m∧listed.getD j false=false:=by
     apply Classical.byContradiction;intro de;apply gM;intro j hj;cases hc:listed.getD j false with
     |true=>rfl
     |false=>exact absurd ⟨j,hj,hc⟩ de
    obtain⟨j,hj⟩:=this
    induction j using Nat.strongRecOn with
    |_ j LU=>
     by_cases hk: ∃k,k<j∧listed.getD k false=false
     ·obtain⟨k,rH,yA⟩:=hk;exact LU k rH ⟨by omega,yA⟩
     refine⟨j,hj.1,hj.2,fun k rH=>?_⟩;cases hc:listed.getD k false with
     |true=>rfl
     |false=>exact absurd ⟨k,rH,hc⟩ hk
   obtain⟨j0,Vb,Cd,sn⟩:=hex;have iD:j0∈Region.ready .any ops listed:=by
    rw[fk];have bt:j0<ops.size:=by omega
    refine⟨by rw[getD_lt (cK▸bt) true false];exact Cd,_,Array.getElem?_eq_getElem bt,fun k hk=>sn k (k1 j0 _ (Array.getElem?_eq_getElem bt) k hk)⟩
   refine⟨fun h0=>(by rw[h0]at iD;cases iD),fun i hi=>?_⟩;obtain⟨h0,o,ho,dj⟩:=fk.1 hi;have mV:i<ops.size:=(Array.getElem?_eq_some_iff.1 ho).1;rw[getD_lt (cK▸mV) true false]at h0;have p7:i<m:=by
    rcases Nat.lt_or_ge i m with h|h
    ·exact h
    have:=k4 listed fw i o h ho dj j0 (by omega);rw[Cd]at this;cases this
   have Jj:dk ops i=o.dst:=by unfold dk;rw[ho];rfl
   have jT:=iC.at (i0:=0) i o (by rw[List.getElem?_take_of_lt p7];simpa using ho);rw[Nat.zero_add]at jT;have oj: ∀p∈eM ops o,∃v,a.tmps[p.2]? =some v∧(gT φs p.1).p v g':=by
    intro p hp;unfold eM at hp;obtain⟨j,hj,xx⟩:=List.mem_filterMap.1 hp;cases ym:dk ops j with
    |none=>simp[ym]at xx
    |some e=>
     simp only[ym]at xx;have LV:j<m:=by have:=k1 i o ho j hj;omega
     obtain⟨v,hv,ke⟩:=eC j LV (dj j hj) e ym;have DR: ∀(c:Bool) (q:Nat×Nat),(bif c then some q else none)=some p→q=p:=by
      intro c q h;cases c with
      |true=>exact Option.some.inj h
      |false=>cases h
     obtain rfl:=DR _ _ xx;exact⟨v,hv,ke⟩
   obtain⟨G8,s,tK,aV,ED⟩:=hf;have lK: ∀k,posOf es i=some k→s=k:=by
    intro k hk;have T7:=sb hk;have h1: ¬k<s:=fun h=>by have:=(aV k i T7).2 h;rw[this]at h0;cases h0
    rcases Nat.eq_zero_or_pos k with h|h
    ·omega
    obtain⟨p,o',vD,Kq,RR⟩:=(ch k i T7).2.2 (by omega);rw[ho]at Kq;obtain rfl:=Option.some.inj Kq;have:=(aV (k-1) p vD).1 (dj p RR);omega
   obtain⟨env,hk,gR⟩:=kA (eM ops o) (jT s g' G8 ED tK lK (fun k A hA XM=>by
    rcases Nat.lt_or_ge k s with h|h
    ·have bt:k<es.length:=by omega
     have he:=List.getElem?_eq_getElem bt;have:=AQ listed fw k _ A he hA ((aV k _ he).2 h) i XM;rw[this]at h0;cases h0
    exact h) (fun k e he XN=>(aV k e he).1 (dj e XN))) ha oj
   have kU: ∀(a':Act) (dM:G) (v:Value),a'=a.put o.dst v→Cs es J s i g' dM→(gT φs i).p v dM→wpAnyIn F 0 P .any ops Q fuel (listed.setIfInBounds i true) a' dM.w:=by
    intro a' dM v he eR ke;have pd: ∀t,o.dst≠some t→a'.tmps[t]? =a.tmps[t]?:=fun t ht=>by
     rw[he];cases sB:o.dst with
     |none=>rfl
     |some d=>
      simp only[Act.put];rw[Array.getElem?_setIfInBounds_ne (fun e=>ht (by rw[sB,e]))]
    have o3: ∀d,o.dst=some d→a'.tmps[d]? =some v:=fun d sB=>by rw[he,sB];simp only[Act.put];rw[Array.getElem?_setIfInBounds_self,if_pos (by rw[ha.size];exact(k3 i p7 d (Jj.trans sB)).1)]
    have gL: ∀k,k≠i→(listed.setIfInBounds i true).getD k false=listed.getD k false:=fun k hk=>by simp only[Array.getD_eq_getD_getElem?];rw[Array.getElem?_setIfInBounds_ne (fun e=>hk e.symm)]
    have dF:(listed.setIfInBounds i true).getD i false=true:=by simp[cK,mV]
    have Jk:g'.le dM:=by
     unfold Cs at eR;split at eR
     ·exact eR.1
     exact eR.le
    have hinv:Qq (listed.setIfInBounds i true) dM:=by
     refine⟨G8.trans Jk,?_⟩;unfold Cs at eR;cases M_:posOf es i with
     |none=>
      rw[M_]at eR;refine⟨s,tK,fun k e AS=>?_,hJ s _ _ eR ED⟩;have eO:e≠i:=fun h=>xF M_ k (by rw[←h];exact AS);rw[gL e eO];exact aV k e AS
     |some k0=>
      rw[M_]at eR;have NX:=lK k0 M_;have T7:=sb M_;have bt:=(List.getElem?_eq_some_iff.1 T7).1;refine⟨s+1,by omega,fun k e AS=>?_,eR.2⟩;by_cases Jl:e=i
      ·subst Jl;have h1:=(ch k e AS).1;rw[M_]at h1;obtain rfl:=Option.some.inj h1;exact⟨fun _=>by omega,fun _=>dF⟩
      rw[gL e Jl,aV k e AS];have YP:k≠k0:=fun h=>by subst h;rw[T7]at AS;exact Jl (Option.some.inj AS).symm
      omega
    refine ih _ a' dM (by simpa using cK) hinv ⟨by rw[he];cases o.dst<;>exact ha.defers,by rw[he];cases o.dst<;>simp[Act.put,ha.size],fun t u hu=>?_⟩ (fun k hk jG d' uB=>?_) (fun j hj I9=>?_) (fun k o' hk AR e he=>?_) ?_
    ·rw[pd t (fun e=>by have:=(k3 i p7 t (Jj.trans e)).2.1;rw[this]at hu;cases hu)];exact ha.get t u hu
    ·by_cases j9:k=i
     ·subst j9;exact⟨v,o3 d' (Jj.symm.trans uB),ke⟩
     rw[gL k j9]at jG;obtain⟨v',Ce,xy⟩:=eC k hk jG d' uB;refine⟨v',?_,(jB.at hsoft k).elim (fun h=>by simp at h) fun h=>h _ _ _ Jk xy⟩;rw[pd d' (fun e=>(k3 k hk d' uB).2.2 i p7 (fun h=>j9 h.symm) d' (Jj.trans e) rfl)];exact Ce
    ·rw[gL j (by omega)];exact f_ j hj I9
    ·have hle: ∀x,listed.getD x false=true→(listed.setIfInBounds i true).getD x false=true:=fun x hx=>by
      by_cases Bn:x=i
      ·subst Bn;exact dF
      rw[gL x Bn];exact hx
     by_cases j9:k=i
     ·subst j9;rw[ho]at AR;obtain rfl:=Option.some.inj AR;exact hle e (dj e he)
     rw[gL k j9]at hk;exact hle e (fw k o' hk AR e he)
    have bt:((List.range ops.size).filter fun k=>listed.getD k false).length<((List.range ops.size).filter fun k=>(listed.setIfInBounds i true).getD k false).length:=by
     have oi:List.Sublist ((List.range ops.size).filter fun k=>listed.getD k false) ((List.range ops.size).filter fun k=>(listed.setIfInBounds i true).getD k false):=by
      have e:((List.range ops.size).filter fun k=>listed.getD k false)=((List.range ops.size).filter fun k=>(listed.setIfInBounds i true).getD k false).filter (fun k=>listed.getD k false):=by
       rw[List.filter_filter];refine List.filter_congr fun k _=>?_;by_cases j9:k=i
       ·subst j9;rw[dF];simp
       rw[gL k j9];simp
      rw[e];exact List.filter_sublist
     refine Nat.lt_of_le_of_ne oi.length_le fun e=>?_;have:=oi.eq_of_length e;have sK:i∈((List.range ops.size).filter fun k=>(listed.setIfInBounds i true).getD k false):=List.mem_filter.2 ⟨List.mem_range.2 mV,dF⟩;rw[←this]at sK;have:=(List.mem_filter.1 sK).2;rw[h0]at this;cases this
    omega
   unfold wpOpIn;rw[ho];simp only;cases hg:o9 ops env o.guard with
   |none=>rw[hg]at hk;exact hk.elim
   |some b=>
    have mE:Region.wanted o (yielded ops a.tmps)=b:=jW (l:=env) (o:=o) hg gR;rw[hg]at hk;cases b with
    |true=>
     rw[if_pos mE];exact Oper.wpIn_mono (fun a' w' ⟨v,he,dM,hw,eR,ke⟩=>hw▸kU a' dM v he eR ke) (hk a gR)
    |false=>
     rw[if_neg (by rw[mE];simp)];exact⟨fun f _=>hF f,kU _ g' undef rfl (by unfold Cs;rw[hk.1];exact a_.refl _) hk.2⟩
 refine key ops.size _ a g.dr (by simp) ⟨G.le.refl _,0,Nat.zero_le _,fun k e _=>⟨fun h=>by simp only[Array.getD_eq_getD_getElem?,Array.getElem?_replicate]at h;split at h<;>simp at h,fun h=>by omega⟩,Ds⟩ ha (fun i hi hl=>?_) (fun j _ hj=>by simp[hj]) (fun k o hl=>?_) (by omega)
 ·simp only[Array.getD_eq_getD_getElem?,Array.getElem?_replicate]at hl;split at hl<;>simp at hl
 simp only[Array.getD_eq_getD_getElem?,Array.getElem?_replicate]at hl;split at hl<;>simp at hl
end Go.K
namespace Go.K
open Go Go.RowKit
variable {F:Fence} {P:Program} {N:Nat} {ds:List Deferred} {ops:Array Oper} {Q:Exit→Act→World→Prop} {l0 l:Env} {os kY:List Oper} {o:Oper}
variable {g0 g gd g':G} {L:List df} {φs:List Fact} {ks:List FK} {es:List Nat} {dZ:List (List Nat)} {J:Nat→G→Prop}
def rr:List FK→Prop
 |[]=>True
 | .e _::r=>rr r
 | .f φ::r=>wN φ∧rr r
theorem rr.soft: ∀{ks:List FK} {i:Nat},rr ks→jB [] i (ks.map FK.fact)
 |[],_,_=>trivial
 | .e _::_,_,h=>⟨.inr (kL _),rr.soft h⟩
 | .f _::_,_,h=>⟨.inr h.1,rr.soft h.2⟩
def A4(es:List Nat):Nat→Nat→Bool
 |_,0=>true
 |i,n+1=>(posOf es i).isNone&&A4 es (i+1) n
def T8(es:List Nat)(dZ:List (List Nat))(o:Oper)(i lo hi:Nat):Bool:=
 (posOf es i).isNone&&(Nat.beq lo 0||(match es[lo-1]? with|some e=>(ll o).contains e|none=>false))&&(Nat.ble es.length hi||(match dZ[hi]? with|some A=>A.contains i|none=>false))
theorem dx{i:Nat}(h:xK F P N ds ops Q φs l0 gd es dZ J i o)(h2:kC F P N ds ops Q φs l0 gd es dZ J (i+1) os):kC F P N ds ops Q φs l0 gd es dZ J i (o::os):=⟨h,h2⟩
theorem y9{i:Nat}:kC F P N ds ops Q φs l0 gd es dZ J i []:=trivial
theorem oX{i:Nat}{js:List (Nat×Nat)}(hj:eM ops o=js)(hp:posOf es i=none)
  (h: ∀s g',s≤es.length→(∀k A,dZ[k]? =some A→i∈A→s≤k)→(∀k e,es[k]? =some e→e∈ll o→k<s)→gd.le g'→J s g'→QA φs g' js l0 (DK F P N ds ops Q (gT φs i) g' o)):xK F P N ds ops Q φs l0 gd es dZ J i o:=by
 subst hj;intro s g' hf hs h1 _ h2 h3;refine qL _ _ _ _ (fun env hd=>?_) (h s g' h1 h2 h3 hf hs);unfold DK at hd;unfold Cs;rw[hp];cases hg:o9 ops env o.guard with
 |none=>rw[hg]at hd;exact hd
 |some b=>
  rw[hg]at hd;cases b with
  |true=>exact hd
  |false=>exact⟨rfl,hd⟩
theorem lA(lo hi:Nat){i:Nat}{js:List (Nat×Nat)}(hj:eM ops o=js)(hb:T8 es dZ o i lo hi=true)
  (h: ∀s g',lo≤s→s≤hi→gd.le g'→J s g'→QA φs g' js l0 (DK F P N ds ops Q (gT φs i) g' o)):xK F P N ds ops Q φs l0 gd es dZ J i o:=by
 simp only[T8,Bool.and_eq_true,Bool.or_eq_true]at hb;obtain⟨⟨hp,hl⟩,hh⟩:=hb;refine oX hj (by simpa using hp) fun s g' h1 h2 h3 hf hs=>h s g' ?_ ?_ hf hs
 ·rcases hl with hl|hl
  ·have:=Nat.eq_of_beq_eq_true hl;omega
  cases he:es[lo-1]? with
  |none=>rw[he]at hl;simp at hl
  |some e=>
   rw[he]at hl;have:=h3 _ e he (by simpa using hl);omega
 rcases hh with hh|hh
 ·have:=Nat.le_of_ble_eq_true hh;omega
 cases hA:dZ[hi]? with
 |none=>rw[hA]at hh;simp at hh
 |some A=>
  rw[hA]at hh;exact h2 _ A hA (by simpa using hh)
theorem wO{i:Nat}(k:Nat){js:List (Nat×Nat)}(hj:eM ops o=js)(hp:posOf es i=some k)(h: ∀g',gd.le g'→J k g'→QA φs g' js l0 (DJ F P N ds ops Q (gT φs i) g' (J (k+1)) o)):xK F P N ds ops Q φs l0 gd es dZ J i o:=by subst hj;intro s g' hf hs _ hk _ _;obtain rfl:=hk k hp;refine qL _ _ _ _ (fun env hd=>?_) (h g' hf hs);obtain⟨hg,hd⟩:=hd;rw[hg];unfold Cs;rw[hp];exact hd
theorem rE{φ:Fact}{J':G→Prop}(hg:o9 ops l o.guard=some true)(h:cS F P N ds o l g.w Q fun v w'=> ∃dM,dM.w=w'∧(g.le dM∧J' dM)∧φ.p v dM):DJ F P N ds ops Q φ g J' o l:=⟨hg,h⟩
theorem tu{tb:Tb}(dE:tb.ok P)(hA:jY F): ∀(lW:List (List Nat)) (hs:List (uF P g)) (i:Nat) (os:List Oper) (kv:List (Nat×Value)) (us ts:List (Value×Value)) (kY:List Oper) (i':Nat),
  bj tb ops ks l0 [] lW hs i os kv us=some (ts,kY,i')→iP ops os lW=true→A4 es i lW.length=true→
  (∀p∈us,p∈ts)∧((∀p∈ts,p.1=p.2)→(∀j v,lk kv j=some v→gT (ks.map FK.fact) j=Fact.eq v)→kC F P N ds ops Q (ks.map FK.fact) l0 g.dr es dZ J i' kY→kC F P N ds ops Q (ks.map FK.fact) l0 g.dr es dZ J i os)
 |[],hs,i,os,kv,us,ts,kY,i',h,_,_=>by simp only[bj,Option.some.injEq,Prod.mk.injEq]at h;obtain⟨rfl,rfl,rfl⟩:=h;exact⟨fun _ h=>h,fun _ _ k=>k⟩
 |_::_,hs,i,[],kv,us,ts,kY,i',h,_,_=>by simp[bj]at h
 |js::lW,hs,i,o::os,kv,us,ts,kY,i',h,hn,q_=>by
  simp only[iP,Bool.and_eq_true,beq_iff_eq]at hn;obtain⟨Ew,Ha⟩:=hn;simp only[List.length_cons,A4,Bool.and_eq_true]at q_;obtain⟨AY,D0⟩:=q_;simp only[bj]at h;split at h
  ·cases h
  rename_i env gR;split at h
  ·rename_i x hx;have we:=wi i hx;have xJ: ∀{v:Value},x=v→(∀j v,lk kv j=some v→gT (ks.map FK.fact) j=Fact.eq v)→ ∀j u,lk ((i,v)::kv) j=some u→gT (ks.map FK.fact) j=Fact.eq u:=by
    rintro v rfl hk j u hu;by_cases e:i=j
    ·subst e;rw[cZ]at hu;obtain rfl:=Option.some.inj hu;exact we
    rw[cq _ _ e]at hu;exact hk j u hu
   have one: ∀{v:Value},x=v→(∀j v,lk kv j=some v→gT (ks.map FK.fact) j=Fact.eq v)→(∀g',g.le g'→DK F P N ds ops Q (Fact.eq v) g' o env)→xK F P N ds ops Q (ks.map FK.fact) l0 g.dr es dZ J i o:=by rintro v rfl hk hd;refine oX rfl (by simpa using AY) fun s g' _ _ _ hf _=>?_;rw[Ew];refine tq hk _ _ _ gR ?_;rw[we];exact hd g' ((G.bI _).trans hf)
   split at h
   ·cases h
   ·rename_i hg;obtain⟨m2,k⟩:=tu dE hA _ _ _ _ _ _ _ _ _ h Ha D0;refine⟨fun p hp=>m2 p (List.mem_cons_of_mem _ hp),fun e2 hk hr=>?_⟩;have he:x=undef:=e2 _ (m2 _ (List.mem_cons_self ..));exact⟨one he hk fun g' hf=>iB hg rfl,k e2 (xJ he hk) hr⟩
   rename_i hg;cases hh:Vf o.op with
   |true=>
    simp only[hh,cond_true]at h;split at h
    ·cases h
    rename_i s hr;split at h
    ·rename_i p q v hl;obtain⟨m2,k⟩:=tu dE hA _ _ _ _ _ _ _ _ _ h Ha D0;refine⟨fun p hp=>m2 p (List.mem_cons_of_mem _ (List.mem_cons_of_mem _ hp)),fun e2 hk hr=>?_⟩;have he:x=v:=e2 _ (m2 _ (List.mem_cons_of_mem _ (List.mem_cons_self ..)));obtain rfl:p=q:=e2 _ (m2 _ (List.mem_cons_self ..));refine⟨one he hk fun g' hf=>ay hg ?_,k e2 (xJ he hk) hr⟩;exact xI dE hA (St.start g') ((sd s hf).trans hl) fun g2 B2=>⟨g2,rfl,B2,rfl⟩
    cases h
   |false=>
    simp only[hh,cond_false]at h;split at h
    ·rename_i v hv;obtain⟨m2,k⟩:=tu dE hA _ _ _ _ _ _ _ _ _ h Ha D0;refine⟨fun p hp=>m2 p (List.mem_cons_of_mem _ hp),fun e2 hk hr=>?_⟩;have he:x=v:=e2 _ (m2 _ (List.mem_cons_self ..));exact⟨one he hk fun g' hf=>ay hg (qg dE hv ⟨g',rfl,a_.refl g',rfl⟩),k e2 (xJ he hk) hr⟩
    cases h
  cases h
theorem Lm[eK P][hA:jY F]{i i':Nat}{A:List Value}(lW:List (List Nat))(ss:List (uF P g))(hn:(iP ops os lW&&A4 es i lW.length)=true)(h:ou (eK.tb P) ops ks l0 [] lW ss i os=some (A,A,kY,i'))
  (k:kC F P N ds ops Q (ks.map FK.fact) l0 g.dr es dZ J i' kY):kC F P N ds ops Q (ks.map FK.fact) l0 g.dr es dZ J i os:=by
 rw[Bool.and_eq_true]at hn;unfold ou at h;split at h
 ·rename_i ts Zy i2 h2;simp only[Option.some.injEq,Prod.mk.injEq]at h;obtain⟨rfl,e2,rfl,rfl⟩:=h;exact(tu eK.ok hA lW ss i os [] [] _ _ _ h2 hn.1 hn.2).2 (ot e2.symm) (fun j v hv=>by simp[lk]at hv) k
 cases h
theorem qz[eK P][jY F]{id:Nat}(ks:List FK)(m:Nat)(outs:List (Nat×Nat))(es:List Nat)(dZ:List (List Nat))(Ls:Nat→List df)(hs:St g0 g (Ls 0))
  (l_:(qO N ops l0 m&&A1 ops es m&&((es.zip dZ).all fun p=>va ops p.2 p.1)&&outs.all (fun p=>Nat.blt p.1 m&&(dk ops p.1==some p.2)))=true) (hsoft:rr ks)
  (iC:kC F P N ds ops Q (ks.map FK.fact) l0 g.dr es dZ (fun s g'=>St g0 g' (Ls s)) 0 (ops.toList.take m))
  (kj: ∀g',St g0 g' (Ls es.length)→g.le g'→QA (ks.map FK.fact) g' outs l0 fun env=>WL F P N ds ops Q (ops.toList.drop m) env g'.w):W F P N ds (.region id ops true) Q l0 g.w:=by
 simp only[Bool.and_eq_true]at l_;obtain⟨⟨⟨h1,h2⟩,h3⟩,h4⟩:=l_;exact L3 jY.all eK.mixed (ks.map FK.fact) m outs es dZ _ (fun s g1 g2 hf hs=>hs.call hf) hs.dr h1 h2 h3 (rr.soft hsoft) h4 iC fun g' hf lB=>kj g' lB ((G.bI _).trans hf)
end Go.K
namespace Go.Proofs.YtbfjdfecgiegpaaGreatDoor
open Go Go.K Tryz
set_option maxRecDepth 10000
attribute [local irreducible] W WL cS bh bY bB bA bC cL cD
set_option maxHeartbeats 4000000
def cB(f:bO):List Value:=[vI f.kind,vI f.idn,vI f.ver,vI f.day,.bool f.gone,vI f.time,vI f.til,vI f.waf,vI f.oth,vI f.lot,vI f.prod,vI f.tool,vI f.cham,vI f.step,vI f.rcp,vI f.rvn,vI f.val,vI f.par,.string (bs f.text)]
instance:El bO where
 k:=19
 pos:=by omega
 rc _ cs f:=cs=cB f
 len h:=by rw[h];rfl
 mono _ h:=h
 one h:=by rw[h];simp[cB,Value.oneCell']
abbrev fv(f:bO):Value:=.agg (cB f).toArray
def Wt:Nat→Nat
 |1=>98
 |5=>180
 |6=>179
 |7=>102
 |8=>115
 |9=>103
 |10=>116
 |11=>104
 |12=>105
 |13=>106
 |14=>99
 |15=>100
 |16=>108
 |17=>107
 |_=>0
def gA(i:Nat):Value:=.func (.func (Wt i)) #[] #[]
instance:El kK where
 k:=3
 pos:=by omega
 rc _ cs x:=cs=[gA x.at_,vI x.lo,vI x.hi]
 len h:=by rw[h];rfl
 mono _ h:=h
 one h:=by rw[h];simp[gA,Value.oneCell']
def mi(k:Nat):Prop:=k=1∨k=5∨k=6∨k=7∨k=8∨k=9∨k=10∨k=11∨k=12∨k=13∨k=14∨k=15∨k=16∨k=17
theorem M8{k:Nat}(hk:mi k)(b:Nat)(g:G):cN prog (Wt k) #[vP b] g fun _ r=>r= .pointer (some ⟨b,k,none⟩):=by
 rcases hk with rfl|rfl|rfl|rfl|rfl|rfl|rfl|rfl|rfl|rfl|rfl|rfl|rfl|rfl
 ·have hs:=St.start g;exact enter func98 rfl ntmps98 rfl<|aZ rfl<|aZ rfl<|aG (nw rfl hs rfl)
 ·have hs:=St.start g;exact enter func180 rfl ntmps180 rfl<|aZ rfl<|aZ rfl<|aG (nw rfl hs rfl)
 ·have hs:=St.start g;exact enter func179 rfl ntmps179 rfl<|aZ rfl<|aZ rfl<|aG (nw rfl hs rfl)
 ·have hs:=St.start g;exact enter func102 rfl ntmps102 rfl<|aZ rfl<|aZ rfl<|aG (nw rfl hs rfl)
 ·have hs:=St.start g;exact enter func115 rfl ntmps115 rfl<|aZ rfl<|aZ rfl<|aG (nw rfl hs rfl)
 ·have hs:=St.start g;exact enter func103 rfl ntmps103 rfl<|aZ rfl<|aZ rfl<|aG (nw rfl hs rfl)
 ·have hs:=St.start g;exact enter func116 rfl ntmps116 rfl<|aZ rfl<|aZ rfl<|aG (nw rfl hs rfl)
 ·have hs:=St.start g;exact enter func104 rfl ntmps104 rfl<|aZ rfl<|aZ rfl<|aG (nw rfl hs rfl)
 ·have hs:=St.start g;exact enter func105 rfl ntmps105 rfl<|aZ rfl<|aZ rfl<|aG (nw rfl hs rfl)
 ·have hs:=St.start g;exact enter func106 rfl ntmps106 rfl<|aZ rfl<|aZ rfl<|aG (nw rfl hs rfl)
 ·have hs:=St.start g;exact enter func99 rfl ntmps99 rfl<|aZ rfl<|aZ rfl<|aG (nw rfl hs rfl)
 ·have hs:=St.start g;exact enter func100 rfl ntmps100 rfl<|aZ rfl<|aZ rfl<|aG (nw rfl hs rfl)
 ·have hs:=St.start g;exact enter func108 rfl ntmps108 rfl<|aZ rfl<|aZ rfl<|aG (nw rfl hs rfl)
 have hs:=St.start g;exact enter func107 rfl ntmps107 rfl<|aZ rfl<|aZ rfl<|aG (nw rfl hs rfl)
theorem HZ{k:Nat}(hk:mi k):ag prog (Wt k):=by
 rcases hk with rfl|rfl|rfl|rfl|rfl|rfl|rfl|rfl|rfl|rfl|rfl|rfl|rfl|rfl
 ·exact(Wc 98)
 ·exact(Wc 180)
 ·exact(Wc 179)
 ·exact(Wc 102)
 ·exact(Wc 115)
 ·exact(Wc 103)
 ·exact(Wc 116)
 ·exact(Wc 104)
 ·exact(Wc 105)
 ·exact(Wc 106)
 ·exact(Wc 99)
 ·exact(Wc 100)
 ·exact(Wc 108)
 exact(Wc 107)
theorem H0(f:bO)(g:G):cN prog 112 #[fv f] g fun _ r=>r= .bool (sC 1 f):=by have hs:=St.start g;exact enter func112 rfl ntmps112 rfl<|cR<|EH hs rfl fun b1 g1 hs ai=>aX rfl<|lJ [.o 0,.o 0] hs rfl<|aG (nw rfl hs rfl)
theorem EI(f:bO)(g:G):cN prog 114 #[fv f] g fun _ r=>r= .bool (sC 0 f):=by have hs:=St.start g;exact enter func114 rfl ntmps114 rfl<|cR<|EH hs rfl fun b1 g1 hs ai=>aX rfl<|aZ rfl<|aG (nw rfl hs rfl)
theorem KZ(f:bO)(g:G):cN prog 101 #[fv f] g fun _ r=>r= .bool (sC 2 f):=by have hs:=St.start g;exact enter func101 rfl ntmps101 rfl<|cR<|EH hs rfl fun b1 g1 hs ai=>aX rfl<|lJ [.o 0,.o 0] hs rfl<|aG (nw rfl hs rfl)
theorem OB(b:Bool)(g:G):cN prog 117 #[.bool b] g fun _ r=>r=vI (pv b):=by
 have hs:=St.start g;refine enter func117 rfl ntmps117 rfl<|aZ rfl<|az<|aZ rfl ?_;cases b with
 |true=>
  exact aas rfl<|aZ rfl<|aG<|dO<|nw rfl hs rfl
 |false=>
  exact aar rfl<|aF<|aq<|aZ rfl<|aG<|nw rfl hs rfl
theorem eE(i:Nat)(g:G):cN prog 97 #[gA i] g fun _ r=>r= .agg #[gA i,vI 1,vI 1000000]:=by have hs:=St.start g;exact enter func97 rfl ntmps97 rfl<|cR<|w4 hs rfl fun b1 g1 hs ai=>b_<|cG 1 rfl<|BO [(0,gA i),(1,vI (1)),(2,vI (1000000))] [gA i,vI (1),vI (1000000)] [(0,1),(1,1),(2,1)] rfl<|sN 0 hs rfl fun g1 hs ai=>b_<|aG (me T.ok 0 rfl hs rfl rfl rfl (hs.ret rfl))
theorem n5(g:G):cN prog 113 #[] g fun _ r=>r= .agg #[gA 5,vI 0,vI 1000000]:=by have hs:=St.start g;exact enter func113 rfl ntmps113 rfl<|cR<|w4 hs rfl fun b1 g1 hs ai=>b_<|cR<|BO [(0,gA 5),(1,vI (0)),(2,vI (1000000))] [gA 5,vI (0),vI (1000000)] [(0,1),(1,1),(2,1)] rfl<|sN 0 hs rfl fun g1 hs ai=>b_<|aG (me T.ok 0 rfl hs rfl rfl rfl (hs.ret rfl))
def jP(l:List kK):List Value:=l.flatMap fun x=>[gA x.at_,vI x.lo,vI x.hi]
theorem gj(g:G): ∀l:List kK,cY g (jP l) l
 |[]=>rfl
 |_::l=>⟨_,_,rfl,rfl,gj g l⟩
theorem cY.YT: ∀{l:List kK} {g:G} {cs ds:List Value},cY g cs l→cY g ds l→cs=ds
 |[],_,_,_,h1,h2=>h1.trans h2.symm
 |_::l,g,_,_,⟨_,_,e1,r1,h1⟩,⟨_,_,e2,r2,h2⟩=>by rw[e1,e2,show _=_ from r1,show _=_ from r2,cY.YT h1 h2]
theorem vV(g:G):cN prog 110 #[] g (kh 132 g fF):=by have hs:=St.start g;exact enter func110 rfl ntmps110 rfl<|aZ rfl<|cR<|BO [(0,gA 11),(1,vI (0)),(2,vI (59))] [gA 11,vI (0),vI (59)] [(0,1),(1,1),(2,1)] rfl<|BO [(0,gA 12),(1,vI (0)),(2,vI (3))] [gA 12,vI (0),vI (3)] [(0,1),(1,1),(2,1)] rfl<|BP [(0,.agg #[gA 11,vI 0,vI 59]),(1,.agg #[gA 12,vI 0,vI 3])] (jP fF) hs rfl rfl fun b g1 hs hle=>aX rfl<|aG (nw rfl hs (hs.mw (i:=0) rfl (gj _ fF)))
theorem vW(g:G):cN prog 111 #[] g (kh 132 g iw):=by have hs:=St.start g;exact enter func111 rfl ntmps111 rfl<|aZ rfl<|cR<|Ev rfl (n5 _) hs fun g1 hs ai=>BO [(0,gA 6),(1,vI (0)),(2,vI (1000000))] [gA 6,vI (0),vI (1000000)] [(0,1),(1,1),(2,1)] rfl<|BP [(0,.agg #[gA 5,vI 0,vI 1000000]),(1,.agg #[gA 6,vI 0,vI 1000000])] (jP iw) hs rfl rfl fun b g1 hs hle=>aX rfl<|aG (nw rfl hs (hs.mw (i:=0) rfl (gj _ iw)))
theorem rM(v:Value)(ls:List (List kK))(g:G)(aH:Rs g v ls)(hb:(ls.map List.length).sum≤100):cN prog 109 #[v] g (kh 132 g ls.flatten):=by
 obtain⟨a,c,rfl⟩:=aH.isSlice;have hlen:=aH.ef;unfold maxLen at hlen;have hs:=St.start g;refine enter func109 rfl ntmps109 rfl<|aZ rfl<|az<|aZ rfl<|aI ?_;replace hs:=hs.eP 132 3 none;have ar:=G.le.refl g;have pL:=aH;refine bK (fun m a' w=> ∃(k:Nat) (u:Value) (g2:G),w=g2.w∧St g g2 [.row 132 3 u (ls.take k).flatten.length (jP (ls.take k).flatten)]∧G.le g g2∧k≤ls.length∧m=ls.length-k∧
   Fr 16 [] [(2,u),(5,.slice a ls.length c),(6,vI ls.length),(7,vI k)] a') ls.length
  (fun a' ha=>⟨0,_,g,rfl,hs,ar,Nat.zero_le _,rfl,ha.kp rfl⟩) ?_
 clear hs ar aH;rintro m a' _ ⟨k,u,g2,rfl,hs,ar,hk,rfl,dW⟩;have aH:=pL.mono ar;revert a';refine ct<|aZ rfl<|az ?_;by_cases bt:k<ls.length
 ·refine aJ (b:=decide ((k:Int)<(ls.length:Int))) (by simp;omega) rfl<|aF<|aq<|az<|aI<|cR<|zc (y:=ls[k]) aH (bZ rfl bt) rfl fun b p ys aL gw=>?_;obtain⟨v1,rfl,YU⟩:=gw;obtain⟨a1,c1,rfl⟩:=YU.isSlice;refine q5 1 [.e aL 0] rfl<|aX rfl<|an<|Wp 2 rfl ?_;obtain⟨_,news,CZ,iu⟩:=Src.jx YU;obtain rfl:news=jP ls[k]:=cY.YT CZ (gj _ _)
  have Wu:(ls.take k).flatten.length+ls[k].length≤100:=by
   have h1:(ls.take (k+1)).flatten.length≤ls.flatten.length:=by
    conv=>rhs;rw[←List.take_append_drop (k+1) ls]
    rw[List.flatten_append,List.length_append];omega
   rw[List.take_succ_eq_append_getElem bt,List.flatten_append,List.length_append]at h1;rw[List.length_flatten (L:=ls)]at h1;simpa using Nat.le_trans h1 hb
  refine ak rfl rfl<|bU T.ok 0 rfl hs rfl rfl rfl rfl rfl rfl rfl (by decide) rfl iu CZ.one (by show(_+_)*24≤_;omega) (by unfold maxLen;omega) fun a' c' g3 hs hle=>?_;replace ar:=ar.trans hle;refine Wp 1 rfl<|aA<|bJ<|aq<|an<|Wp 2 rfl<|aA<|fun a ha=>⟨ls.length-(k+1),by omega,k+1,_,_,rfl,?_,ar,by omega,rfl,ha.keep ⟨rfl,rfl,rfl,kW rfl,trivial⟩⟩
  have e1:(ls.take (k+1)).flatten=(ls.take k).flatten++ls[k]:=by rw[List.take_succ_eq_append_getElem bt,List.flatten_append];simp
  rw[e1,List.length_append];unfold jP at hs⊢;rw[List.flatMap_append];exact hs
 refine aQ (b:=decide ((k:Int)<(ls.length:Int))) (by simp;omega) rfl<|bc<|bg<|bg<|cA<|aq<|aZ rfl ?_;rw[List.take_of_length_le (by omega)]at hs;exact aG<|nw rfl hs<|hs.mw (i:=0) rfl (gj _ _)
end Go.Proofs.YtbfjdfecgiegpaaGreatDoor
namespace Go.K
open Go Go.RowKit
variable {F:Fence} {P:Program} {N:Nat} {ds:List Deferred} {ops:Array Oper} {Q:Exit→Act→World→Prop} {φs:List Fact} {l0:Env} {gd:G}
def QU(φs:List Fact)(es:List Nat)(ρ:Nat→Option Value)(g:G):List (Nat×Nat)→Env→(Env→Prop)→Prop
 |[],l,k=>k l
 |(j,d)::r,l,k=> ∀v,(gT φs j).p v g→(es.contains j=true→ρ j=some v)→QU φs es ρ g r ((d,v)::l) k
def su(ρ:Nat→Option Value)(i:Nat)(v:Value):Nat→Option Value:=fun j=>if j=i then some v else ρ j
def D3(es:List Nat)(J:(Nat→Option Value)→G→Prop)(ρ:Nat→Option Value)(i:Nat)(v:Value)(g g':G):Prop:=if es.contains i=true then g.le g'∧J (su ρ i v) g' else a_ g g'
def zD(F:Fence)(P:Program)(N:Nat)(ds:List Deferred)(ops:Array Oper)(Q:Exit→Act→World→Prop)(φs:List Fact)(l0:Env)(gd:G)(es:List Nat)(dZ:List (List Nat))(J:(Nat→Option Value)→G→Prop)(i:Nat)(o:Oper):Prop:=
 ∀ρ g',gd.le g'→J ρ g'→(es.contains i=true→ρ i=none)→(∀(k:Nat) A e,es[k]? =some e→dZ[k]? =some A→i∈A→ρ e=none)→(∀e,es.contains e=true→e∈ll o→ρ e≠none)→QU φs es ρ g' (eM ops o) l0 fun env=>
  match o9 ops env o.guard with
  |some true=>cS F P N ds o env g'.w Q fun v w'=> ∃dM,dM.w=w'∧D3 es J ρ i v g' dM∧(gT φs i).p v dM
  |some false=>D3 es J ρ i undef g' g'∧(gT φs i).p undef g'
  |none=>False
def kE(F:Fence)(P:Program)(N:Nat)(ds:List Deferred)(ops:Array Oper)(Q:Exit→Act→World→Prop)(φs:List Fact)(l0:Env)(gd:G)(es:List Nat)(dZ:List (List Nat))(J:(Nat→Option Value)→G→Prop):Nat→List Oper→Prop
 |_,[]=>True
 |i,o::os=>zD F P N ds ops Q φs l0 gd es dZ J i o∧kE F P N ds ops Q φs l0 gd es dZ J (i+1) os
theorem kE.at{es:List Nat}{dZ:List (List Nat)}{J:(Nat→Option Value)→G→Prop}: ∀{l:List Oper} {i0:Nat},kE F P N ds ops Q φs l0 gd es dZ J i0 l→ ∀(j:Nat) o,l[j]? =some o→zD F P N ds ops Q φs l0 gd es dZ J (i0+j) o
 |[],_,_,j,o,h=>by simp at h
 |x::l,i0,hs,0,o,h=>by simp only[List.getElem?_cons_zero,Option.some.injEq]at h;subst h;exact hs.1
 |x::l,i0,hs,j+1,o,h=>by simp only[List.getElem?_cons_succ]at h;have:=kE.at (i0:=i0+1) hs.2 j o h;rw[show i0+(j+1)=i0+1+j from by omega];exact this
theorem A6{g:G}{a:Act}{es:List Nat}{ρ:Nat→Option Value}: ∀(js:List (Nat×Nat)) {l:Env} {k:Env→Prop},QU φs es ρ g js l k→Fr N ds l a→(∀p∈js,∃v,a.tmps[p.2]? =some v∧(gT φs p.1).p v g∧(es.contains p.1=true→ρ p.1=some v))→ ∃env,k env∧Fr N ds env a
 |[],l,k,h,ha,_=>⟨l,h,ha⟩
 |(j,d)::r,l,k,h,ha,hp=>by
  obtain⟨v,hv,hf,hr⟩:=hp (j,d) (by simp);refine A6 r (h v hf hr) ⟨ha.defers,ha.size,fun t u hu=>?_⟩ (fun p mh=>hp p (by simp[mh]));by_cases e:d=t
  ·subst e;rw[cZ]at hu;rw[←hu];exact hv
  rw[cq _ _ e]at hu;exact ha.get t u hu
theorem A7{g':G}{es:List Nat}{ρ:Nat→Option Value}: ∀(js:List (Nat×Nat)) (l:Env) (k k':Env→Prop),(∀env,k env→k' env)→QU φs es ρ g' js l k→QU φs es ρ g' js l k'
 |[],_,_,_,hk,h=>hk _ h
 |_::r,_,k,k',hk,h=>fun v hv hr=>A7 r _ k k' hk (h v hv hr)
theorem NA{g':G}{es:List Nat}{ρ:Nat→Option Value}: ∀(js:List (Nat×Nat)) (l:Env) (k:Env→Prop),QA φs g' js l k→QU φs es ρ g' js l k
 |[],_,_,h=>h
 |_::r,_,k,h=>fun v hv _=>NA r _ k (h v hv)
theorem L5{id:Nat}{g:G}(hF: ∀f,F.fn f)(hm:P.follows .mixedOrders=true)(φs:List Fact)(m:Nat)(outs:List (Nat×Nat))(es:List Nat)(dZ:List (List Nat))(J:(Nat→Option Value)→G→Prop)(hJ: ∀ρ g g',a_ g g'→J ρ g→J ρ g')(Ds:J (fun _=>none) g.dr)(l_:qO N ops l0 m=true)(XL:(es.all fun e=>Nat.blt e m)=true)(Ji:((es.zip dZ).all fun p=>va ops p.2 p.1)=true)(hsoft:jB [] 0 φs)
  (houts:outs.all (fun p=>Nat.blt p.1 m&&(dk ops p.1==some p.2))=true)
  (iC:kE F P N ds ops Q φs l0 g.dr es dZ J 0 (ops.toList.take m))
  (kj: ∀ρ g',g.dr.le g'→J ρ g'→(∀e,es.contains e=true→ρ e≠none)→QU φs es ρ g' outs l0 fun env=>WL F P N ds ops Q (ops.toList.drop m) env g'.w):W F P N ds (.region id ops true) Q l0 g.w:=by
 intro a ha;simp only[qO,Bool.and_eq_true,List.all_eq_true,List.mem_range]at l_;obtain⟨⟨⟨c1,c2⟩,c3⟩,c4⟩:=l_;have c4:m≤ops.size:=Nat.le_of_ble_eq_true c4;have k1: ∀i o,ops[i]? =some o→ ∀j∈ll o,j<i:=by intro i o ho j hj;have:=c1 i (Array.getElem?_eq_some_iff.1 ho).1;rw[ho]at this;have:=(List.all_eq_true.1 this) j hj;simpa [Nat.blt_eq]using this
 have k2: ∀j o,m≤j→ops[j]? =some o→ ∀k,k<j→ ∃i' o',k<i'∧i'≤j∧ops[i']? =some o'∧k∈ll o':=by
  intro j o hj ho k hk;have:=c2 j (Array.getElem?_eq_some_iff.1 ho).1;simp only[Bool.or_eq_true]at this;rcases this with h|h
  ·have:j<m:=by simpa [Nat.blt_eq]using h
   omega
  have:=(List.all_eq_true.1 h) k (List.mem_range.2 hk);obtain⟨i',h1,h2⟩:=List.any_eq_true.1 this;simp only[Bool.and_eq_true]at h2;have h3:=List.mem_range.1 h1;cases pb:ops[i']? with
  |none=>rw[pb]at h2;simp at h2
  |some o'=>
   rw[pb]at h2;exact⟨i',o',by simpa [Nat.blt_eq]using h2.1,by omega,pb,by simpa using h2.2⟩
 have k4: ∀(listed:Array Bool),(∀k o,listed.getD k false=true→ops[k]? =some o→ ∀e∈ll o,listed.getD e false=true)→ ∀j o,m≤j→ops[j]? =some o→(∀e∈ll o,listed.getD e false=true)→ ∀k,k<j→listed.getD k false=true:=by
  intro listed fw j o hj ho dj;have: ∀d k,k<j→j-k=d→listed.getD k false=true:=by
   intro d
   induction d using Nat.strongRecOn with
   |_ d Cc=>
    intro k hk hd;obtain⟨i',o',h1,h2,h3,h4⟩:=k2 j o hj ho k hk;rcases Nat.lt_or_ge i' j with h|h
    ·exact fw i' o' (Cc (j-i') (by omega) i' h rfl) h3 k h4
    obtain rfl:i'=j:=by omega
    rw[ho]at h3;obtain rfl:=Option.some.inj h3;exact dj k h4
  exact fun k hk=>this _ k hk rfl
 have k3: ∀i,i<m→ ∀d,dk ops i=some d→d<N∧lk l0 d=none∧ ∀j,j<m→j≠i→ ∀e,dk ops j=some e→e≠d:=by
  intro i hi d hd;have:=c3 i hi;simp only[hd,Bool.and_eq_true,List.all_eq_true,List.mem_range,Bool.or_eq_true]at this;refine⟨by simpa [Nat.blt_eq]using this.1.1,by simpa using this.1.2,fun j hj eO e he=>?_⟩;rcases this.2 j hj with h|h
  ·exact absurd (by simpa using h) eO
  simpa [he]using h
 have AQ: ∀(listed:Array Bool),(∀k o,listed.getD k false=true→ops[k]? =some o→ ∀e∈ll o,listed.getD e false=true)→ ∀(k:Nat) e A,es[k]? =some e→dZ[k]? =some A→listed.getD e false=true→ ∀i∈A,listed.getD i false=true:=by
  intro listed fw k e A he hA Oh;have hz:(e,A)∈es.zip dZ:=by rw[List.mem_iff_getElem?];exact⟨k,by rw[List.getElem?_zip_eq_some];exact⟨he,hA⟩⟩
  have h1:=(List.all_eq_true.1 Ji) _ hz;simp only[va,List.all_eq_true,Bool.and_eq_true]at h1;have: ∀d i,i∈A→e-i=d→listed.getD i false=true:=by
   intro d
   induction d using Nat.strongRecOn with
   |_ d Cc=>
    intro i hi hd;obtain⟨h2,h3⟩:=h1 i hi;have oh:i<e:=by simpa [Nat.blt_eq]using h2
    obtain⟨j,hj,L4⟩:=List.any_eq_true.1 h3;cases ho:ops[j]? with
    |none=>rw[ho]at L4;simp at L4
    |some o=>
     rw[ho]at L4;have Bk:i∈ll o:=by simpa using L4
     have bt:=k1 j o ho i Bk;rcases List.mem_cons.1 hj with rfl|hj
     ·exact fw _ o Oh ho i Bk
     have Gp:j<e:=by simpa [Nat.blt_eq]using(h1 j hj).1
     exact fw j o (Cc (e-j) (by omega) j hj rfl) ho i Bk
  exact fun i hi=>this _ i hi rfl
 let Qq:Array Bool→Act→G→Prop:=fun listed a g'=>g.dr.le g'∧ ∃ρ,(∀e,ρ e≠none↔(es.contains e=true∧listed.getD e false=true))∧(∀e v d,ρ e=some v→dk ops e=some d→a.tmps[d]? =some v)∧J ρ g'
 have Pr: ∀e,es.contains e=true→e<m:=fun e he=>by have:=(List.all_eq_true.1 XL) e (by simpa using he);simpa [Nat.blt_eq]using this
 have Jm: ∀{listed:Array Bool} {a:Act} {ρ:Nat→Option Value} (_: ∀e,ρ e≠none↔(es.contains e=true∧listed.getD e false=true)) (_: ∀e v d,ρ e=some v→dk ops e=some d→a.tmps[d]? =some v) {j d:Nat} {v:Value},
   listed.getD j false=true→dk ops j=some d→a.tmps[d]? =some v→es.contains j=true→ρ j=some v:=by
  intro listed a ρ h1 h2 j d v hl hd hv he;cases hr:ρ j with
  |none=>exact absurd hr ((h1 j).2 ⟨he,hl⟩)
  |some u=>
   have:=h2 j u d hr hd;rw[hv]at this;exact this.symm
 refine wpIn_region_any hm ?_;have key: ∀(fuel:Nat) (listed:Array Bool) (a:Act) (g':G),listed.size=ops.size→Qq listed a g'→Fr N ds l0 a→
   (∀i,i<m→listed.getD i false=true→ ∀d,dk ops i=some d→ ∃v,a.tmps[d]? =some v∧(gT φs i).p v g')→(∀j,m≤j→j<ops.size→listed.getD j false=false)→(∀k o,listed.getD k false=true→ops[k]? =some o→ ∀e∈ll o,listed.getD e false=true)→
   (ops.size-((List.range ops.size).filter fun i=>listed.getD i false).length≤fuel)→wpAnyIn F 0 P .any ops Q fuel listed a g'.w:=by
  intro fuel
  induction fuel with
  |zero=>
   intro listed a g' cK hf ha eC f_ fw td;have dj: ∀j,j<ops.size→listed.getD j false=true:=by
    have hlen:((List.range ops.size).filter fun i=>listed.getD i false).length=(List.range ops.size).length:=by have:=List.length_filter_le (fun i=>listed.getD i false) (List.range ops.size);simp only[List.length_range]at this⊢;omega
    have:=List.length_filter_eq_length_iff.1 hlen;intro j hj;exact this j (List.mem_range.2 hj)
   have F5:m=ops.size:=by
    rcases Nat.lt_or_ge m ops.size with h|h
    ·have:=f_ m (Nat.le_refl _) h;rw[dj m h]at this;cases this
    omega
   obtain⟨pg,ρ,uy,Bq,Qr⟩:=hf;obtain⟨env,hW,gR⟩:=A6 outs (kj ρ g' pg Qr (fun e he=>(uy e).2 ⟨he,dj e (by have:=Pr e he;omega)⟩)) ha (fun p hp=>by
    have:=(List.all_eq_true.1 houts) p hp;simp only[Bool.and_eq_true,beq_iff_eq]at this;have bt:p.1<m:=by simpa [Nat.blt_eq]using this.1
    obtain⟨v,hv,ke⟩:=eC p.1 bt (dj _ (by omega)) _ this.2;exact⟨v,hv,ke,Jm uy Bq (dj _ (by omega)) this.2 hv⟩)
   refine jg k1 0 ops.size listed a g'.w cK (Nat.le_refl _) (fun j o hj ho=>?_) (fun j hj=>⟨fun _=>hj,fun _=>dj j hj⟩) (by omega) (by rw[←F5];exact hW a gR);have:=(Array.getElem?_eq_some_iff.1 ho).1;omega
  |succ fuel ih=>
   intro listed a g' cK hf ha eC f_ fw td;by_cases gM: ∀j,j<m→listed.getD j false=true
   ·obtain⟨pg,ρ,uy,Bq,Qr⟩:=hf;obtain⟨env,hW,gR⟩:=A6 outs (kj ρ g' pg Qr (fun e he=>(uy e).2 ⟨he,gM e (Pr e he)⟩)) ha (fun p hp=>by
     have:=(List.all_eq_true.1 houts) p hp;simp only[Bool.and_eq_true,beq_iff_eq]at this;have bt:p.1<m:=by simpa [Nat.blt_eq]using this.1
     obtain⟨v,hv,ke⟩:=eC p.1 bt (gM _ bt) _ this.2;exact⟨v,hv,ke,Jm uy Bq (gM _ bt) this.2 hv⟩)
    refine jg k1 (fuel+1) m listed a g'.w cK c4 (fun j o hj ho=>k2 j o hj ho) (fun j hj=>⟨fun h=>?_,fun h=>gM j h⟩) ?_ (hW a gR)
    ·rcases Nat.lt_or_ge j m with h'|h'
     ·exact h'
     rw[f_ j h' hj]at h;cases h
    have hle:((List.range ops.size).filter fun i=>listed.getD i false).length≤m:=by
     have oi:((List.range ops.size).filter fun i=>listed.getD i false).length≤((List.range ops.size).filter fun i=>decide (i<m)).length:=by
      refine List.Sublist.length_le ?_;rw[show((List.range ops.size).filter fun i=>listed.getD i false)=((List.range ops.size).filter fun i=>decide (i<m)).filter (fun i=>listed.getD i false)from ?_]
      ·exact List.filter_sublist
      rw[List.filter_filter];refine List.filter_congr fun i hi=>?_;have hi:=List.mem_range.1 hi;by_cases h:i<m
      ·simp[h]
      rw[f_ i (by omega) hi];simp
     have:((List.range ops.size).filter fun i=>decide (i<m)).length=m:=by
      have e:ops.size=m+(ops.size-m):=by omega
      rw[e,List.range_add,List.filter_append,List.length_append,List.filter_eq_self.2 (by intro x hx;simpa using hx),List.filter_eq_nil_iff.2 (by intro x hx;obtain⟨y,_,rfl⟩:=List.mem_map.1 hx;simp)];simp
     omega
    omega
   --qK of Bp first part is not listed:Bp least LS is ready
   have hex: ∃j,j<m∧listed.getD j false=false∧ ∀k,k<j→listed.getD k false=true:=by
    have: ∃j,j<m∧listed.getD j false=false:=by
     apply Classical.byContradiction;intro de;apply gM;intro j hj;cases hc:listed.getD j false with
     |true=>rfl
     |false=>exact absurd ⟨j,hj,hc⟩ de
    obtain⟨j,hj⟩:=this
    induction j using Nat.strongRecOn with
    |_ j LU=>
     by_cases hk: ∃k,k<j∧listed.getD k false=false
     ·obtain⟨k,rH,yA⟩:=hk;exact LU k rH ⟨by omega,yA⟩
     refine⟨j,hj.1,hj.2,fun k rH=>?_⟩;cases hc:listed.getD k false with
     |true=>rfl
     |false=>exact absurd ⟨k,rH,hc⟩ hk
   obtain⟨j0,Vb,Cd,sn⟩:=hex;have iD:j0∈Region.ready .any ops listed:=by
    rw[fk];have bt:j0<ops.size:=by omega
    refine⟨by rw[getD_lt (cK▸bt) true false];exact Cd,_,Array.getElem?_eq_getElem bt,fun k hk=>sn k (k1 j0 _ (Array.getElem?_eq_getElem bt) k hk)⟩
   refine⟨fun h0=>(by rw[h0]at iD;cases iD),fun i hi=>?_⟩;obtain⟨h0,o,ho,dj⟩:=fk.1 hi;have mV:i<ops.size:=(Array.getElem?_eq_some_iff.1 ho).1;rw[getD_lt (cK▸mV) true false]at h0;have p7:i<m:=by
    rcases Nat.lt_or_ge i m with h|h
    ·exact h
    have:=k4 listed fw i o h ho dj j0 (by omega);rw[Cd]at this;cases this
   have Jj:dk ops i=o.dst:=by unfold dk;rw[ho];rfl
   have jT:=iC.at (i0:=0) i o (by rw[List.getElem?_take_of_lt p7];simpa using ho);rw[Nat.zero_add]at jT;obtain⟨G8,ρ,uy,Bq,Qr⟩:=hf;have oj: ∀p∈eM ops o,∃v,a.tmps[p.2]? =some v∧(gT φs p.1).p v g'∧(es.contains p.1=true→ρ p.1=some v):=by
    intro p hp;unfold eM at hp;obtain⟨j,hj,xx⟩:=List.mem_filterMap.1 hp;cases ym:dk ops j with
    |none=>simp[ym]at xx
    |some e=>
     simp only[ym]at xx;have LV:j<m:=by have:=k1 i o ho j hj;omega
     obtain⟨v,hv,ke⟩:=eC j LV (dj j hj) e ym;have DR: ∀(c:Bool) (q:Nat×Nat),(bif c then some q else none)=some p→q=p:=by
      intro c q h;cases c with
      |true=>exact Option.some.inj h
      |false=>cases h
     obtain rfl:=DR _ _ xx;exact⟨v,hv,ke,Jm uy Bq (dj j hj) ym hv⟩
   obtain⟨env,hk,gR⟩:=A6 (eM ops o) (jT ρ g' G8 Qr (fun he=>by
    cases hr:ρ i with
    |none=>rfl
    |some u=>have:=((uy i).1 (by rw[hr];simp)).2;rw[this]at h0;cases h0) (fun k A e he hA XM=>by
    cases hr:ρ e with
    |none=>rfl
    |some u=>
     have Oh:=((uy e).1 (by rw[hr];simp)).2;have:=AQ listed fw k e A he hA Oh i XM;rw[this]at h0;cases h0) (fun e he XN=>(uy e).2 ⟨he,dj e XN⟩)) ha oj
   have kU: ∀(a':Act) (dM:G) (v:Value),a'=a.put o.dst v→D3 es J ρ i v g' dM→(gT φs i).p v dM→wpAnyIn F 0 P .any ops Q fuel (listed.setIfInBounds i true) a' dM.w:=by
    intro a' dM v he eR ke;have pd: ∀t,o.dst≠some t→a'.tmps[t]? =a.tmps[t]?:=fun t ht=>by
     rw[he];cases sB:o.dst with
     |none=>rfl
     |some d=>
      simp only[Act.put];rw[Array.getElem?_setIfInBounds_ne (fun e=>ht (by rw[sB,e]))]
    have o3: ∀d,o.dst=some d→a'.tmps[d]? =some v:=fun d sB=>by rw[he,sB];simp only[Act.put];rw[Array.getElem?_setIfInBounds_self,if_pos (by rw[ha.size];exact(k3 i p7 d (Jj.trans sB)).1)]
    have gL: ∀k,k≠i→(listed.setIfInBounds i true).getD k false=listed.getD k false:=fun k hk=>by simp only[Array.getD_eq_getD_getElem?];rw[Array.getElem?_setIfInBounds_ne (fun e=>hk e.symm)]
    have dF:(listed.setIfInBounds i true).getD i false=true:=by simp[cK,mV]
    have Jk:g'.le dM:=by
     unfold D3 at eR;split at eR
     ·exact eR.1
     exact eR.le
    have hold: ∀e u d,e≠i→ρ e=some u→dk ops e=some d→a'.tmps[d]? =some u:=fun e u d eO hr hd=>by have XJ:=Pr e ((uy e).1 (by rw[hr];simp)).1;rw[pd d (fun h=>(k3 e XJ d hd).2.2 i p7 (fun h'=>eO h'.symm) d (Jj.trans h) rfl)];exact Bq e u d hr hd
    have hinv:Qq (listed.setIfInBounds i true) a' dM:=by
     refine⟨G8.trans Jk,?_⟩;unfold D3 at eR;split at eR
     ·rename_i oh;refine⟨su ρ i v,fun e=>?_,fun e u d hr hd=>?_,eR.2⟩
      ·unfold su;by_cases Jl:e=i
       ·subst Jl;simp only[if_true];exact⟨fun _=>⟨oh,dF⟩,fun _=>by simp⟩
       rw[if_neg Jl,gL e Jl];exact uy e
      unfold su at hr;by_cases Jl:e=i
      ·subst Jl;rw[if_pos rfl]at hr;obtain rfl:=Option.some.inj hr;exact o3 d (Jj.symm.trans hd)
      rw[if_neg Jl]at hr;exact hold e u d Jl hr hd
     rename_i oh;have eO: ∀e,es.contains e=true→e≠i:=fun e he h=>by subst h;exact oh he
     refine⟨ρ,fun e=>?_,fun e u d hr hd=>?_,hJ ρ _ _ eR Qr⟩
     ·constructor
      ·intro h;have:=(uy e).1 h;exact⟨this.1,by rw[gL e (eO e this.1)];exact this.2⟩
      rintro⟨h1,h2⟩;rw[gL e (eO e h1)]at h2;exact(uy e).2 ⟨h1,h2⟩
     exact hold e u d (eO e ((uy e).1 (by rw[hr];simp)).1) hr hd
    refine ih _ a' dM (by simpa using cK) hinv ⟨by rw[he];cases o.dst<;>exact ha.defers,by rw[he];cases o.dst<;>simp[Act.put,ha.size],fun t u hu=>?_⟩ (fun k hk jG d' uB=>?_) (fun j hj I9=>?_) (fun k o' hk AR e he=>?_) ?_
    ·rw[pd t (fun e=>by have:=(k3 i p7 t (Jj.trans e)).2.1;rw[this]at hu;cases hu)];exact ha.get t u hu
    ·by_cases j9:k=i
     ·subst j9;exact⟨v,o3 d' (Jj.symm.trans uB),ke⟩
     rw[gL k j9]at jG;obtain⟨v',Ce,xy⟩:=eC k hk jG d' uB;refine⟨v',?_,(jB.at hsoft k).elim (fun h=>by simp at h) fun h=>h _ _ _ Jk xy⟩;rw[pd d' (fun e=>(k3 k hk d' uB).2.2 i p7 (fun h=>j9 h.symm) d' (Jj.trans e) rfl)];exact Ce
    ·rw[gL j (by omega)];exact f_ j hj I9
    ·have hle: ∀x,listed.getD x false=true→(listed.setIfInBounds i true).getD x false=true:=fun x hx=>by
      by_cases Bn:x=i
      ·subst Bn;exact dF
      rw[gL x Bn];exact hx
     by_cases j9:k=i
     ·subst j9;rw[ho]at AR;obtain rfl:=Option.some.inj AR;exact hle e (dj e he)
     rw[gL k j9]at hk;exact hle e (fw k o' hk AR e he)
    have bt:((List.range ops.size).filter fun k=>listed.getD k false).length<((List.range ops.size).filter fun k=>(listed.setIfInBounds i true).getD k false).length:=by
     have oi:List.Sublist ((List.range ops.size).filter fun k=>listed.getD k false) ((List.range ops.size).filter fun k=>(listed.setIfInBounds i true).getD k false):=by
      have e:((List.range ops.size).filter fun k=>listed.getD k false)=((List.range ops.size).filter fun k=>(listed.setIfInBounds i true).getD k false).filter (fun k=>listed.getD k false):=by
       rw[List.filter_filter];refine List.filter_congr fun k _=>?_;by_cases j9:k=i
       ·subst j9;rw[dF];simp
       rw[gL k j9];simp
      rw[e];exact List.filter_sublist
     refine Nat.lt_of_le_of_ne oi.length_le fun e=>?_;have:=oi.eq_of_length e;have sK:i∈((List.range ops.size).filter fun k=>(listed.setIfInBounds i true).getD k false):=List.mem_filter.2 ⟨List.mem_range.2 mV,dF⟩;rw[←this]at sK;have:=(List.mem_filter.1 sK).2;rw[h0]at this;cases this
    omega
   unfold wpOpIn;rw[ho];simp only;cases hg:o9 ops env o.guard with
   |none=>rw[hg]at hk;exact hk.elim
   |some b=>
    have mE:Region.wanted o (yielded ops a.tmps)=b:=jW (l:=env) (o:=o) hg gR;rw[hg]at hk;cases b with
    |true=>
     rw[if_pos mE];exact Oper.wpIn_mono (fun a' w' ⟨v,he,dM,hw,eR,ke⟩=>hw▸kU a' dM v he eR ke) (hk a gR)
    |false=>
     rw[if_neg (by rw[mE];simp)];exact⟨fun f _=>hF f,kU _ g' undef rfl hk.1 hk.2⟩
 refine key ops.size _ a g.dr (by simp) ⟨G.le.refl _,fun _=>none,fun e=>⟨fun h=>absurd rfl h,fun h=>by have h2:=h.2;simp only[Array.getD_eq_getD_getElem?,Array.getElem?_replicate]at h2;split at h2<;>simp at h2⟩,fun e v d hr=>(by cases hr),Ds⟩ ha (fun i hi hl=>?_) (fun j _ hj=>by simp[hj]) (fun k o hl=>?_) (by omega)
 ·simp only[Array.getD_eq_getD_getElem?,Array.getElem?_replicate]at hl;split at hl<;>simp at hl
 simp only[Array.getD_eq_getD_getElem?,Array.getElem?_replicate]at hl;split at hl<;>simp at hl
end Go.K
namespace Go.K
open Go Go.RowKit
variable {F:Fence} {P:Program} {N:Nat} {ds:List Deferred} {ops:Array Oper} {Q:Exit→Act→World→Prop} {l0 l:Env} {os kY:List Oper} {o:Oper}
variable {g0 g gd g':G} {φs:List Fact} {ks:List FK} {es:List Nat} {dZ:List (List Nat)} {J:(Nat→Option Value)→G→Prop} {ρ:Nat→Option Value}
def Fg(es:List Nat):Nat→Nat→Bool
 |_,0=>true
 |i,n+1=> !es.contains i&&Fg es (i+1) n
theorem bV{i:Nat}(h:zD F P N ds ops Q φs l0 gd es dZ J i o)(h2:kE F P N ds ops Q φs l0 gd es dZ J (i+1) os):kE F P N ds ops Q φs l0 gd es dZ J i (o::os):=⟨h,h2⟩
theorem zd{i:Nat}:kE F P N ds ops Q φs l0 gd es dZ J i []:=trivial
theorem bN{k:Env→Prop}(h:k l):QU φs es ρ g [] l k:=h
theorem cV{k:Env→Prop}{j d:Nat}{x:Value}{r:List (Nat×Nat)}(he:gT φs j=Fact.eq x)(h:QU φs es ρ g r ((d,x)::l) k):QU φs es ρ g ((j,d)::r) l k:=by intro v hv _;rw[he]at hv;obtain rfl:v=x:=hv;exact h
theorem cW{k:Env→Prop}{j d:Nat}{r:List (Nat×Nat)}(h: ∀v,(gT φs j).p v g→QU φs es ρ g r ((d,v)::l) k):QU φs es ρ g ((j,d)::r) l k:=fun v hv _=>h v hv
theorem gk{k:Env→Prop}{j d:Nat}{r:List (Nat×Nat)}(hj:es.contains j=true)(h: ∀v,(gT φs j).p v g→ρ j=some v→QU φs es ρ g r ((d,v)::l) k):QU φs es ρ g ((j,d)::r) l k:=fun v hv hr=>h v hv (hr hj)
theorem cT{i:Nat}{js:List (Nat×Nat)}(hj:eM ops o=js)(hp:es.contains i=false)
  (h: ∀ρ g',(∀(k:Nat) A e,es[k]? =some e→dZ[k]? =some A→i∈A→ρ e=none)→(∀e,es.contains e=true→e∈ll o→ρ e≠none)→gd.le g'→J ρ g'→QU φs es ρ g' js l0 (DK F P N ds ops Q (gT φs i) g' o)):zD F P N ds ops Q φs l0 gd es dZ J i o:=by
 subst hj;intro ρ g' hf hs _ h2 h3;refine A7 _ _ _ _ (fun env hd=>?_) (h ρ g' h2 h3 hf hs);unfold DK at hd;unfold D3;rw[if_neg (by rw[hp];simp)];cases hg:o9 ops env o.guard with
 |none=>rw[hg]at hd;exact hd
 |some b=>
  rw[hg]at hd;cases b with
  |true=>
   refine fun a ha=>Oper.wpIn_mono (fun a' w' ⟨v,he,dM,hw,eR,ke⟩=>⟨v,he,dM,hw,?_,ke⟩) (hd a ha);rw[if_neg (by rw[hp];simp)];exact eR
  |false=>exact⟨a_.refl _,hd⟩
theorem jc{i:Nat}{js:List (Nat×Nat)}(hj:eM ops o=js)(hp:es.contains i=true)
  (h: ∀ρ g',(∀(k:Nat) A e,es[k]? =some e→dZ[k]? =some A→i∈A→ρ e=none)→(∀e,es.contains e=true→e∈ll o→ρ e≠none)→ρ i=none→gd.le g'→J ρ g'→QU φs es ρ g' js l0 fun env=>
   o9 ops env o.guard=some true∧cS F P N ds o env g'.w Q fun v w'=> ∃dM,dM.w=w'∧(g'.le dM∧J (su ρ i v) dM)∧(gT φs i).p v dM):zD F P N ds ops Q φs l0 gd es dZ J i o:=by
 subst hj;intro ρ g' hf hs h1 h2 h3;refine A7 _ _ _ _ (fun env hd=>?_) (h ρ g' h2 h3 (h1 hp) hf hs);obtain⟨hg,hd⟩:=hd;rw[hg];refine fun a ha=>Oper.wpIn_mono (fun a' w' ⟨v,he,dM,hw,eR,ke⟩=>⟨v,he,dM,hw,?_,ke⟩) (hd a ha);unfold D3;rw[if_pos hp];exact eR
theorem tx{tb:Tb}(dE:tb.ok P)(hA:jY F): ∀(lW:List (List Nat)) (hs:List (uF P g)) (i:Nat) (os:List Oper) (kv:List (Nat×Value)) (us ts:List (Value×Value)) (kY:List Oper) (i':Nat),
  bj tb ops ks l0 [] lW hs i os kv us=some (ts,kY,i')→iP ops os lW=true→Fg es i lW.length=true→
  (∀p∈us,p∈ts)∧((∀p∈ts,p.1=p.2)→(∀j v,lk kv j=some v→gT (ks.map FK.fact) j=Fact.eq v)→kE F P N ds ops Q (ks.map FK.fact) l0 g.dr es dZ J i' kY→kE F P N ds ops Q (ks.map FK.fact) l0 g.dr es dZ J i os)
 |[],hs,i,os,kv,us,ts,kY,i',h,_,_=>by simp only[bj,Option.some.injEq,Prod.mk.injEq]at h;obtain⟨rfl,rfl,rfl⟩:=h;exact⟨fun _ h=>h,fun _ _ k=>k⟩
 |_::_,hs,i,[],kv,us,ts,kY,i',h,_,_=>by simp[bj]at h
 |js::lW,hs,i,o::os,kv,us,ts,kY,i',h,hn,q_=>by
  simp only[iP,Bool.and_eq_true,beq_iff_eq]at hn;obtain⟨Ew,Ha⟩:=hn;simp only[List.length_cons,Fg,Bool.and_eq_true]at q_;obtain⟨AY,D0⟩:=q_;simp only[bj]at h;split at h
  ·cases h
  rename_i env gR;split at h
  ·rename_i x hx;have we:=wi i hx;have xJ: ∀{v:Value},x=v→(∀j v,lk kv j=some v→gT (ks.map FK.fact) j=Fact.eq v)→ ∀j u,lk ((i,v)::kv) j=some u→gT (ks.map FK.fact) j=Fact.eq u:=by
    rintro v rfl hk j u hu;by_cases e:i=j
    ·subst e;rw[cZ]at hu;obtain rfl:=Option.some.inj hu;exact we
    rw[cq _ _ e]at hu;exact hk j u hu
   have one: ∀{v:Value},x=v→(∀j v,lk kv j=some v→gT (ks.map FK.fact) j=Fact.eq v)→(∀g',g.le g'→DK F P N ds ops Q (Fact.eq v) g' o env)→zD F P N ds ops Q (ks.map FK.fact) l0 g.dr es dZ J i o:=by rintro v rfl hk hd;refine cT rfl (by simpa using AY) fun ρ g' _ _ hf _=>NA _ _ _ ?_;rw[Ew];refine tq hk _ _ _ gR ?_;rw[we];exact hd g' ((G.bI _).trans hf)
   split at h
   ·cases h
   ·rename_i hg;obtain⟨m2,k⟩:=tx dE hA _ _ _ _ _ _ _ _ _ h Ha D0;refine⟨fun p hp=>m2 p (List.mem_cons_of_mem _ hp),fun e2 hk hr=>?_⟩;have he:x=undef:=e2 _ (m2 _ (List.mem_cons_self ..));exact⟨one he hk fun g' hf=>iB hg rfl,k e2 (xJ he hk) hr⟩
   rename_i hg;cases hh:Vf o.op with
   |true=>
    simp only[hh,cond_true]at h;split at h
    ·cases h
    rename_i s hr;split at h
    ·rename_i p q v hl;obtain⟨m2,k⟩:=tx dE hA _ _ _ _ _ _ _ _ _ h Ha D0;refine⟨fun p hp=>m2 p (List.mem_cons_of_mem _ (List.mem_cons_of_mem _ hp)),fun e2 hk hr=>?_⟩;have he:x=v:=e2 _ (m2 _ (List.mem_cons_of_mem _ (List.mem_cons_self ..)));obtain rfl:p=q:=e2 _ (m2 _ (List.mem_cons_self ..));refine⟨one he hk fun g' hf=>ay hg ?_,k e2 (xJ he hk) hr⟩;exact xI dE hA (St.start g') ((sd s hf).trans hl) fun g2 B2=>⟨g2,rfl,B2,rfl⟩
    cases h
   |false=>
    simp only[hh,cond_false]at h;split at h
    ·rename_i v hv;obtain⟨m2,k⟩:=tx dE hA _ _ _ _ _ _ _ _ _ h Ha D0;refine⟨fun p hp=>m2 p (List.mem_cons_of_mem _ hp),fun e2 hk hr=>?_⟩;have he:x=v:=e2 _ (m2 _ (List.mem_cons_self ..));exact⟨one he hk fun g' hf=>ay hg (qg dE hv ⟨g',rfl,a_.refl g',rfl⟩),k e2 (xJ he hk) hr⟩
    cases h
  cases h
theorem Um[eK P][hA:jY F]{i i':Nat}{A:List Value}(lW:List (List Nat))(ss:List (uF P g))(hn:(iP ops os lW&&Fg es i lW.length)=true)(h:ou (eK.tb P) ops ks l0 [] lW ss i os=some (A,A,kY,i'))
  (k:kE F P N ds ops Q (ks.map FK.fact) l0 g.dr es dZ J i' kY):kE F P N ds ops Q (ks.map FK.fact) l0 g.dr es dZ J i os:=by
 rw[Bool.and_eq_true]at hn;unfold ou at h;split at h
 ·rename_i ts Zy i2 h2;simp only[Option.some.injEq,Prod.mk.injEq]at h;obtain⟨rfl,e2,rfl,rfl⟩:=h;exact(tx eK.ok hA lW ss i os [] [] _ _ _ h2 hn.1 hn.2).2 (ot e2.symm) (fun j v hv=>by simp[lk]at hv) k
 cases h
theorem ny[eK P][jY F]{id:Nat}(ks:List FK)(m:Nat)(outs:List (Nat×Nat))(es:List Nat)(dZ:List (List Nat))(J:(Nat→Option Value)→G→Prop)(hJ: ∀ρ g g',a_ g g'→J ρ g→J ρ g')(Ds:J (fun _=>none) g.dr)
  (l_:(qO N ops l0 m&&(es.all fun e=>Nat.blt e m)&&((es.zip dZ).all fun p=>va ops p.2 p.1)&&outs.all (fun p=>Nat.blt p.1 m&&(dk ops p.1==some p.2)))=true) (hsoft:rr ks)
  (iC:kE F P N ds ops Q (ks.map FK.fact) l0 g.dr es dZ J 0 (ops.toList.take m))
  (kj: ∀ρ g',g.dr.le g'→J ρ g'→(∀e,es.contains e=true→ρ e≠none)→QU (ks.map FK.fact) es ρ g' outs l0 fun env=>WL F P N ds ops Q (ops.toList.drop m) env g'.w):W F P N ds (.region id ops true) Q l0 g.w:=by
 simp only[Bool.and_eq_true]at l_;obtain⟨⟨⟨h1,h2⟩,h3⟩,h4⟩:=l_;exact L5 jY.all eK.mixed (ks.map FK.fact) m outs es dZ J hJ Ds h1 h2 h3 (rr.soft hsoft) h4 iC kj
end Go.K
