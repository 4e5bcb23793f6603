/- Parts of the proof, from: The types that the walks ask about: their shapes, sizes and zero values. Printed by a program out of the translation. -/
import Derived.Test.YtkpojaffabjibaaGreatDoorProg
import Derived.KernelRfl
import Derived.Test.YtkpojaffabjibaaGreatDoorYc
import Derived.Lib.Bytealg
import Derived.Laws.StructEq
import Derived.Lib.UnsafeStr
namespace Go.Proofs.YtkpojaffabjibaaGreatDoor
open Go Go.K Tryz
set_option maxRecDepth 100000
def T:Tb:=[(3,⟨.int .i64,1,8,.int .i64 0⟩),(4,⟨.bool,1,1,.bool false⟩),(23,⟨.slice 3,1,24,.slice none 0 0⟩),(50,⟨.struct [(3,0),(3,1),(3,2),(3,3),(4,4),(3,5),(3,6),(3,7),(3,8),(3,9),(3,10),(3,11),(3,12),(3,13),(3,14),(3,15),(3,16),(3,17),(9,18)],19,160,.agg #[.int .i64 0,.int .i64 0,.int .i64 0,.int .i64 0,.bool false,.int .i64 0,.int .i64 0,.int .i64 0,.int .i64 0,.int .i64 0,.int .i64 0,.int .i64 0,.int .i64 0,.int .i64 0,.int .i64 0,.int .i64 0,.int .i64 0,.int .i64 0,.string ByteArray.empty]⟩),(24,⟨.slice 50,1,24,.slice none 0 0⟩),(9,⟨.string,1,16,.string ByteArray.empty⟩),(1,⟨.other,1,8,.nilFunc⟩),(30,⟨.struct [(3,0),(3,1),(27,2),(28,3)],4,64,.agg #[.int .i64 0,.int .i64 0,.slice none 0 0,.slice none 0 0]⟩),(35,⟨.struct [(24,0),(24,1),(24,2),(24,3),(24,4),(24,5),(24,6),(24,7),(24,8),(24,9),(24,10)],11,264,.agg #[.slice none 0 0,.slice none 0 0,.slice none 0 0,.slice none 0 0,.slice none 0 0,.slice none 0 0,.slice none 0 0,.slice none 0 0,.slice none 0 0,.slice none 0 0,.slice none 0 0]⟩),(2,⟨.int .i64,1,8,.int .i64 0⟩),(91,⟨.struct [(3,0),(23,1),(3,2),(3,3),(23,4),(3,5),(3,6)],7,88,.agg #[.int .i64 0,.slice none 0 0,.int .i64 0,.int .i64 0,.slice none 0 0,.int .i64 0,.int .i64 0]⟩),(41,⟨.struct [(3,0),(3,1),(3,2),(3,3),(3,4),(3,5),(3,6)],7,56,.agg #[.int .i64 0,.int .i64 0,.int .i64 0,.int .i64 0,.int .i64 0,.int .i64 0,.int .i64 0]⟩),(27,⟨.slice 91,1,24,.slice none 0 0⟩),(5,⟨.int .u8,1,1,.int .u8 0⟩),(94,⟨.struct [(3,0),(3,1),(3,2)],3,24,.agg #[.int .i64 0,.int .i64 0,.int .i64 0]⟩),(253,⟨.ptr 255,1,8,.pointer none⟩),(113,⟨.slice 157,1,24,.slice none 0 0⟩),(174,⟨.slice 176,1,24,.slice none 0 0⟩),(200,⟨.slice 9,1,24,.slice none 0 0⟩),(28,⟨.slice 94,1,24,.slice none 0 0⟩),(157,⟨.struct [(155,0),(3,1),(3,2)],3,24,.agg #[.nilFunc,.int .i64 0,.int .i64 0]⟩),(176,⟨.struct [(3,0),(3,1),(3,2),(3,3),(4,4),(3,5),(3,6),(3,7),(3,8),(3,9),(3,10),(3,11),(3,12),(3,13),(3,14),(3,15),(3,16),(3,17),(9,18)],19,160,.agg #[.int .i64 0,.int .i64 0,.int .i64 0,.int .i64 0,.bool false,.int .i64 0,.int .i64 0,.int .i64 0,.int .i64 0,.int .i64 0,.int .i64 0,.int .i64 0,.int .i64 0,.int .i64 0,.int .i64 0,.int .i64 0,.int .i64 0,.int .i64 0,.string ByteArray.empty]⟩),(207,⟨.slice 4,1,24,.slice none 0 0⟩),(32,⟨.other,1,8,.nilFunc⟩),(71,⟨.ptr 50,1,8,.pointer none⟩),(83,⟨.struct [(30,0),(4,4),(24,5)],6,96,.agg #[.int .i64 0,.int .i64 0,.slice none 0 0,.slice none 0 0,.bool false,.slice none 0 0]⟩),(6,⟨.int .u8,1,1,.int .u8 0⟩),(255,⟨.struct [(9,0),(3,1),(4,2)],3,32,.agg #[.string ByteArray.empty,.int .i64 0,.bool false]⟩),(101,⟨.ptr 107,1,8,.pointer none⟩),(134,⟨.int .u64,1,8,.int .u64 0⟩),(52,⟨.int .i64,1,8,.int .i64 0⟩),(116,⟨.map 3 115,1,8,.map none⟩),(115,⟨.struct [(113,0),(113,1),(75,2),(4,3)],4,64,.agg #[.slice none 0 0,.slice none 0 0,.nilFunc,.bool false]⟩),(111,⟨.other,1,8,.nilFunc⟩),(231,⟨.struct [(50,0),(69,19)],20,168,.agg #[.int .i64 0,.int .i64 0,.int .i64 0,.int .i64 0,.bool false,.int .i64 0,.int .i64 0,.int .i64 0,.int .i64 0,.int .i64 0,.int .i64 0,.int .i64 0,.int .i64 0,.int .i64 0,.int .i64 0,.int .i64 0,.int .i64 0,.int .i64 0,.string ByteArray.empty,.pointer none]⟩),(7,⟨.struct [(2,0),(3,1),(4,2),(6,3)],4,24,.agg #[.int .i64 0,.int .i64 0,.bool false,.int .u8 0]⟩),(69,⟨.ptr 35,1,8,.pointer none⟩),(158,⟨.ptr 3,1,8,.pointer none⟩),(124,⟨.other,1,8,.nilFunc⟩),(179,⟨.other,1,8,.nilFunc⟩),(105,⟨.struct [(102,0),(103,1)],2,32,.agg #[.pointer none,.slice none 0 0]⟩),(75,⟨.other,1,8,.nilFunc⟩),(121,⟨.arr 2 3,2,16,.agg #[.int .i64 0,.int .i64 0]⟩),(267,⟨.struct [(3,0),(3,1),(3,2)],3,24,.agg #[.int .i64 0,.int .i64 0,.int .i64 0]⟩),(68,⟨.struct [(65,0),(66,1)],2,16,.agg #[.nilFunc,.nilFunc]⟩),(64,⟨.ptr 24,1,8,.pointer none⟩),(197,⟨.int .u64,1,8,.int .u64 0⟩),(102,⟨.ptr 105,1,8,.pointer none⟩),(103,⟨.slice 5,1,24,.slice none 0 0⟩),(127,⟨.map 3 3,1,8,.map none⟩),(220,⟨.slice 113,1,24,.slice none 0 0⟩),(145,⟨.struct [(3,0),(23,1)],2,32,.agg #[.int .i64 0,.slice none 0 0]⟩),(204,⟨.ptr 30,1,8,.pointer none⟩),(125,⟨.other,1,8,.nilFunc⟩),(155,⟨.other,1,8,.nilFunc⟩),(10,⟨.string,1,16,.string ByteArray.empty⟩),(62,⟨.map 3 68,1,8,.map none⟩),(14,⟨.struct [(9,0),(12,1)],2,24,.agg #[.string ByteArray.empty,.int .u64 0]⟩),(13,⟨.struct [(9,0),(12,1)],2,24,.agg #[.string ByteArray.empty,.int .u64 0]⟩),(11,⟨.string,1,16,.string ByteArray.empty⟩),(185,⟨.struct [(3,0),(26,1)],2,16,.agg #[.int .i64 0,.nilFunc]⟩),(251,⟨.slice 23,1,24,.slice none 0 0⟩),(269,⟨.slice 267,1,24,.slice none 0 0⟩),(8,⟨.struct [(2,0),(3,1),(4,2),(6,3)],4,24,.agg #[.int .i64 0,.int .i64 0,.bool false,.int .u8 0]⟩),(15,⟨.ptr 325,1,8,.pointer none⟩),(46,⟨.other,1,8,.nilFunc⟩),(89,⟨.arr 6 3,6,48,.agg #[.int .i64 0,.int .i64 0,.int .i64 0,.int .i64 0,.int .i64 0,.int .i64 0]⟩),(226,⟨.map 3 233,1,8,.map none⟩),(107,⟨.struct [(105,0)],2,32,.agg #[.pointer none,.slice none 0 0]⟩),(22,⟨.slice 89,1,24,.slice none 0 0⟩),(109,⟨.other,1,8,.nilFunc⟩),(43,⟨.arr 7 3,7,56,.agg #[.int .i64 0,.int .i64 0,.int .i64 0,.int .i64 0,.int .i64 0,.int .i64 0,.int .i64 0]⟩),(110,⟨.other,1,8,.nilFunc⟩),(12,⟨.int .u64,1,8,.int .u64 0⟩),(112,⟨.other,1,8,.nilFunc⟩),(18,⟨.struct [(17,0)],1,8,.agg #[.pointer none]⟩),(88,⟨.slice 92,1,24,.slice none 0 0⟩),(225,⟨.arr 4 3,4,32,.agg #[.int .i64 0,.int .i64 0,.int .i64 0,.int .i64 0]⟩),(17,⟨.ptr 335,1,8,.pointer none⟩),(58,⟨.map 9 50,1,8,.map none⟩),(66,⟨.other,1,8,.nilFunc⟩),(99,⟨.other,1,8,.nilFunc⟩),(108,⟨.other,1,8,.nilFunc⟩),(26,⟨.other,1,8,.nilFunc⟩),(186,⟨.slice 185,1,24,.slice none 0 0⟩),(245,⟨.other,1,8,.nilFunc⟩),(161,⟨.other,1,16,.nilIface⟩),(249,⟨.other,1,8,.nilFunc⟩),(20,⟨.other,1,16,.nilIface⟩),(119,⟨.other,1,8,.nilFunc⟩),(283,⟨.other,1,8,.nilFunc⟩),(25,⟨.slice 43,1,24,.slice none 0 0⟩),(45,⟨.other,1,8,.nilFunc⟩),(49,⟨.struct [(3,0),(3,1),(3,2),(3,3),(4,4),(3,5),(3,6),(3,7),(3,8),(3,9),(3,10),(3,11),(3,12),(3,13),(3,14),(3,15),(3,16),(3,17),(9,18)],19,160,.agg #[.int .i64 0,.int .i64 0,.int .i64 0,.int .i64 0,.bool false,.int .i64 0,.int .i64 0,.int .i64 0,.int .i64 0,.int .i64 0,.int .i64 0,.int .i64 0,.int .i64 0,.int .i64 0,.int .i64 0,.int .i64 0,.int .i64 0,.int .i64 0,.string ByteArray.empty]⟩),(51,⟨.other,1,8,.nilFunc⟩),(97,⟨.other,1,8,.nilFunc⟩),(114,⟨.struct [(113,0),(113,1),(75,2),(4,3)],4,64,.agg #[.slice none 0 0,.slice none 0 0,.nilFunc,.bool false]⟩),(120,⟨.other,1,8,.nilFunc⟩),(98,⟨.other,1,8,.nilFunc⟩),(118,⟨.other,1,8,.nilFunc⟩),(177,⟨.other,1,8,.nilFunc⟩),(228,⟨.other,1,8,.nilFunc⟩),(65,⟨.other,1,8,.nilFunc⟩),(92,⟨.arr 3 3,3,24,.agg #[.int .i64 0,.int .i64 0,.int .i64 0]⟩),(100,⟨.other,1,8,.nilFunc⟩),(172,⟨.other,1,8,.nilFunc⟩),(182,⟨.other,1,8,.nilFunc⟩),(183,⟨.other,1,8,.nilFunc⟩),(218,⟨.other,1,8,.nilFunc⟩),(288,⟨.struct [],0,0,.agg #[]⟩),(16,⟨.ptr 328,1,8,.pointer none⟩),(48,⟨.other,1,8,.nilFunc⟩),(168,⟨.ptr 5,1,8,.pointer none⟩),(233,⟨.struct [],0,0,.agg #[]⟩),(260,⟨.other,1,8,.nilFunc⟩),(265,⟨.other,1,8,.nilFunc⟩),(33,⟨.other,1,8,.nilFunc⟩),(78,⟨.other,1,8,.nilFunc⟩),(85,⟨.other,1,8,.nilFunc⟩),(143,⟨.other,1,8,.nilFunc⟩),(151,⟨.other,1,8,.nilFunc⟩),(152,⟨.other,1,8,.nilFunc⟩),(156,⟨.struct [(155,0),(3,1),(3,2)],3,24,.agg #[.nilFunc,.int .i64 0,.int .i64 0]⟩),(160,⟨.other,1,16,.nilIface⟩),(205,⟨.other,1,8,.nilFunc⟩),(217,⟨.other,1,8,.nilFunc⟩),(221,⟨.other,1,8,.nilFunc⟩),(227,⟨.other,1,8,.nilFunc⟩),(234,⟨.other,1,8,.nilFunc⟩),(236,⟨.int .u64,1,8,.int .u64 0⟩),(250,⟨.other,1,8,.nilFunc⟩),(271,⟨.ptr 236,1,8,.pointer none⟩),(325,⟨.struct [(17,0),(17,1),(17,2),(9,3)],4,40,.agg #[.pointer none,.pointer none,.pointer none,.string ByteArray.empty]⟩),(328,⟨.struct [(326,0)],0,0,.agg #[]⟩),(335,⟨.struct [(12,0),(12,1),(195,2),(329,3),(5,4),(5,5),(330,6),(331,7),(168,8),(332,9),(333,10)],11,48,.agg #[.int .u64 0,.int .u64 0,.int .u32 0,.int .u8 0,.int .u8 0,.int .u8 0,.int .u8 0,.nilFunc,.pointer none,.int .i32 0,.int .i32 0]⟩)]
theorem T.ok:Tb.ok prog T:=by repeat (first|exact trivial|refine⟨TI.N6 (by kernel_rfl) (by kernel_rfl),?_⟩)
theorem bJ(f:FuncId):Wd.fn f:=trivial
instance:eE prog:=⟨T,T.ok,by kernel_rfl⟩
instance:VE prog:=⟨[4,5,6,7,8,9,10,11,12,13,14,15,16,17,18,19,20,21,22,23,24,25,26,27,28,29,30,31,32,33,34,35,36,37,38,39,40,41,42,43,44,45,46,47,48,49,50,51,52,53,54,55,56,57,58,59,60,61,62,63,64,65,66,67,68,69,70,71,72,73,74,75,76,77,78,79,80,81,82,83,84,85,86,89,90,91,92,93,94,95,96,97,98,99,100,101,102,103,104,105,106,107,108,109,110,111,112,113,114,115,116,117,118,119,120,121,122,123,124,125,126,127,128,129,130,131,132,133,134,135,136,137,138,140,141,142,143,144,145,146,147,148,149,150,151,152,153,154,155,156,157,158,159,160,172,173,174,175,176,177,178,179,180,181,182,183,184,185,186,187,188,189,190,191,192,193,194,195,196,197,198,199,201,202,203,204,205,206,207,208,209,210,216,217,218,221,222,223,224,225,226,227,228,229,230,231,232,233,234,235,236,237,238,239,240,241,242,243,244,245,247,248,249,250,251,252,253,254,255,260,261,262,263,264,265,266,267,268,269,270,271,272,273,274,275,276,277,278,279,284,286,287,288],by kernel_rfl⟩
theorem cB(f:Nat)(h:(VE.l prog).contains f=true:=by kernel_rfl):cS prog f:=ZT h
structure Step where
 du:Int
 cZ:List Int
 min:Int
 max:Int
 next:List Int
 back:Int
 dv:Int
structure cz where
 src:Int
 dst:Int
 dv:Int
structure aU where
 bS:Int
 cd:Int
 steps:List Step
 windows:List cz
def within(n lo hi:Int):Bool:=decide (lo≤n)&&decide (n≤hi)
def kZ(lo hi:Int):Int→List Int→Bool
 |_,[]=>true
 |p,n::r=>within n lo hi&&decide (p<n)&&kZ lo hi n r
def ascending(l:List Int)(lo hi:Int):Bool:=
 match l with
 |[]=>true
 |n::r=>within n lo hi&&kZ lo hi n r
def bO(s:Step)(n:Int):Bool:=
 ((s.back== -1&&s.dv==0)||(within s.back 0 (n-1)&&within s.dv 1 9))&&(within s.cZ.length 1 8&&decide ((s.next.length:Int)≤4))&&
 within s.du 1 1000000&&ascending s.cZ 0 59&&ascending s.next 0 (n-1)&&decide (1≤s.min)&&decide (s.min≤s.max)&&decide (s.max≤10000)
def de(w:cz)(n:Int):Bool:=
 within w.src 0 (n-1)&&within w.dst 0 (n-1)&&(w.src !=w.dst)&&within w.dv 0 1000000
def ng(v w:cz):Bool:=decide (v.src<w.src)||(v.src==w.src&&decide (v.dst<w.dst))
def follows(l:List cz)(w:cz):Bool:=
 match l.getLast? with
 |none=>true
 |some v=>ng v w
def dV(f:aU):Bool:=decide (0≤f.bS)&&decide (f.bS≤f.cd)&&decide (f.cd≤10000)
def fj(n:Int):List cz→List cz→Bool
 |_,[]=>true
 |pre,w::r=>de w n&&follows pre w&&fj n (pre++[w]) r
def valid(f:aU):Bool:=
 dV f&&within f.steps.length 1 40&&decide ((f.windows.length:Int)≤20)&&f.steps.all (fun s=>bO s f.steps.length)&&fj f.steps.length [] f.windows
def sR(g:G)(cs:List Value)(s:Step):Prop:=
 ∃a1 n1 c1 a2 n2 c2,cs=[vI s.du,.slice a1 n1 c1,vI s.min,vI s.max,.slice a2 n2 c2,vI s.back,vI s.dv]∧Rs g (.slice a1 n1 c1) s.cZ∧Rs g (.slice a2 n2 c2) s.next
instance:El Step where
 k:=7
 pos:=by omega
 rc:=sR
 len h:=by obtain⟨_,_,_,_,_,_,rfl,_⟩:=h;rfl
 mono hle h:=by obtain⟨a1,n1,c1,a2,n2,c2,e,h1,h2⟩:=h;exact⟨a1,n1,c1,a2,n2,c2,e,h1.mono hle,h2.mono hle⟩
 one h:=by obtain⟨_,_,_,_,_,_,rfl,_⟩:=h;simp[Value.oneCell']
instance:El cz where
 k:=3
 pos:=by omega
 rc _ cs w:=cs=[vI w.src,vI w.dst,vI w.dv]
 len h:=by rw[h];rfl
 mono _ h:=h
 one h:=by rw[h];simp[Value.oneCell']
def eQ(g:G)(v:Value)(f:aU):Prop:=
 ∃a1 n1 c1 a2 n2 c2,v= .agg #[vI f.bS,vI f.cd,.slice a1 n1 c1,.slice a2 n2 c2]∧Rs g (.slice a1 n1 c1) f.steps∧Rs g (.slice a2 n2 c2) f.windows
theorem eQ.mono{g g':G}{v:Value}{f:aU}(hle:g.le g')(h:eQ g v f):eQ g' v f:=by obtain⟨a1,n1,c1,a2,n2,c2,e,h1,h2⟩:=h;exact⟨a1,n1,c1,a2,n2,c2,e,h1.mono hle,h2.mono hle⟩
instance{g g':G}{v:Value}{f:aU}:Mn (eQ g v f) g g' (eQ g' v f):=⟨fun h a=>a.mono h⟩
def kz(g:G)(v:Value)(s:Step):Prop:=∃cs,v= .agg cs.toArray∧sR g cs s
theorem kz.mono{g g':G}{v:Value}{s:Step}(hle:g.le g')(h:kz g v s):kz g' v s:=by obtain⟨cs,e,h⟩:=h;exact⟨cs,e,El.mono (α:=Step) hle h⟩
def n5:Nat→Int→List (Int×Bool)
 |0,_=>[]
 |k+1,z=>(IntKind.u8.wrap (aP .u64 z 127),decide (z<128))::if z<128 then []else n5 k (ct .u64 z 7)
def zz(n:Int):Int:=aR .u64 (cK .u64 (IntKind.u64.wrap n) 1) (IntKind.u64.wrap (ct .i64 n 63))
def Ip(x:Int×Bool):Int:=if x.2=true then x.1 else bG .u8 x.1 128
def hQ(n:Int):List UInt8:=((n5 10 (zz n)).map Ip).map fun m=>UInt8.ofNat m.toNat
def ur(n:Int):Prop:=-4611686018427387903≤n∧n≤4611686018427387903
theorem Bc(k:Nat): ∀z,(n5 k z).length≤k:=by
 induction k with
 |zero=>intro z;simp[n5]
 |succ k ih=>
  intro z;unfold n5;rw[aaw];split
  ·simp
  have:=ih (ct .u64 z 7);omega
theorem n3(n:Int):(hQ n).length≤10:=by unfold hQ;rw[aaS,aaS];exact Bc 10 _
theorem Ap(n:Int):0≤IntKind.u64.wrap n∧IntKind.u64.wrap n<18446744073709551616:=by unfold IntKind.wrap;simp[IntKind.signed,IntKind.bits];omega
theorem K'(n:Int):0≤zz n∧zz n<128^10:=by have:zz n=IntKind.u64.wrap ((BitVec.ofInt IntKind.u64.bits (cK .u64 (IntKind.u64.wrap n) 1)^^^BitVec.ofInt IntKind.u64.bits (IntKind.u64.wrap (ct .i64 n 63))).toNat:Int):=rfl;rw[this];have h:=Ap ((BitVec.ofInt IntKind.u64.bits (cK .u64 (IntKind.u64.wrap n) 1)^^^BitVec.ofInt IntKind.u64.bits (IntKind.u64.wrap (ct .i64 n 63))).toNat:Int);generalize IntKind.u64.wrap _=m at*;omega
theorem Wz{z:Int}(_h0:0≤z):ct .u64 z 7=z/128:=by have:ct .u64 z 7=z.fdiv 128:=rfl;rw[this,Int.fdiv_eq_ediv_of_nonneg _ (by omega)]
def pn(s:List UInt8):List UInt8×Int:=if 65536<s.length then([],10)else(hQ s.length++s,0)
structure bc where
 kind:Int
 idn:Int
 ver:Int
 day:Int
 gone:Bool
 time:Int
 til:Int
 waf:Int
 oth:Int
 lot:Int
 prod:Int
 tool:Int
 cham:Int
 step:Int
 rcp:Int
 rvn:Int
 val:Int
 par:Int
 text:List UInt8
 deriving DecidableEq
def fS:bc:=⟨0,0,0,0,false,0,0,0,0,0,0,0,0,0,0,0,0,0,[]⟩
def bc.num(f:bc):Nat→Int
 |0=>f.kind
 |1=>f.idn
 |2=>f.ver
 |3=>f.day
 |5=>f.time
 |6=>f.til
 |7=>f.waf
 |8=>f.oth
 |9=>f.lot
 |10=>f.prod
 |11=>f.tool
 |12=>f.cham
 |13=>f.step
 |14=>f.rcp
 |15=>f.rvn
 |16=>f.val
 |17=>f.par
 |_=>0
def bc.put(f:bc)(i:Nat)(n:Int):bc:=
 match i with
 |0=>{f with kind:=n}
 |1=>{f with idn:=n}
 |2=>{f with ver:=n}
 |3=>{f with day:=n}
 |5=>{f with time:=n}
 |6=>{f with til:=n}
 |7=>{f with waf:=n}
 |8=>{f with oth:=n}
 |9=>{f with lot:=n}
 |10=>{f with prod:=n}
 |11=>{f with tool:=n}
 |12=>{f with cham:=n}
 |13=>{f with step:=n}
 |14=>{f with rcp:=n}
 |15=>{f with rvn:=n}
 |16=>{f with val:=n}
 |17=>{f with par:=n}
 |_=>f
structure mi where
 at_:Nat
 lo:Int
 hi:Int
structure EJ where
 fields:List mi
 key:List mi
 rest:Nat
 kT:Bool
def fK(i:Nat):mi:=⟨i,1,1000000⟩
def fB:mi:=⟨5,0,1000000⟩
def jf:List mi:=[fB,⟨6,0,1000000⟩]
def gg:List mi:=[⟨11,0,59⟩,⟨12,0,3⟩]
def pf:List mi:=[fK 1]
def xg:List mi:=[fK 14,fK 15]
def qq:List mi:=[⟨7,0,1000000⟩,⟨9,0,1000000⟩,⟨11,0,60⟩,⟨12,0,4⟩,⟨13,0,40⟩,⟨14,0,1000000⟩,⟨15,0,1000000⟩]
def vn:mi:=⟨17,1,255⟩
def BL:mi:=⟨16,-1000000,1000000⟩
def pj:List EJ:=[
 ⟨pf++[fK 7]++gg++[⟨13,0,39⟩]++xg++jf++[⟨16,-10000000,10000000⟩],pf,1,false⟩,
 ⟨pf++[fB,BL],pf,0,false⟩,
 ⟨pf++[fK 7,fK 8,fB],pf,2,false⟩,
 ⟨[fK 7,fK 9,fK 10,fB],[fK 7,fB],0,false⟩,
 ⟨[fK 10],[fK 10],0,true⟩,
 ⟨pf++gg++xg++jf,pf,1,false⟩,
 ⟨pf++qq++jf++[vn],pf,1,false⟩,
 ⟨[fK 8,vn,fB],[fK 8,vn],0,false⟩,
 ⟨pf++gg++[fB],pf,0,false⟩,
 ⟨[fK 14,fB,BL],[fK 14,fB],0,false⟩,
 ⟨pf++gg++jf,pf,1,false⟩]
def eD(k:Int):Option EJ:=if k<1 then none else pj[(k-1).toNat]?
def um:Nat→bc→Bool
 |1,f=>decide (f.time≤f.til)
 |2,f=>f.waf !=f.oth
 |_,_=>true
def pk:List mi→bc→Option bc
 |[],f=>some f
 |x::l,f=>if f.num x.at_<x.lo||x.hi<f.num x.at_ then none else pk l (f.put x.at_ 0)
def td(f:bc):bc:={fS with kind:=f.kind,ver:=f.ver,day:=f.day,gone:=f.gone}
def gD(f:bc):Bool:=
 match eD f.kind with
 |none=>false
 |some s=>
  if f.ver<1||1000000<f.ver||f.day<0||100000<f.day||8192<(f.text.length:Int)|| !um s.rest f then false
  else match pk s.fields f with
   |none=>false
   |some g=>decide ((if s.kT then {g with text:=[]}else g)=td f)
def x5(f:bc)(l:List mi):List UInt8:=l.flatMap fun x=>hQ (f.num x.at_)
def gE(f:bc):List UInt8:=if gD f then hQ f.kind++x5 f ((eD f.kind).elim [] (·.key))else []
def qs(b:Bool):Int:=if b then 1 else 0
def og(f:bc):List UInt8×Int:=
 if gD f then(hQ f.kind++hQ f.ver++hQ f.day++hQ (qs f.gone)++x5 f ((eD f.kind).elim [] (·.fields))++(if(eD f.kind).elim false (·.kT)then(pn f.text).1 else []),0)else([],150)
def sL(a b:bc):Bool:=
 if(og a).2≠0∨(og b).2≠0∨gE a≠gE b then false
 else if a.ver≠b.ver then decide (b.ver<a.ver)else decide (0<Lib.compareBytes (og a).1 (og b).1)
structure ft where
 ls:Nat→List bc
def ft.procs(b:ft):=b.ls 0
def ft.x7(b:ft):=b.ls 2
def ft.lU(b:ft):=b.ls 3
def ft.qt(b:ft):=b.ls 4
def ft.qu(b:ft):=b.ls 5
def ft.holds(b:ft):=b.ls 6
def ft.mK(b:ft):=b.ls 7
structure gW where
 waf:Int
 step:Int
 tool:Int
 cham:Int
 rcp:Int
 rvn:Int
 time:Int
end Go.Proofs.YtkpojaffabjibaaGreatDoor
namespace Go.K
open Go Go.RowKit
variable {F:Fence} {P:Program} {N:Nat} {ds:List Deferred} {ops:Array Oper} {Q:Exit→Act→World→Prop} {φs:List Fact} {l0:Env} {gd:G}
def Ea(F:Fence)(P:Program)(N:Nat)(ds:List Deferred)(ops:Array Oper)(Q:Exit→Act→World→Prop)(φs:List Fact)(l0:Env)(gd:G)(es:List Nat)(fQ:List (List Nat))(J:Nat→G→Prop)(i:Nat)(o:Oper):Prop:=
 ∀s g',gd.le g'→J s g'→s≤es.length→(∀k,posOf es i=some k→s=k)→(∀k A,fQ[k]? =some A→i∈A→s≤k)→(∀k e,es[k]? =some e→e∈uU o→k<s)→QA φs g' (jn ops o) l0 fun env=>
  match rP ops env o.guard with
  |some true=>cQ F P N ds o env g'.w Q fun v w'=> ∃ez,ez.w=w'∧D9 es J s i g' ez∧(iT φs i).p v ez
  |some false=>posOf es i=none∧(iT φs i).p undef g'
  |none=>False
def tO(F:Fence)(P:Program)(N:Nat)(ds:List Deferred)(ops:Array Oper)(Q:Exit→Act→World→Prop)(φs:List Fact)(l0:Env)(gd:G)(es:List Nat)(fQ:List (List Nat))(J:Nat→G→Prop)(i:Nat)(os:List Oper):Prop:=iZ (Ea F P N ds ops Q φs l0 gd es fQ J) i os
theorem He{m:Nat}{es:List Nat}{fQ:List (List Nat)}(kQ:jb N ops l0 m=true)(Eb:((es.zip fQ).all fun p=>sW ops p.2 p.1)=true){L:Nat→Bool}(je: ∀k o,L k=true→ops[k]? =some o→ ∀e∈uU o,L e=true){k e i:Nat}{A:List Nat}(he:es[k]? =some e)(hA:fQ[k]? =some A)(VA:L e=true)(hi:i∈A):L i=true:=
 G7 kQ (aa2.1 Eb (e,A) (acZ.2 ⟨k,List.getElem?_zip_eq_some.2 ⟨he,hA⟩⟩)) je VA i hi
theorem Lx(h:kM [] 0 φs)(k:Nat):xq (iT φs k):=(kM.at h k).elim (fun h=>by simp at h) id
theorem Od{id:Nat}{g:G}(hF: ∀f,F.fn f)(hm:P.follows .mixedOrders=true)(φs:List Fact)(m:Nat)(outs:List (Nat×Nat))(es:List Nat)(fQ:List (List Nat))(J:Nat→G→Prop)(hJ: ∀s g g',bW g g'→J s g→J s g')(Fx:J 0 g.dr)(kQ:jb N ops l0 m=true)(WW:Cx ops es m=true)(Eb:((es.zip fQ).all fun p=>sW ops p.2 p.1)=true)(hsoft:kM [] 0 φs)
  (houts:outs.all (fun p=>Nat.blt p.1 m&&(gC ops p.1==some p.2))=true)
  (iF:tO F P N ds ops Q φs l0 g.dr es fQ J 0 (ops.toList.take m))
  (lL: ∀g',g.dr.le g'→J es.length g'→QA φs g' outs l0 fun env=>WL F P N ds ops Q (ops.toList.drop m) env g'.w):W F P N ds (.region id ops true) Q l0 g.w:=by
 have ch:=F2 WW;refine xT hF hm m kQ (fun L ρ g'=>g.dr.le g'∧(∀j,L j=true→(iT φs j).p (ρ j) g')∧ ∃s,s≤es.length∧(∀k e,es[k]? =some e→(L e=true↔k<s))∧J s g') ⟨G.le.refl _,fun _ h=>((by cases h)),0,aar _,fun k e _=>⟨fun h=>((by cases h)),fun h=>by omega⟩,Fx⟩ (fun L ρ g' i o a ⟨HR,hφ,s,pH,dm,EW⟩ uk ho h0 dW je ha mN=>?_) fun L ρ g' a ⟨h1,hφ,s,h2,h3,h4⟩ dW ha mN=>?_
 ·have nv: ∀k,posOf es i=some k→s=k:=by
   intro k hk;have Tx:=tN hk;have h1: ¬k<s:=fun h=>by rw[(dm k i Tx).2 h]at h0;cases h0
   rcases Nat.eq_zero_or_pos k with h|h
   ·omega
   obtain⟨p,o',z',ML,hp3⟩:=(ch k i Tx).2.2 (by omega);rw[ho]at ML;cases ML;have:=(dm (k-1) p z').1 (dW p hp3);omega
  obtain⟨env,hk,sB⟩:=Bg (iZ.at iF uk ho s g' HR EW pH nv (fun k A hA WX=>by
   rcases abc k s with h|h
   ·have he:=aas (show k<es.length by omega);rw[He kQ Eb je he hA ((dm k _ he).2 h) WX]at h0;cases h0
   exact h) (fun k e he WY=>(dm k e he).1 (dW e WY))) ha mN fun p hp=>⟨dW _ (gH hp).1,(gH hp).2,hφ _ (dW _ (gH hp).1)⟩
  have key: ∀v ez,D9 es J s i g' ez∧(iT φs i).p v ez→g.dr.le ez∧(∀j,sC L i j=true→(iT φs j).p (Cq ρ i v j) ez)∧ ∃s,s≤es.length∧(∀k e,es[k]? =some e→(sC L i e=true↔k<s))∧J s ez:=by
   rintro v ez ⟨gN,hv⟩;have Ty:g'.le ez:=by
    unfold D9 at gN;split at gN
    ·exact gN.1
    exact gN.le
   refine⟨HR.trans Ty,zl hv fun j _ hj=>Lx hsoft j _ _ _ Ty (hφ j hj),?_⟩;unfold D9 at gN;cases OY:posOf es i with
   |none=>
    rw[OY]at gN;refine⟨s,pH,fun k e Q1=>?_,hJ s _ _ gN EW⟩;rw[FU fun h=>zg OY k (by rw[←h];exact Q1)];exact dm k e Q1
   |some k0=>
    rw[OY]at gN;have PK:=nv k0 OY;have Tx:=tN OY;have aV:=(aaN.1 Tx).1;refine⟨s+1,by omega,fun k e Q1=>?_,gN.2⟩;by_cases WZ:e=i
    ·subst WZ;have h1:=(ch k e Q1).1;rw[OY]at h1;cases h1;exact⟨fun _=>by omega,fun _=>uW⟩
    rw[FU WZ,dm k e Q1];have Yf:k≠k0:=fun h=>by subst h;rw[Tx]at Q1;exact WZ (aax Q1).symm
    omega
  exact⟨env,_,_,sB,hk,key,fun h=>key undef g' ⟨by unfold D9;rw[h.1];exact bW.refl _,h.2⟩⟩
 have:s=es.length:=acJ fun fL=>by have he:=aas (show s<es.length by omega);have:=(h3 s _ he).1 (dW _ (ch s _ he).2.1);omega
 exact Bg (lL g' h1 (this▸h4)) ha mN fun p hp=>have h:=uV houts hp;⟨dW _ h.1,h.2,hφ _ (dW _ h.1)⟩
variable {l:Env} {os nP:List Oper} {o:Oper}
variable {g0 g g':G} {L:List dc} {ks:List FK} {es:List Nat} {fQ:List (List Nat)} {J:Nat→G→Prop}
def sZ:List FK→Prop
 |[]=>True
 | .e _::r=>sZ r
 | .f φ::r=>xq φ∧sZ r
theorem sZ.soft: ∀{ks:List FK} {i:Nat},sZ ks→kM [] i (ks.map FK.fact)
 |[],_,_=>trivial
 | .e _::_,_,h=>⟨.inr (ml _),sZ.soft h⟩
 | .f _::_,_,h=>⟨.inr h.1,sZ.soft h.2⟩
def CA(es:List Nat):Nat→Nat→Bool
 |_,0=>true
 |i,n+1=>(posOf es i).isNone&&CA es (i+1) n
def Tz(es:List Nat)(fQ:List (List Nat))(o:Oper)(i lo hi:Nat):Bool:=
 (posOf es i).isNone&&(Nat.beq lo 0||(match es[lo-1]? with|some e=>(uU o).contains e|none=>false))&&(Nat.ble es.length hi||(match fQ[hi]? with|some A=>A.contains i|none=>false))
theorem dA{i:Nat}(h:Ea F P N ds ops Q φs l0 gd es fQ J i o)(h2:tO F P N ds ops Q φs l0 gd es fQ J (i+1) os):tO F P N ds ops Q φs l0 gd es fQ J i (o::os):=⟨h,h2⟩
theorem AM{i:Nat}:tO F P N ds ops Q φs l0 gd es fQ J i []:=trivial
theorem qe{i:Nat}{js:List (Nat×Nat)}(hj:jn ops o=js)(hp:posOf es i=none)
  (h: ∀s g',s≤es.length→(∀k A,fQ[k]? =some A→i∈A→s≤k)→(∀k e,es[k]? =some e→e∈uU o→k<s)→gd.le g'→J s g'→QA φs g' js l0 (DK F P N ds ops Q (iT φs i) g' o)):Ea F P N ds ops Q φs l0 gd es fQ J i o:=by
 subst hj;intro s g' hf hs h1 _ h2 h3;refine rX _ _ _ _ (fun env hd=>?_) (h s g' h1 h2 h3 hf hs);unfold DK at hd;unfold D9;rw[hp];cases hg:rP ops env o.guard with
 |none=>rw[hg]at hd;exact hd
 |some b=>
  rw[hg]at hd;cases b with
  |true=>exact hd
  |false=>exact⟨rfl,hd⟩
theorem mZ(lo hi:Nat){i:Nat}{js:List (Nat×Nat)}(hj:jn ops o=js)(hb:Tz es fQ o i lo hi=true)
  (h: ∀s g',lo≤s→s≤hi→gd.le g'→J s g'→QA φs g' js l0 (DK F P N ds ops Q (iT φs i) g' o)):Ea F P N ds ops Q φs l0 gd es fQ J i o:=by
 simp only[Tz,aaA,abz]at hb;obtain⟨⟨hp,hl⟩,hh⟩:=hb;refine qe hj (by simpa using hp) fun s g' h1 h2 h3 hf hs=>h s g' ?_ ?_ hf hs
 ·rcases hl with hl|hl
  ·have:=abZ hl;omega
  cases he:es[lo-1]? with
  |none=>rw[he]at hl;simp at hl
  |some e=>
   rw[he]at hl;have:=h3 _ e he (by simpa using hl);omega
 rcases hh with hh|hh
 ·have:=ab7 hh;omega
 cases hA:fQ[hi]? with
 |none=>rw[hA]at hh;simp at hh
 |some A=>
  rw[hA]at hh;exact h2 _ A hA (by simpa using hh)
theorem yn{i:Nat}(k:Nat){js:List (Nat×Nat)}(hj:jn ops o=js)(hp:posOf es i=some k)(h: ∀g',gd.le g'→J k g'→QA φs g' js l0 (DJ F P N ds ops Q (iT φs i) g' (J (k+1)) o)):Ea F P N ds ops Q φs l0 gd es fQ J i o:=by subst hj;intro s g' hf hs _ hk _ _;obtain rfl:=hk k hp;refine rX _ _ _ _ (fun env hd=>?_) (h g' hf hs);obtain⟨hg,hd⟩:=hd;rw[hg];unfold D9;rw[hp];exact hd
theorem tg{φ:Fact}{J':G→Prop}(hg:rP ops l o.guard=some true)(h:cQ F P N ds o l g.w Q fun v w'=> ∃ez,ez.w=w'∧(g.le ez∧J' ez)∧φ.p v ez):DJ F P N ds ops Q φ g J' o l:=⟨hg,h⟩
theorem Bk: ∀(n i:Nat),CA es i n=true→ ∀j,i≤j→j<i+n→posOf es j=none
 |0,_,_,j,h1,h2=>by omega
 |n+1,i,h,j,h1,h2=>by
  simp only[CA,aaA]at h;by_cases e:j=i
  ·subst e;simpa using h.1
  exact Bk n (i+1) h.2 j (by omega) (by omega)
theorem Lm[eE P][hA:lO F]{i i':Nat}{A:List Value}(oc:List (List Nat))(ss:List (wV P g))(hn:(mq ops os oc&&CA es i oc.length)=true)(h:q_ (eE.tb P) ops ks l0 [] oc ss i os=some (A,A,nP,i'))
  (k:tO F P N ds ops Q (ks.map FK.fact) l0 g.dr es fQ J i' nP):tO F P N ds ops Q (ks.map FK.fact) l0 g.dr es fQ J i os:=by
 rw[aaA]at hn;exact Gm (R:=g.dr.le) (fun _ hf=>⟨(G.a_ _).trans hf,_,St.start _⟩) oc ss hn.1 h (fun j o h1 h2 hd=>qe rfl (Bk _ _ hn.2 j h1 h2) fun s g' _ _ _ hf _=>hd g' hf) k
theorem rH[eE P][lO F]{id:Nat}(ks:List FK)(m:Nat)(outs:List (Nat×Nat))(es:List Nat)(fQ:List (List Nat))(Ls:Nat→List dc)(hs:St g0 g (Ls 0))
  (kQ:(jb N ops l0 m&&Cx ops es m&&((es.zip fQ).all fun p=>sW ops p.2 p.1)&&outs.all (fun p=>Nat.blt p.1 m&&(gC ops p.1==some p.2)))=true) (hsoft:sZ ks)
  (iF:tO F P N ds ops Q (ks.map FK.fact) l0 g.dr es fQ (fun s g'=>St g0 g' (Ls s)) 0 (ops.toList.take m))
  (lL: ∀g',St g0 g' (Ls es.length)→g.le g'→QA (ks.map FK.fact) g' outs l0 fun env=>WL F P N ds ops Q (ops.toList.drop m) env g'.w):W F P N ds (.region id ops true) Q l0 g.w:=by
 simp only[aaA]at kQ;obtain⟨⟨⟨h1,h2⟩,h3⟩,h4⟩:=kQ;exact Od lO.all eE.mixed (ks.map FK.fact) m outs es fQ _ (fun s g1 g2 hf hs=>hs.call hf) hs.dr h1 h2 h3 (sZ.soft hsoft) h4 iF fun g' hf kP=>lL g' kP ((G.a_ _).trans hf)
end Go.K
namespace Go.Proofs.YtkpojaffabjibaaGreatDoor
open Go Go.K Tryz
attribute [local irreducible] W WL cQ aP bG aR aQ aS cK ct
set_option maxRecDepth 10000
set_option maxHeartbeats 4000000
def bK(f:bc):List Value:=[vI f.kind,vI f.idn,vI f.ver,vI f.day,.bool f.gone,vI f.time,vI f.til,vI f.waf,vI f.oth,vI f.lot,vI f.prod,vI f.tool,vI f.cham,vI f.step,vI f.rcp,vI f.rvn,vI f.val,vI f.par,.string (bs f.text)]
instance:El bc where
 k:=19
 pos:=by omega
 rc _ cs f:=cs=bK f
 len h:=by rw[h];rfl
 mono _ h:=h
 one h:=by rw[h];simp[bK,Value.oneCell']
abbrev fv(f:bc):Value:=.agg (bK f).toArray
def VF:Nat→Nat
 |1=>118
 |5=>199
 |6=>198
 |7=>122
 |8=>135
 |9=>123
 |10=>136
 |11=>124
 |12=>125
 |13=>126
 |14=>119
 |15=>120
 |16=>128
 |17=>127
 |_=>0
def gY(i:Nat):Value:=.func (.func (VF i)) #[] #[]
instance:El mi where
 k:=3
 pos:=by omega
 rc _ cs x:=cs=[gY x.at_,vI x.lo,vI x.hi]
 len h:=by rw[h];rfl
 mono _ h:=h
 one h:=by rw[h];simp[gY,Value.oneCell']
def nR(k:Nat):Prop:=k=1∨k=5∨k=6∨k=7∨k=8∨k=9∨k=10∨k=11∨k=12∨k=13∨k=14∨k=15∨k=16∨k=17
theorem OW{k:Nat}(hk:nR k)(b:Nat)(g:G):cN prog (VF k) #[vP b] g fun _ r=>r= .pointer (some ⟨b,k,none⟩):=by
 rcases hk with rfl|rfl|rfl|rfl|rfl|rfl|rfl|rfl|rfl|rfl|rfl|rfl|rfl|rfl
 ·have hs:=St.start g;exact enter func118 rfl ntmps118 rfl<|aD rfl<|aD rfl<|au (cg rfl hs rfl)
 ·have hs:=St.start g;exact enter func199 rfl ntmps199 rfl<|aD rfl<|aD rfl<|au (cg rfl hs rfl)
 ·have hs:=St.start g;exact enter func198 rfl ntmps198 rfl<|aD rfl<|aD rfl<|au (cg rfl hs rfl)
 ·have hs:=St.start g;exact enter func122 rfl ntmps122 rfl<|aD rfl<|aD rfl<|au (cg rfl hs rfl)
 ·have hs:=St.start g;exact enter func135 rfl ntmps135 rfl<|aD rfl<|aD rfl<|au (cg rfl hs rfl)
 ·have hs:=St.start g;exact enter func123 rfl ntmps123 rfl<|aD rfl<|aD rfl<|au (cg rfl hs rfl)
 ·have hs:=St.start g;exact enter func136 rfl ntmps136 rfl<|aD rfl<|aD rfl<|au (cg rfl hs rfl)
 ·have hs:=St.start g;exact enter func124 rfl ntmps124 rfl<|aD rfl<|aD rfl<|au (cg rfl hs rfl)
 ·have hs:=St.start g;exact enter func125 rfl ntmps125 rfl<|aD rfl<|aD rfl<|au (cg rfl hs rfl)
 ·have hs:=St.start g;exact enter func126 rfl ntmps126 rfl<|aD rfl<|aD rfl<|au (cg rfl hs rfl)
 ·have hs:=St.start g;exact enter func119 rfl ntmps119 rfl<|aD rfl<|aD rfl<|au (cg rfl hs rfl)
 ·have hs:=St.start g;exact enter func120 rfl ntmps120 rfl<|aD rfl<|aD rfl<|au (cg rfl hs rfl)
 ·have hs:=St.start g;exact enter func128 rfl ntmps128 rfl<|aD rfl<|aD rfl<|au (cg rfl hs rfl)
 have hs:=St.start g;exact enter func127 rfl ntmps127 rfl<|aD rfl<|aD rfl<|au (cg rfl hs rfl)
theorem JZ{k:Nat}(hk:nR k):cS prog (VF k):=by
 rcases hk with rfl|rfl|rfl|rfl|rfl|rfl|rfl|rfl|rfl|rfl|rfl|rfl|rfl|rfl
 ·exact(cB 118)
 ·exact(cB 199)
 ·exact(cB 198)
 ·exact(cB 122)
 ·exact(cB 135)
 ·exact(cB 123)
 ·exact(cB 136)
 ·exact(cB 124)
 ·exact(cB 125)
 ·exact(cB 126)
 ·exact(cB 119)
 ·exact(cB 120)
 ·exact(cB 128)
 exact(cB 127)
theorem J0(f:bc)(g:G):cN prog 132 #[fv f] g fun _ r=>r= .bool (um 1 f):=by have hs:=St.start g;exact enter func132 rfl ntmps132 rfl<|cO<|nX hs rfl fun b1 g1 hs ag=>aF rfl<|Ja [.o 0,.o 0] hs rfl<|au (cg rfl hs rfl)
theorem GL(f:bc)(g:G):cN prog 134 #[fv f] g fun _ r=>r= .bool (um 0 f):=by have hs:=St.start g;exact enter func134 rfl ntmps134 rfl<|cO<|nX hs rfl fun b1 g1 hs ag=>aF rfl<|aD rfl<|au (cg rfl hs rfl)
theorem Nf(f:bc)(g:G):cN prog 121 #[fv f] g fun _ r=>r= .bool (um 2 f):=by have hs:=St.start g;exact enter func121 rfl ntmps121 rfl<|cO<|nX hs rfl fun b1 g1 hs ag=>aF rfl<|Ja [.o 0,.o 0] hs rfl<|au (cg rfl hs rfl)
theorem P_(b:Bool)(g:G):cN prog 137 #[.bool b] g fun _ r=>r=vI (qs b):=by
 have hs:=St.start g;refine enter func137 rfl ntmps137 rfl<|aD rfl<|ak<|aD rfl ?_;cases b with
 |true=>
  exact bZ rfl<|aD rfl<|au<|ec<|cg rfl hs rfl
 |false=>
  exact bI rfl<|ar<|ai<|aD rfl<|au<|cg rfl hs rfl
theorem eZ(i:Nat)(g:G):cN prog 117 #[gY i] g fun _ r=>r= .agg #[gY i,vI 1,vI 1000000]:=by have hs:=St.start g;exact enter func117 rfl ntmps117 rfl<|cO<|fA hs rfl fun b1 g1 hs ag=>bE<|ck 1 rfl<|hZ [(0,gY i),(1,vI (1)),(2,vI (1000000))] [gY i,vI (1),vI (1000000)] [(0,1),(1,1),(2,1)] rfl<|dC 0 hs rfl fun g1 hs ag=>bE<|au (my T.ok 0 rfl hs rfl rfl rfl (hs.ret rfl))
theorem pA(g:G):cN prog 133 #[] g fun _ r=>r= .agg #[gY 5,vI 0,vI 1000000]:=by have hs:=St.start g;exact enter func133 rfl ntmps133 rfl<|cO<|fA hs rfl fun b1 g1 hs ag=>bE<|cO<|hZ [(0,gY 5),(1,vI (0)),(2,vI (1000000))] [gY 5,vI (0),vI (1000000)] [(0,1),(1,1),(2,1)] rfl<|dC 0 hs rfl fun g1 hs ag=>bE<|au (my T.ok 0 rfl hs rfl rfl rfl (hs.ret rfl))
def ll(l:List mi):List Value:=l.flatMap fun x=>[gY x.at_,vI x.lo,vI x.hi]
theorem gS(g:G): ∀l:List mi,cR g (ll l) l
 |[]=>rfl
 |_::l=>⟨_,_,rfl,rfl,gS g l⟩
theorem cR.Yj: ∀{l:List mi} {g:G} {cs ds:List Value},cR g cs l→cR g ds l→cs=ds
 |[],_,_,_,h1,h2=>h1.trans h2.symm
 |_::l,g,_,_,⟨_,_,e1,r1,h1⟩,⟨_,_,e2,r2,h2⟩=>by rw[e1,e2,show _=_ from r1,show _=_ from r2,cR.Yj h1 h2]
theorem xL(g:G):cN prog 130 #[] g (lj 157 g gg):=by have hs:=St.start g;exact enter func130 rfl ntmps130 rfl<|aD rfl<|cO<|hZ [(0,gY 11),(1,vI (0)),(2,vI (59))] [gY 11,vI (0),vI (59)] [(0,1),(1,1),(2,1)] rfl<|hZ [(0,gY 12),(1,vI (0)),(2,vI (3))] [gY 12,vI (0),vI (3)] [(0,1),(1,1),(2,1)] rfl<|iX [(0,.agg #[gY 11,vI 0,vI 59]),(1,.agg #[gY 12,vI 0,vI 3])] (ll gg) hs rfl rfl fun b g1 hs hle=>aF rfl<|au (cg rfl hs (hs.nu (i:=0) rfl (gS _ gg)))
theorem xM(g:G):cN prog 131 #[] g (lj 157 g jf):=by have hs:=St.start g;exact enter func131 rfl ntmps131 rfl<|aD rfl<|cO<|jN rfl (pA _) hs fun g1 hs ag=>hZ [(0,gY 6),(1,vI (0)),(2,vI (1000000))] [gY 6,vI (0),vI (1000000)] [(0,1),(1,1),(2,1)] rfl<|iX [(0,.agg #[gY 5,vI 0,vI 1000000]),(1,.agg #[gY 6,vI 0,vI 1000000])] (ll jf) hs rfl rfl fun b g1 hs hle=>aF rfl<|au (cg rfl hs (hs.nu (i:=0) rfl (gS _ jf)))
theorem tv(v:Value)(ls:List (List mi))(g:G)(aA:Rs g v ls)(hb:(ls.map List.length).sum≤100):cN prog 129 #[v] g (lj 157 g ls.flatten):=by
 obtain⟨a,c,rfl⟩:=aA.isSlice;have hlen:=aA.ef;unfold maxLen at hlen;have hs:=St.start g;refine enter func129 rfl ntmps129 rfl<|aD rfl<|ak<|aD rfl<|aw ?_;replace hs:=hs.eM 157 3 none;have aj:=G.le.refl g;have ot:=aA;refine aZ (fun m a' w=> ∃(k:Nat) (u:Value) (g2:G),w=g2.w∧St g g2 [.row 157 3 u (ls.take k).flatten.length (ll (ls.take k).flatten)]∧G.le g g2∧k≤ls.length∧m=ls.length-k∧
   Fr 16 [] [(2,u),(5,.slice a ls.length c),(6,vI ls.length),(7,vI k)] a') ls.length
  (fun a' ha=>⟨0,_,g,rfl,hs,aj,aar _,rfl,ha.kp rfl⟩) ?_
 clear hs aj aA;rintro m a' _ ⟨k,u,g2,rfl,hs,aj,hk,rfl,dT⟩;have aA:=ot.mono aj;revert a';refine bT<|aD rfl<|ak ?_;by_cases aV:k<ls.length
 ·refine aG (b:=decide ((k:Int)<(ls.length:Int))) (by simp;omega) rfl<|ar<|ai<|ak<|aw<|cO<|fP (y:=ls[k]) aA (bM rfl aV) rfl fun b p ys aK fw=>?_;obtain⟨v1,rfl,Yk⟩:=fw;obtain⟨a1,c1,rfl⟩:=Yk.isSlice;refine dE 1 [.e aK 0] rfl<|aF rfl<|ah<|Wp 2 rfl ?_;obtain⟨_,news,EX,iO⟩:=Src.jh Yk;obtain rfl:news=ll ls[k]:=cR.Yj EX (gS _ _)
  have Sd:(ls.take k).flatten.length+ls[k].length≤100:=by
   have h1:(ls.take (k+1)).flatten.length≤ls.flatten.length:=by
    conv=>rhs;rw[←aaY (k+1) ls]
    rw[ade,aal];omega
   rw[aaX aV,ade,aal]at h1;rw[List.length_flatten (L:=ls)]at h1;simpa using aaC h1 hb
  refine aN rfl rfl<|ba T.ok 0 rfl hs rfl rfl rfl rfl rfl rfl rfl (by decide) rfl iO EX.one (by show(_+_)*24≤_;omega) (by unfold maxLen;omega) fun a' c' g3 hs hle=>?_;replace aj:=aj.trans hle;refine Wp 1 rfl<|an<|aX<|ai<|ah<|Wp 2 rfl<|an<|fun a ha=>⟨ls.length-(k+1),by omega,k+1,_,_,rfl,?_,aj,by omega,rfl,ha.keep ⟨rfl,rfl,rfl,kW rfl,trivial⟩⟩
  have e1:(ls.take (k+1)).flatten=(ls.take k).flatten++ls[k]:=by rw[aaX aV,ade];simp
  rw[e1,aal];unfold ll at hs⊢;rw[ac4];exact hs
 refine bg (b:=decide ((k:Int)<(ls.length:Int))) (by simp;omega) rfl<|aJ<|aM<|aM<|b_<|ai<|aD rfl ?_;rw[aaD (by omega)]at hs;exact au<|cg rfl hs<|hs.nu (i:=0) rfl (gS _ _)
end Go.Proofs.YtkpojaffabjibaaGreatDoor
namespace Go.K
open Go Go.RowKit
variable {F:Fence} {P:Program} {N:Nat} {ds:List Deferred} {ops:Array Oper} {Q:Exit→Act→World→Prop} {φs:List Fact} {l0:Env} {gd:G}
def QU(φs:List Fact)(es:List Nat)(ρ:Nat→Option Value)(g:G):List (Nat×Nat)→Env→(Env→Prop)→Prop
 |[],l,k=>k l
 |(j,d)::r,l,k=> ∀v,(iT φs j).p v g→(es.contains j=true→ρ j=some v)→QU φs es ρ g r ((d,v)::l) k
def uB(ρ:Nat→Option Value)(i:Nat)(v:Value):Nat→Option Value:=fun j=>if j=i then some v else ρ j
def Iy(es:List Nat)(J:(Nat→Option Value)→G→Prop)(ρ:Nat→Option Value)(i:Nat)(v:Value)(g g':G):Prop:=if es.contains i=true then g.le g'∧J (uB ρ i v) g' else bW g g'
def Hg(F:Fence)(P:Program)(N:Nat)(ds:List Deferred)(ops:Array Oper)(Q:Exit→Act→World→Prop)(φs:List Fact)(l0:Env)(gd:G)(es:List Nat)(fQ:List (List Nat))(J:(Nat→Option Value)→G→Prop)(i:Nat)(o:Oper):Prop:=
 ∀ρ g',gd.le g'→J ρ g'→(es.contains i=true→ρ i=none)→(∀(k:Nat) A e,es[k]? =some e→fQ[k]? =some A→i∈A→ρ e=none)→(∀e,es.contains e=true→e∈uU o→ρ e≠none)→QU φs es ρ g' (jn ops o) l0 fun env=>
  match rP ops env o.guard with
  |some true=>cQ F P N ds o env g'.w Q fun v w'=> ∃ez,ez.w=w'∧Iy es J ρ i v g' ez∧(iT φs i).p v ez
  |some false=>Iy es J ρ i undef g' g'∧(iT φs i).p undef g'
  |none=>False
def tP(F:Fence)(P:Program)(N:Nat)(ds:List Deferred)(ops:Array Oper)(Q:Exit→Act→World→Prop)(φs:List Fact)(l0:Env)(gd:G)(es:List Nat)(fQ:List (List Nat))(J:(Nat→Option Value)→G→Prop)(i:Nat)(os:List Oper):Prop:=iZ (Hg F P N ds ops Q φs l0 gd es fQ J) i os
theorem Ly{g:G}{a:Act}{es:List Nat}{ρ:Nat→Option Value}: ∀(js:List (Nat×Nat)) {l:Env} {k:Env→Prop},QU φs es ρ g js l k→Fr N ds l a→(∀p∈js,∃v,a.tmps[p.2]? =some v∧(iT φs p.1).p v g∧(es.contains p.1=true→ρ p.1=some v))→ ∃env,k env∧Fr N ds env a
 |[],l,k,h,ha,_=>⟨l,h,ha⟩
 |(j,d)::r,l,k,h,ha,hp=>by
  obtain⟨v,hv,hf,hr⟩:=hp (j,d) (by simp);refine Ly r (h v hf hr) ⟨ha.defers,ha.size,fun t u hu=>?_⟩ (fun p nQ=>hp p (by simp[nQ]));by_cases e:d=t
  ·subst e;rw[dz]at hu;rw[←hu];exact hv
  rw[cG _ _ e]at hu;exact ha.get t u hu
theorem CC{g':G}{es:List Nat}{ρ:Nat→Option Value}: ∀(js:List (Nat×Nat)) (l:Env) (k k':Env→Prop),(∀env,k env→k' env)→QU φs es ρ g' js l k→QU φs es ρ g' js l k'
 |[],_,_,_,hk,h=>hk _ h
 |_::r,_,k,k',hk,h=>fun v hv hr=>CC r _ k k' hk (h v hv hr)
theorem Pm{g':G}{es:List Nat}{ρ:Nat→Option Value}: ∀(js:List (Nat×Nat)) (l:Env) (k:Env→Prop),QA φs g' js l k→QU φs es ρ g' js l k
 |[],_,_,h=>h
 |_::r,_,k,h=>fun v hv _=>Pm r _ k (h v hv)
def u7(es:List Nat)(L:Nat→Bool)(ρ:Nat→Value):Nat→Option Value:=fun e=>if es.contains e=true∧L e=true then some (ρ e)else none
theorem Pn{g':G}{a:Act}{es:List Nat}{L:Nat→Bool}{ρ:Nat→Value}{js:List (Nat×Nat)}{k:Env→Prop}(h:QU φs es (u7 es L ρ) g' js l0 k)(ha:Fr N ds l0 a)(mN:TB ops L ρ a)(hp: ∀p∈js,L p.1=true∧gC ops p.1=some p.2∧(iT φs p.1).p (ρ p.1) g'): ∃env,k env∧Fr N ds env a:=
 Ly js h ha fun p h=>let⟨a1,a2,a3⟩:=hp p h;⟨_,mN _ _ a1 a2,a3,fun h=>if_pos ⟨h,a1⟩⟩
theorem Oe{id:Nat}{g:G}(hF: ∀f,F.fn f)(hm:P.follows .mixedOrders=true)(φs:List Fact)(m:Nat)(outs:List (Nat×Nat))(es:List Nat)(fQ:List (List Nat))(J:(Nat→Option Value)→G→Prop)(hJ: ∀ρ g g',bW g g'→J ρ g→J ρ g')(Fx:J (fun _=>none) g.dr)(kQ:jb N ops l0 m=true)(WW:(es.all fun e=>Nat.blt e m)=true)(Eb:((es.zip fQ).all fun p=>sW ops p.2 p.1)=true)(hsoft:kM [] 0 φs)
  (houts:outs.all (fun p=>Nat.blt p.1 m&&(gC ops p.1==some p.2))=true)
  (iF:tP F P N ds ops Q φs l0 g.dr es fQ J 0 (ops.toList.take m))
  (lL: ∀ρ g',g.dr.le g'→J ρ g'→(∀e,es.contains e=true→ρ e≠none)→QU φs es ρ g' outs l0 fun env=>WL F P N ds ops Q (ops.toList.drop m) env g'.w):W F P N ds (.region id ops true) Q l0 g.w:=by
 refine xT hF hm m kQ (fun L ρ g'=>g.dr.le g'∧(∀j,L j=true→(iT φs j).p (ρ j) g')∧J (u7 es L ρ) g') ⟨G.le.refl _,fun _ h=>((by cases h)),?_⟩ (fun L ρ g' i o a ⟨HR,hφ,hj⟩ uk ho h0 dW je ha mN=>?_) fun L ρ g' a ⟨h1,hφ,hj⟩ dW ha mN=>Pn (lL _ g' h1 hj fun e he=>?_) ha mN fun p hp=>have h:=uV houts hp;⟨dW _ h.1,h.2,hφ _ (dW _ h.1)⟩
 ·rw[show u7 es (fun _=>false) (fun _=>undef)=fun _=>none from funext fun e=>if_neg fun h=>(by cases h.2)];exact Fx
 ·have dt: ∀{e},L e=false→u7 es L ρ e=none:=fun h=>if_neg fun q=>by rw[h]at q;cases q.2
  obtain⟨env,hk,sB⟩:=Pn (iZ.at iF uk ho _ g' HR hj (fun _=>dt h0) (fun k A e he hA WX=>dt (by
   cases h:L e with
   |false=>rfl
   |true=>rw[He kQ Eb je he hA h WX]at h0;cases h0)) (fun e he WY=>by unfold u7;rw[if_pos ⟨he,dW e WY⟩];simp)) ha mN fun p hp=>⟨dW _ (gH hp).1,(gH hp).2,hφ _ (dW _ (gH hp).1)⟩
  have key: ∀v ez,Iy es J (u7 es L ρ) i v g' ez∧(iT φs i).p v ez→g.dr.le ez∧(∀j,sC L i j=true→(iT φs j).p (Cq ρ i v j) ez)∧J (u7 es (sC L i) (Cq ρ i v)) ez:=by
   rintro v ez ⟨gN,hv⟩;unfold Iy at gN;by_cases FT:es.contains i=true
   ·rw[if_pos FT]at gN;refine⟨HR.trans gN.1,zl hv fun j _ hj=>Lx hsoft j _ _ _ gN.1 (hφ j hj),?_⟩;rw[show u7 es (sC L i) (Cq ρ i v)=uB (u7 es L ρ) i v from funext fun e=>by
     unfold u7 uB sC Cq;by_cases h:e=i
     ·subst h;simpa using FT
     simp[h]]
    exact gN.2
   rw[if_neg FT]at gN;refine⟨HR.trans gN.le,zl hv fun j _ hj=>Lx hsoft j _ _ _ gN.le (hφ j hj),?_⟩;rw[show u7 es (sC L i) (Cq ρ i v)=u7 es L ρ from funext fun e=>by
    unfold u7 sC Cq;by_cases h:e=i
    ·subst h;rw[if_neg fun q=>FT q.1,if_neg fun q=>FT q.1]
    simp[h]]
   exact hJ _ _ _ gN hj
  exact⟨env,_,_,sB,hk,key,fun h=>key undef g' h⟩
 unfold u7;rw[if_pos ⟨he,dW e (by simpa [abQ]using aa2.1 WW e (by simpa using he))⟩];simp
variable {l:Env} {os nP:List Oper} {o:Oper}
variable {g0 g g':G} {ks:List FK} {es:List Nat} {fQ:List (List Nat)} {J:(Nat→Option Value)→G→Prop} {ρ:Nat→Option Value}
def Hh(es:List Nat):Nat→Nat→Bool
 |_,0=>true
 |i,n+1=> !es.contains i&&Hh es (i+1) n
theorem bA{i:Nat}(h:Hg F P N ds ops Q φs l0 gd es fQ J i o)(h2:tP F P N ds ops Q φs l0 gd es fQ J (i+1) os):tP F P N ds ops Q φs l0 gd es fQ J i (o::os):=⟨h,h2⟩
theorem AT{i:Nat}:tP F P N ds ops Q φs l0 gd es fQ J i []:=trivial
theorem bh{k:Env→Prop}(h:k l):QU φs es ρ g [] l k:=h
theorem c_{k:Env→Prop}{j d:Nat}{x:Value}{r:List (Nat×Nat)}(he:iT φs j=Fact.eq x)(h:QU φs es ρ g r ((d,x)::l) k):QU φs es ρ g ((j,d)::r) l k:=by intro v hv _;rw[he]at hv;obtain rfl:v=x:=hv;exact h
theorem db{k:Env→Prop}{j d:Nat}{r:List (Nat×Nat)}(h: ∀v,(iT φs j).p v g→QU φs es ρ g r ((d,v)::l) k):QU φs es ρ g ((j,d)::r) l k:=fun v hv _=>h v hv
theorem gT{k:Env→Prop}{j d:Nat}{r:List (Nat×Nat)}(hj:es.contains j=true)(h: ∀v,(iT φs j).p v g→ρ j=some v→QU φs es ρ g r ((d,v)::l) k):QU φs es ρ g ((j,d)::r) l k:=fun v hv hr=>h v hv (hr hj)
theorem cW{i:Nat}{js:List (Nat×Nat)}(hj:jn ops o=js)(hp:es.contains i=false)
  (h: ∀ρ g',(∀(k:Nat) A e,es[k]? =some e→fQ[k]? =some A→i∈A→ρ e=none)→(∀e,es.contains e=true→e∈uU o→ρ e≠none)→gd.le g'→J ρ g'→QU φs es ρ g' js l0 (DK F P N ds ops Q (iT φs i) g' o)):Hg F P N ds ops Q φs l0 gd es fQ J i o:=by
 subst hj;intro ρ g' hf hs _ h2 h3;refine CC _ _ _ _ (fun env hd=>?_) (h ρ g' h2 h3 hf hs);unfold DK at hd;unfold Iy;rw[if_neg (by rw[hp];simp)];cases hg:rP ops env o.guard with
 |none=>rw[hg]at hd;exact hd
 |some b=>
  rw[hg]at hd;cases b with
  |true=>
   refine fun a ha=>Oper.wpIn_mono (fun a' w' ⟨v,he,ez,hw,gN,W3⟩=>⟨v,he,ez,hw,?_,W3⟩) (hd a ha);rw[if_neg (by rw[hp];simp)];exact gN
  |false=>exact⟨bW.refl _,hd⟩
theorem jW{i:Nat}{js:List (Nat×Nat)}(hj:jn ops o=js)(hp:es.contains i=true)
  (h: ∀ρ g',(∀(k:Nat) A e,es[k]? =some e→fQ[k]? =some A→i∈A→ρ e=none)→(∀e,es.contains e=true→e∈uU o→ρ e≠none)→ρ i=none→gd.le g'→J ρ g'→QU φs es ρ g' js l0 fun env=>
   rP ops env o.guard=some true∧cQ F P N ds o env g'.w Q fun v w'=> ∃ez,ez.w=w'∧(g'.le ez∧J (uB ρ i v) ez)∧(iT φs i).p v ez):Hg F P N ds ops Q φs l0 gd es fQ J i o:=by
 subst hj;intro ρ g' hf hs h1 h2 h3;refine CC _ _ _ _ (fun env hd=>?_) (h ρ g' h2 h3 (h1 hp) hf hs);obtain⟨hg,hd⟩:=hd;rw[hg];refine fun a ha=>Oper.wpIn_mono (fun a' w' ⟨v,he,ez,hw,gN,W3⟩=>⟨v,he,ez,hw,?_,W3⟩) (hd a ha);unfold Iy;rw[if_pos hp];exact gN
theorem Ec: ∀(n i:Nat),Hh es i n=true→ ∀j,i≤j→j<i+n→es.contains j=false
 |0,_,_,j,h1,h2=>by omega
 |n+1,i,h,j,h1,h2=>by
  simp only[Hh,aaA]at h;by_cases e:j=i
  ·subst e;simpa using h.1
  exact Ec n (i+1) h.2 j (by omega) (by omega)
theorem Um[eE P][hA:lO F]{i i':Nat}{A:List Value}(oc:List (List Nat))(ss:List (wV P g))(hn:(mq ops os oc&&Hh es i oc.length)=true)(h:q_ (eE.tb P) ops ks l0 [] oc ss i os=some (A,A,nP,i'))
  (k:tP F P N ds ops Q (ks.map FK.fact) l0 g.dr es fQ J i' nP):tP F P N ds ops Q (ks.map FK.fact) l0 g.dr es fQ J i os:=by
 rw[aaA]at hn;exact Gm (R:=g.dr.le) (fun _ hf=>⟨(G.a_ _).trans hf,_,St.start _⟩) oc ss hn.1 h (fun j o h1 h2 hd=>cW rfl (Ec _ _ hn.2 j h1 h2) fun ρ g' _ _ hf _=>Pm _ _ _ (hd g' hf)) k
theorem oU[eE P][lO F]{id:Nat}(ks:List FK)(m:Nat)(outs:List (Nat×Nat))(es:List Nat)(fQ:List (List Nat))(J:(Nat→Option Value)→G→Prop)(hJ: ∀ρ g g',bW g g'→J ρ g→J ρ g')(Fx:J (fun _=>none) g.dr)
  (kQ:(jb N ops l0 m&&(es.all fun e=>Nat.blt e m)&&((es.zip fQ).all fun p=>sW ops p.2 p.1)&&outs.all (fun p=>Nat.blt p.1 m&&(gC ops p.1==some p.2)))=true) (hsoft:sZ ks)
  (iF:tP F P N ds ops Q (ks.map FK.fact) l0 g.dr es fQ J 0 (ops.toList.take m))
  (lL: ∀ρ g',g.dr.le g'→J ρ g'→(∀e,es.contains e=true→ρ e≠none)→QU (ks.map FK.fact) es ρ g' outs l0 fun env=>WL F P N ds ops Q (ops.toList.drop m) env g'.w):W F P N ds (.region id ops true) Q l0 g.w:=by
 simp only[aaA]at kQ;obtain⟨⟨⟨h1,h2⟩,h3⟩,h4⟩:=kQ;exact Oe lO.all eE.mixed (ks.map FK.fact) m outs es fQ J hJ Fx h1 h2 h3 (sZ.soft hsoft) h4 iF lL
end Go.K
namespace Go.Proofs.YtkpojaffabjibaaGreatDoor
open Go Go.K Tryz
attribute [local irreducible] W WL cQ aP bG aR aQ aS cK ct
set_option maxRecDepth 10000
set_option maxHeartbeats 4000000
def MC:Nat→Nat
 |1=>132
 |2=>121
 |_=>134
def Dj(g:G)(v:Value)(s:EJ):Prop:=∃a b,v= .agg #[a,b,.func (.func (MC s.rest)) #[] #[],.bool s.kT]∧Rs g a s.fields∧Rs g b s.key
theorem Dj.mono{g g':G}{v:Value}{s:EJ}(h:Dj g v s)(hle:g.le g'):Dj g' v s:=by obtain⟨a,b,e,h1,h2⟩:=h;exact⟨a,b,e,h1.mono hle,h2.mono hle⟩
def vF(s:EJ):Fact:=⟨fun v g=>Dj g v s,fun _ _ _ hf h=>h.mono hf.le⟩
theorem ie(s:EJ):xq (vF s):=fun _ _ _ hle h=>Dj.mono h hle
abbrev Qa(x:mi):Value:=.agg #[gY x.at_,vI x.lo,vI x.hi]
def sy(i:Nat):EJ:=pj.getD i ⟨[],[],0,false⟩
variable {N:Nat} {ds:List Deferred} {ops:Array Oper} {Q:Exit→Act→World→Prop} {g g0:G} {o:Oper} {l:Env}
theorem ny{α:Type}[El α]{φs:List Fact}{es:List Nat}{ρ:Nat→Option Value}{k:Env→Prop}{j d:Nat}{r:List (Nat×Nat)}{xs:List α}(he:iT φs j=Fact.rs xs)(h: ∀a c,Rs g (.slice a xs.length c) xs→QU φs es ρ g r ((d,.slice a xs.length c)::l) k):QU φs es ρ g ((j,d)::r) l k:=by intro v hv _;rw[he]at hv;have hv:Rs g v xs:=hv;obtain⟨a,c,rfl⟩:=hv.isSlice;exact h a c hv
theorem nz{α:Type}[El α]{g g':G}{e:TypeId}{v:Value}{n:Nat}{cells:List Value}{xs:List α}(hs:St g g' [.row e (El.k α) v n cells])(hr:cR g' cells xs): ∃g2,g2.w=g'.w∧bW g g2∧Rs g2 v xs:=by obtain⟨g2,e1,e2,_,e4⟩:=hs.cD (i:=0) rfl hr;exact⟨g2,e1,e2.p9,e4⟩
theorem J1(x:mi){parts:Array (Nat×Operand)}(hg:rP ops l o.guard=some true)(ho:o.op= .build 157 parts)(hp:xv l (parts.toList.map (·.2))=some [gY x.at_,vI x.lo,vI x.hi])(z':parts.toList.map (·.1)=[0,1,2]):
  DK Wd prog N ds ops Q (Fact.eq (Qa x)) g o l:=
 ay hg (iS T.ok ho (vs:=[(0,gY x.at_),(1,vI x.lo),(2,vI x.hi)]) (cells:=[gY x.at_,vI x.lo,vI x.hi]) hp z' rfl rfl [(0,1),(1,1),(2,1)] rfl (by kernel_rfl) ⟨g,rfl,bW.refl g,rfl⟩)
theorem ku(xs:List mi){len:Nat}{parts:Array (Nat×Operand)}(hg:rP ops l o.guard=some true)(ho:o.op= .buildSlice 113 len parts)(hp:xv l (parts.toList.map (·.2))=some (xs.map Qa))(z':parts.toList.map (·.1)=List.range len)(hl:xs.length=len)(hn:len*3≤1000)
  (qK:Instr.fill (fun i=>some (i*3,3)) ((Array.range (len*3)).map ((Value.agg #[.nilFunc,vI 0,vI 0]).cells[· % 3]!)) ((List.range len).zip (xs.map Qa))=some (ll xs).toArray):DK Wd prog N ds ops Q (Fact.rs xs) g o l:=by
 refine ay hg (iD T.ok ho (St.start g) (vs:=(List.range len).zip (xs.map Qa)) (cells:=ll xs) ?_ ?_ rfl rfl rfl rfl (by decide) (by show len*3≤16777216;omega) qK ?_ fun b g' hs hle=>?_)
 ·rw[hp,List.map_snd_zip (by simp[hl])]
 ·rw[z',List.map_fst_zip (by simp[hl])]
 ·rw[(gS g xs).len,hl];rfl
 obtain⟨g2,e1,e2,e3⟩:=nz hs (gS g' xs);exact⟨g2,e1,e2,e3⟩
theorem pB(xs:List (List mi)){us:List Value}{len:Nat}{parts:Array (Nat×Operand)}(hg:rP ops l o.guard=some true)(ho:o.op= .buildSlice 220 len parts)(hp:xv l (parts.toList.map (·.2))=some us)(z':parts.toList.map (·.1)=List.range len)(hl:us.length=len)(hn:len*1≤1000)
  (qK:Instr.fill (fun i=>some (i*1,1)) ((Array.range (len*1)).map ((Value.slice none 0 0).cells[· % 1]!)) ((List.range len).zip us)=some us.toArray) (hr:cR g us xs):DK Wd prog N ds ops Q (Fact.rs xs) g o l:=by
 refine ay hg (iD T.ok ho (St.start g) (vs:=(List.range len).zip us) (cells:=us) ?_ ?_ rfl rfl rfl rfl (by decide) (by show len*1≤16777216;omega) qK (by show us.length=len*1;omega) fun b g' hs hle=>?_)
 ·rw[hp,List.map_snd_zip (by simp[hl])]
 ·rw[z',List.map_fst_zip (by simp[hl])]
 obtain⟨g2,e1,e2,e3⟩:=nz hs (hr.mono hle);exact⟨g2,e1,e2,e3⟩
theorem kx{xs:List mi}{f:FuncId}(hc:cS prog f){x:Operand}{args:Array Operand}{ts:Array TypeId}{first captured:Array Value}{vs av:List Value}(hg:rP ops l o.guard=some true)(ho:o.op= .call {callee:=.value x,args,argTypes:=ts})(hx:ev l x=some (.func (.func f) first captured))(ha:xv l args.toList=some vs)(has:first.toList++vs++captured.toList=av)
  (h:cN prog f av.toArray g (lj 157 g xs)):DK Wd prog N ds ops Q (Fact.rs xs) g o l:=
 ay hg (bu hc bJ rfl ho hx ha has h fun g' v hf ⟨cells,h1,h2⟩=>by obtain⟨g2,e1,e2,e3⟩:=nz ((St.start g).jl hf h1) h2;exact⟨g2,e1,e2,e3⟩)
theorem nA(s:EJ){v1 v2:Value}{parts:Array (Nat×Operand)}(hg:rP ops l o.guard=some true)(ho:o.op= .build 115 parts)(hp:xv l (parts.toList.map (·.2))=some [v1,v2,.func (.func (MC s.rest)) #[] #[],.bool s.kT])(z':parts.toList.map (·.1)=[0,1,2,3])
  (h1:Rs g v1 s.fields) (h2:Rs g v2 s.key):DK Wd prog N ds ops Q (vF s) g o l:=by
 obtain⟨a1,c1,rfl⟩:=h1.isSlice;obtain⟨a2,c2,rfl⟩:=h2.isSlice;exact ay hg (iS T.ok ho (vs:=[(0,.slice a1 s.fields.length c1),(1,.slice a2 s.key.length c2),(2,.func (.func (MC s.rest)) #[] #[]),(3,.bool s.kT)]) (cells:=[.slice a1 s.fields.length c1,.slice a2 s.key.length c2,.func (.func (MC s.rest)) #[] #[],.bool s.kT]) hp z' rfl rfl [(0,1),(1,1),(2,1),(3,1)] rfl (by kernel_rfl) ⟨g,rfl,bW.refl g,_,_,rfl,h1,h2⟩)
def B2:List (Int×Nat):=[(1,15),(2,24),(3,35),(4,45),(5,51),(6,60),(7,70),(8,79),(9,88),(10,97),(11,105)]
def OX(g0:G)(ρ:Nat→Option Value)(g:G):Prop:=
 (ρ 0=none∧(∀p∈B2,ρ p.2=none)∧St g0 g [])∨
 ∃b cP,ρ 0=some (.map (some b))∧St g0 g [.obj b (fy cP)]∧(∀k v,jU k cP=some v→ ∃s,eD k=some s∧Dj g v s)∧ ∀p∈B2,ρ p.2≠none→(jU p.1 cP).isSome=true
theorem J2{g0:G}(ρ:Nat→Option Value)(g g':G)(hf:bW g g')(h:OX g0 ρ g):OX g0 ρ g':=by
 rcases h with⟨h1,h2,h3⟩|⟨b,cP,h1,h2,h3,h4⟩
 ·exact .inl ⟨h1,h2,h3.call hf⟩
 refine .inr ⟨b,cP,h1,h2.call hf,fun k v hk=>?_,h4⟩;obtain⟨s,e,hs⟩:=h3 k v hk;exact⟨s,e,hs.mono hf.le⟩
theorem vG{ρ:Nat→Option Value}{i j:Nat}{v:Value}(h:j≠i):uB ρ i v j=ρ j:=if_neg h
theorem J3{ρ:Nat→Option Value}(hr:ρ 0=none)(hJ:OX g0 ρ g)(ho:o.op= .makeMap 116 none):
  cQ Wd prog N ds o l g.w Q fun u w'=> ∃ez,ez.w=w'∧(g.le ez∧OX g0 (uB ρ 0 u) ez)∧Fact.any.p u ez:=by
 rcases hJ with⟨_,h2,h3⟩|⟨b,cP,h1,_⟩
 ·refine mz (κ:=Int) ho h3 fun b g' hs hle=>⟨g',rfl,⟨hle,.inr ⟨b,[],rfl,hs,fun k v h=>(by cases h),fun p hp h=>?_⟩⟩,trivial⟩
  have fL:p.2≠0:=by
   have: ∀p∈B2,p.2≠0:=by decide
   exact this p hp
  rw[vG fL,h2 p hp]at h;exact absurd rfl h
 rw[hr]at h1;cases h1
theorem lq{ρ:Nat→Option Value}{k:Int}{i:Nat}(UG:(k,i)∈B2){s:EJ}(qL:eD k=some s){m v:Value}(hr:ρ 0=some m)(hJ:OX g0 ρ g)(hv:Dj g v s){mo ko vo:Operand}(ho:o.op= .insert 116 mo ko vo)
  (hm:ev l mo=some m) (hk:ev l ko=some (vI k)) (hx:ev l vo=some v):cQ Wd prog N ds o l g.w Q fun u w'=> ∃ez,ez.w=w'∧(g.le ez∧OX g0 (uB ρ i u) ez)∧Fact.any.p u ez:=by
 rcases hJ with⟨h1,_⟩|⟨b,cP,h1,h2,h3,h4⟩
 ·rw[hr]at h1;cases h1
 rw[hr]at h1;obtain rfl:=aax h1;refine eg (κ:=Int) (a:=k) (Fq T.ok rfl rfl rfl rfl rfl) 0 (.inr ho) h2 rfl hm hk hx fun g' hs hle=>⟨g',rfl,⟨hle,.inr ⟨b,kX k v cP,?_,hs,fun k' v' MD=>?_,fun p hp h=>?_⟩⟩,trivial⟩
 ·have fL:i≠0:=by
   have: ∀p∈B2,p.2≠0:=by decide
   exact this _ UG
  rw[vG (fun h=>fL h.symm)];exact hr
 ·rw[vH]at MD;split at MD
  ·rename_i e;obtain rfl:=aax MD;exact⟨s,by rw[e];exact qL,hv.mono hle⟩
  obtain⟨s',e,kP⟩:=h3 k' v' MD;exact⟨s',e,kP.mono hle⟩
 rw[vH];split
 ·rfl
 rename_i fL;refine h4 p hp fun e=>h ?_;have OY:p.2≠i:=by
  intro e2;have: ∀p∈B2,∀q∈B2,p.2=q.2→p.1=q.1:=by decide
  exact fL (this p hp _ UG e2)
 rw[vG OY];exact e
def Ng(g:G)(cP:List (Int×Value)):Prop:=∀k,match eD k with
 |some s=> ∃v,jU k cP=some v∧Dj g v s
 |none=>jU k cP=none
def Fs(g:G)(b:Nat)(cP:List (Int×Value)):Prop:=g.im b∧g.w.heap[b]? =some (fy cP)
theorem Fs.mono{g g':G}{b:Nat}{cP:List (Int×Value)}(h:Fs g b cP)(hle:g.le g'):Fs g' b cP:=⟨(hle b h.1).1,(hle b h.1).2.trans h.2⟩
theorem Nh{ρ:Nat→Option Value}(hJ:OX g0 ρ g)(dW: ∀e,[0,15,24,35,45,51,60,70,79,88,97,105].contains e=true→ρ e≠none): ∃b cP g2,ρ 0=some (.map (some b))∧g2.w=g.w∧St g0 g2 []∧g.le g2∧Fs g2 b cP∧Ng g2 cP:=by
 rcases hJ with⟨h1,_⟩|⟨b,cP,h1,h2,h3,h4⟩
 ·exact absurd h1 (dW 0 rfl)
 have hle:=G.uC g (some b) (fun b' hb=>by obtain rfl:=aax hb;exact((h2.own 0 _ rfl).lt b rfl).2.1);refine⟨b,cP,g.fz (some b) _,h1,rfl,h2.fz (i:=0) rfl,hle,⟨.inr rfl,(h2.own 0 _ rfl).2.1⟩,fun k=>?_⟩;cases qL:eD k with
 |none=>
  simp only;cases hm:jU k cP with
  |none=>rfl
  |some v=>obtain⟨s,e,_⟩:=h3 k v hm;rw[qL]at e;cases e
 |some s=>
  simp only;have hk: ∃i,(k,i)∈B2∧[0,15,24,35,45,51,60,70,79,88,97,105].contains i=true:=by
   unfold eD at qL;split at qL
   ·cases qL
   have aV:=(aaN.1 qL).1;have hl:pj.length=11:=rfl;rw[hl]at aV;have:k=1∨k=2∨k=3∨k=4∨k=5∨k=6∨k=7∨k=8∨k=9∨k=10∨k=11:=by omega
   rcases this with rfl|rfl|rfl|rfl|rfl|rfl|rfl|rfl|rfl|rfl|rfl
   all_goals exact⟨_,by unfold B2;simp only[aav,aaB];simp;rfl,by decide⟩
  obtain⟨i,hi,ZU⟩:=hk;have:=h4 _ hi (dW i ZU);cases hm:jU k cP with
  |none=>rw[hm]at this;cases this
  |some v=>
   obtain⟨s',e,hv⟩:=h3 k v hm;rw[qL]at e;obtain rfl:=aax e;exact⟨v,rfl,hv.mono hle⟩
theorem yG(g:G):cN prog 57 #[] g fun g' r=> ∃b cP,r= .map (some b)∧Fs g' b cP∧Ng g' cP:=by
 have hs:=St.start g;refine enter func57 rfl ntmps57 rfl<|aD rfl<|cO<|jN rfl (eZ 1 _) hs fun g1 hs ag=>?_
 refine iX ((List.range (pf).length).zip ((pf).map Qa)) (ll pf) hs rfl rfl fun b1 g1 hs ag=>?_;obtain⟨gz,gX,dk,iw,aE⟩:=hs.cD (i:=0) rfl (gS _ pf);clear ag;have ag:=iw;rw[←gX];replace hs:=dk;clear dk;refine aF rfl<|cO<|jN rfl (eZ 14 _) hs fun g1 hs ag=>?_;replace aE:=aE.mono ag;refine jN rfl (eZ 15 _) hs fun g1 hs ag=>?_;replace aE:=aE.mono ag;refine iX ((List.range (xg).length).zip ((xg).map Qa)) (ll xg) hs rfl rfl fun b2 g1 hs ag=>?_;replace aE:=aE.mono ag;obtain⟨gz,gX,dk,iw,bB⟩:=hs.cD (i:=0) rfl (gS _ xg);clear ag;have ag:=iw;rw[←gX];replace hs:=dk;clear dk;replace aE:=aE.mono ag;refine aF rfl<|aD rfl<|cO ?_
 refine hZ [(0,gY 7),(1,vI (0)),(2,vI (1000000))] [gY 7,vI (0),vI (1000000)] [(0,1),(1,1),(2,1)] rfl<|hZ [(0,gY 9),(1,vI (0)),(2,vI (1000000))] [gY 9,vI (0),vI (1000000)] [(0,1),(1,1),(2,1)] rfl<|hZ [(0,gY 11),(1,vI (0)),(2,vI (60))] [gY 11,vI (0),vI (60)] [(0,1),(1,1),(2,1)] rfl<|hZ [(0,gY 12),(1,vI (0)),(2,vI (4))] [gY 12,vI (0),vI (4)] [(0,1),(1,1),(2,1)] rfl<|hZ [(0,gY 13),(1,vI (0)),(2,vI (40))] [gY 13,vI (0),vI (40)] [(0,1),(1,1),(2,1)] rfl<|hZ [(0,gY 14),(1,vI (0)),(2,vI (1000000))] [gY 14,vI (0),vI (1000000)] [(0,1),(1,1),(2,1)] rfl<|hZ [(0,gY 15),(1,vI (0)),(2,vI (1000000))] [gY 15,vI (0),vI (1000000)] [(0,1),(1,1),(2,1)] rfl<|iX ((List.range (qq).length).zip ((qq).map Qa)) (ll qq) hs rfl rfl fun b4 g1 hs ag=>?_;obtain⟨aE,bB⟩:=cA ag aE bB;obtain⟨gz,gX,dk,iw,bV⟩:=hs.cD (i:=0) rfl (gS _ qq);clear ag;have ag:=iw;rw[←gX];replace hs:=dk;clear dk;obtain⟨aE,bB⟩:=cA ag aE bB;refine aF rfl<|cO<|hZ [(0,gY 17),(1,vI (1)),(2,vI (255))] [gY 17,vI (1),vI (255)] [(0,1),(1,1),(2,1)] rfl<|fA hs rfl fun b1 g1 hs ag=>?_;obtain⟨aE,bB,bV⟩:=eS ag aE bB bV;refine om 0 hs rfl fun g2 hs ag aq=>?_;obtain⟨aE,bB,bV⟩:=eS ag aE bB bV;refine bE<|cO<|hZ [(0,gY 16),(1,vI (-1000000)),(2,vI (1000000))] [gY 16,vI (-1000000),vI (1000000)] [(0,1),(1,1),(2,1)] rfl<|fA hs rfl fun b1 g1 hs ag=>?_;obtain⟨aq,aE,bB,bV⟩:=dU ag aq aE bB bV;refine om 0 hs rfl fun g2 hs ag aB=>?_;obtain⟨aq,aE,bB,bV⟩:=dU ag aq aE bB bV;refine bE<|ak ?_;apply oU (.f Fact.any::(eA (.f (Fact.rs [(fK 7)])::(.f (Fact.rs gg)::(fe (.f (Fact.rs [(⟨13,0,39⟩:mi)])::(fe (.f (Fact.rs jf)::(fe (.f (Fact.rs [(⟨16,-10000000,10000000⟩:mi)])::(.f (Fact.rs (α:=List mi) [pf,[(fK 7)],gg,[(⟨13,0,39⟩:mi)],xg,jf,[(⟨16,-10000000,10000000⟩:mi)]])::(.f (Fact.rs (α:=mi) [pf,[(fK 7)],gg,[(⟨13,0,39⟩:mi)],xg,jf,[(⟨16,-10000000,10000000⟩:mi)]].flatten)::(fe (.f (vF (sy 0))::(.f Fact.any::(fe (eA (.f (Fact.rs [fB,BL])::(.f (Fact.rs (α:=List mi) [pf,[fB,BL]])::(.f (Fact.rs (α:=mi) [pf,[fB,BL]].flatten)::(fe (.f (vF (sy 1))::(.f Fact.any::(gR (.f (Fact.rs [(fK 7),(fK 8),fB])::(.f (Fact.rs (α:=List mi) [pf,[(fK 7),(fK 8),fB]])::(.f (Fact.rs (α:=mi) [pf,[(fK 7),(fK 8),fB]].flatten)::(eA (.f (vF (sy 2))::(.f Fact.any::(gR (.f (Fact.rs [(fK 7),(fK 9),(fK 10),fB])::(eA (.f (Fact.rs [(fK 7),fB])::(.f (vF (sy 3))::(.f Fact.any::(fe (.f (Fact.rs [(fK 10)])::(fe (.f (Fact.rs [(fK 10)])::(.f (vF (sy 4))::(.f Fact.any::(fe (.f (Fact.rs gg)::(fe (.f (Fact.rs jf)::(.f (Fact.rs (α:=List mi) [pf,gg,xg,jf])::(.f (Fact.rs (α:=mi) [pf,gg,xg,jf].flatten)::(fe (.f (vF (sy 5))::(.f Fact.any::(eA (.f (Fact.rs jf)::(fe (.f (Fact.rs [vn])::(.f (Fact.rs (α:=List mi) [pf,qq,jf,[vn]])::(.f (Fact.rs (α:=mi) [pf,qq,jf,[vn]].flatten)::(fe (.f (vF (sy 6))::(.f Fact.any::(fe (eA (.f (Fact.rs [(fK 8),vn,fB])::(eA (.f (Fact.rs [(fK 8),vn])::(.f (vF (sy 7))::(.f Fact.any::(fe (.f (Fact.rs gg)::(fe (.f (Fact.rs [fB])::(.f (Fact.rs (α:=List mi) [pf,gg,[fB]])::(.f (Fact.rs (α:=mi) [pf,gg,[fB]].flatten)::(fe (.f (vF (sy 8))::(.f Fact.any::(fe (eA (.f (Fact.rs [(fK 14),fB,BL])::(eA (.f (Fact.rs [(fK 14),fB])::(.f (vF (sy 9))::(.f Fact.any::(fe (.f (Fact.rs gg)::(.f (Fact.rs jf)::(.f (Fact.rs (α:=List mi) [pf,gg,jf])::(.f (Fact.rs (α:=mi) [pf,gg,jf].flatten)::(fe (.f (vF (sy 10))::(.f Fact.any::[]))))))))))))))))))))))))))))))))))))))))))))))))))))))))))))))))))))))))))))))))))))))))))) 106 [(0,22)] [0,15,24,35,45,51,60,70,79,88,97,105] [] (OX g) J2 (.inl ⟨rfl,fun _ _=>rfl,hs.dr⟩) (by kernel_rfl) ⟨dw,⟨cw _,⟨cw _,⟨cw _,⟨cw _,⟨cw _,⟨cw _,⟨cw _,⟨ie _,⟨dw,⟨cw _,⟨cw _,⟨cw _,⟨ie _,⟨dw,⟨cw _,⟨cw _,⟨cw _,⟨ie _,⟨dw,⟨cw _,⟨cw _,⟨ie _,⟨dw,⟨cw _,⟨cw _,⟨ie _,⟨dw,⟨cw _,⟨cw _,⟨cw _,⟨cw _,⟨ie _,⟨dw,⟨cw _,⟨cw _,⟨cw _,⟨cw _,⟨ie _,⟨dw,⟨cw _,⟨cw _,⟨ie _,⟨dw,⟨cw _,⟨cw _,⟨cw _,⟨cw _,⟨ie _,⟨dw,⟨cw _,⟨cw _,⟨ie _,⟨dw,⟨cw _,⟨cw _,⟨cw _,⟨cw _,⟨ie _,⟨dw,trivial⟩⟩⟩⟩⟩⟩⟩⟩⟩⟩⟩⟩⟩⟩⟩⟩⟩⟩⟩⟩⟩⟩⟩⟩⟩⟩⟩⟩⟩⟩⟩⟩⟩⟩⟩⟩⟩⟩⟩⟩⟩⟩⟩⟩⟩⟩⟩⟩⟩⟩⟩⟩⟩⟩⟩⟩⟩⟩⟩⟩
 ·have qM:=G.a_ g2;exact bA (jW (js:=[]) (by kernel_rfl) rfl fun ρ g2 _ _ J4 _ hJ=>bh ⟨rfl,J3 J4 hJ rfl⟩)<|Um [[],[]] [.c (cB 117) fun g _=>eZ 7 g] (by kernel_rfl) rfl<|bA (cW (js:=[(2,24)]) (by kernel_rfl) rfl fun _ g2 _ _ _ _=>c_ rfl (bh (ku [(fK 7)] rfl rfl rfl rfl rfl (by decide) (by kernel_rfl))))<|bA (cW (js:=[]) (by kernel_rfl) rfl fun _ g2 _ _ _ _=>bh (kx (cB 130) rfl rfl rfl rfl rfl (xL g2)))<|bA (cW (js:=[]) (by kernel_rfl) rfl fun _ g2 _ _ _ _=>bh (J1 ⟨13,0,39⟩ rfl rfl rfl rfl))<|bA (cW (js:=[(5,27)]) (by kernel_rfl) rfl fun _ g2 _ _ _ _=>c_ rfl (bh (ku [(⟨13,0,39⟩:mi)] rfl rfl rfl rfl rfl (by decide) (by kernel_rfl))))<|Um [[]] [] (by kernel_rfl) rfl<|bA (cW (js:=[]) (by kernel_rfl) rfl fun _ g2 _ _ _ _=>bh (kx (cB 131) rfl rfl rfl rfl rfl (xM g2)))<|bA (cW (js:=[]) (by kernel_rfl) rfl fun _ g2 _ _ _ _=>bh (J1 ⟨16,-10000000,10000000⟩ rfl rfl rfl rfl))<|bA (cW (js:=[(9,31)]) (by kernel_rfl) rfl fun _ g2 _ _ _ _=>c_ rfl (bh (ku [(⟨16,-10000000,10000000⟩:mi)] rfl rfl rfl rfl rfl (by decide) (by kernel_rfl))))<|bA (cW (js:=[(1,23),(3,25),(4,26),(6,28),(7,29),(8,30),(10,32)]) (by kernel_rfl) rfl fun _ g2 _ _ hle _=>c_ rfl (ny rfl fun _ _ h3=>ny rfl fun _ _ h4=>ny rfl fun _ _ h6=>c_ rfl (ny rfl fun _ _ h8=>ny rfl fun _ _ ue=>bh (pB [pf,[(fK 7)],gg,[(⟨13,0,39⟩:mi)],xg,jf,[(⟨16,-10000000,10000000⟩:mi)]] rfl rfl rfl rfl rfl (by decide) (by kernel_rfl) ⟨[_],_,rfl,⟨_,rfl,(aE.mono (qM.trans hle))⟩,⟨[_],_,rfl,⟨_,rfl,h3⟩,⟨[_],_,rfl,⟨_,rfl,h4⟩,⟨[_],_,rfl,⟨_,rfl,h6⟩,⟨[_],_,rfl,⟨_,rfl,(bB.mono (qM.trans hle))⟩,⟨[_],_,rfl,⟨_,rfl,h8⟩,⟨[_],_,rfl,⟨_,rfl,ue⟩,rfl⟩⟩⟩⟩⟩⟩⟩))))<|bA (cW (js:=[(11,33)]) (by kernel_rfl) rfl fun _ g2 _ _ _ _=>db fun v11 Ni=>bh (kx (cB 129) rfl rfl rfl rfl rfl (tv v11 _ g2 Ni (by decide))))<|Um [[]] [] (by kernel_rfl) rfl<|bA (cW (js:=[(12,34),(13,35)]) (by kernel_rfl) rfl fun _ g2 _ _ hle _=>db fun v12 RA=>c_ rfl (bh (nA (sy 0) rfl rfl rfl rfl RA (aE.mono (qM.trans hle)))))<|bA (jW (js:=[(0,22),(14,36)]) (by kernel_rfl) rfl fun ρ g2 _ _ _ _ hJ=>gT rfl fun v0 _ r0=>db fun ZV RB=>bh (⟨rfl,lq (k:=1) (i:=15) (by decide) (s:=sy 0) rfl r0 hJ RB rfl rfl rfl rfl⟩))<|Um [[],[],[]] [.c (cB 133) fun g _=>pA g,.e aB 0] (by kernel_rfl) rfl<|bA (cW (js:=[(17,38),(18,39)]) (by kernel_rfl) rfl fun _ g2 _ _ _ _=>c_ rfl (c_ rfl (bh (ku [fB,BL] rfl rfl rfl rfl rfl (by decide) (by kernel_rfl)))))<|bA (cW (js:=[(16,37),(19,40)]) (by kernel_rfl) rfl fun _ g2 _ _ hle _=>c_ rfl (ny rfl fun _ _ VG=>bh (pB [pf,[fB,BL]] rfl rfl rfl rfl rfl (by decide) (by kernel_rfl) ⟨[_],_,rfl,⟨_,rfl,(aE.mono (qM.trans hle))⟩,⟨[_],_,rfl,⟨_,rfl,VG⟩,rfl⟩⟩)))<|bA (cW (js:=[(20,41)]) (by kernel_rfl) rfl fun _ g2 _ _ _ _=>db fun v20 VH=>bh (kx (cB 129) rfl rfl rfl rfl rfl (tv v20 _ g2 VH (by decide))))<|Um [[]] [] (by kernel_rfl) rfl<|bA (cW (js:=[(21,42),(22,43)]) (by kernel_rfl) rfl fun _ g2 _ _ hle _=>db fun v21 Sm=>c_ rfl (bh (nA (sy 1) rfl rfl rfl rfl Sm (aE.mono (qM.trans hle)))))<|bA (jW (js:=[(0,22),(23,44)]) (by kernel_rfl) rfl fun ρ g2 _ _ _ _ hJ=>gT rfl fun v0 _ r0=>db fun v23 ZW=>bh (⟨rfl,lq (k:=2) (i:=24) (by decide) (s:=sy 1) rfl r0 hJ ZW rfl rfl rfl rfl⟩))<|Um [[],[],[],[]] [.c (cB 117) fun g _=>eZ 7 g,.c (cB 117) fun g _=>eZ 8 g,.c (cB 133) fun g _=>pA g] (by kernel_rfl) rfl<|bA (cW (js:=[(26,46),(27,47),(28,48)]) (by kernel_rfl) rfl fun _ g2 _ _ _ _=>c_ rfl (c_ rfl (c_ rfl (bh (ku [(fK 7),(fK 8),fB] rfl rfl rfl rfl rfl (by decide) (by kernel_rfl))))))<|bA (cW (js:=[(25,45),(29,49)]) (by kernel_rfl) rfl fun _ g2 _ _ hle _=>c_ rfl (ny rfl fun _ _ ZX=>bh (pB [pf,[(fK 7),(fK 8),fB]] rfl rfl rfl rfl rfl (by decide) (by kernel_rfl) ⟨[_],_,rfl,⟨_,rfl,(aE.mono (qM.trans hle))⟩,⟨[_],_,rfl,⟨_,rfl,ZX⟩,rfl⟩⟩)))<|bA (cW (js:=[(30,50)]) (by kernel_rfl) rfl fun _ g2 _ _ _ _=>db fun v30 ZY=>bh (kx (cB 129) rfl rfl rfl rfl rfl (tv v30 _ g2 ZY (by decide))))<|Um [[],[]] [] (by kernel_rfl) rfl<|bA (cW (js:=[(31,51),(32,52),(33,53)]) (by kernel_rfl) rfl fun _ g2 _ _ hle _=>db fun v31 ZZ=>c_ rfl (c_ rfl (bh (nA (sy 2) rfl rfl rfl rfl ZZ (aE.mono (qM.trans hle))))))<|bA (jW (js:=[(0,22),(34,54)]) (by kernel_rfl) rfl fun ρ g2 _ _ _ _ hJ=>gT rfl fun v0 _ r0=>db fun v34 Z0=>bh (⟨rfl,lq (k:=3) (i:=35) (by decide) (s:=sy 2) rfl r0 hJ Z0 rfl rfl rfl rfl⟩))<|Um [[],[],[],[]] [.c (cB 117) fun g _=>eZ 7 g,.c (cB 117) fun g _=>eZ 9 g,.c (cB 117) fun g _=>eZ 10 g,.c (cB 133) fun g _=>pA g] (by kernel_rfl) rfl<|bA (cW (js:=[(36,55),(37,56),(38,57),(39,58)]) (by kernel_rfl) rfl fun _ g2 _ _ _ _=>c_ rfl (c_ rfl (c_ rfl (c_ rfl (bh (ku [(fK 7),(fK 9),(fK 10),fB] rfl rfl rfl rfl rfl (by decide) (by kernel_rfl)))))))<|Um [[],[]] [.c (cB 117) fun g _=>eZ 7 g,.c (cB 133) fun g _=>pA g] (by kernel_rfl) rfl<|bA (cW (js:=[(41,60),(42,61)]) (by kernel_rfl) rfl fun _ g2 _ _ _ _=>c_ rfl (c_ rfl (bh (ku [(fK 7),fB] rfl rfl rfl rfl rfl (by decide) (by kernel_rfl)))))<|bA (cW (js:=[(40,59),(43,62)]) (by kernel_rfl) rfl fun _ g2 _ _ hle _=>db fun v40 VI=>db fun v43 Z1=>bh (nA (sy 3) rfl rfl rfl rfl VI Z1))<|bA (jW (js:=[(0,22),(44,63)]) (by kernel_rfl) rfl fun ρ g2 _ _ _ _ hJ=>gT rfl fun v0 _ r0=>db fun v44 Nj=>bh (⟨rfl,lq (k:=4) (i:=45) (by decide) (s:=sy 3) rfl r0 hJ Nj rfl rfl rfl rfl⟩))<|Um [[]] [.c (cB 117) fun g _=>eZ 10 g] (by kernel_rfl) rfl<|bA (cW (js:=[(46,64)]) (by kernel_rfl) rfl fun _ g2 _ _ _ _=>c_ rfl (bh (ku [(fK 10)] rfl rfl rfl rfl rfl (by decide) (by kernel_rfl))))<|Um [[]] [.c (cB 117) fun g _=>eZ 10 g] (by kernel_rfl) rfl<|bA (cW (js:=[(48,66)]) (by kernel_rfl) rfl fun _ g2 _ _ _ _=>c_ rfl (bh (ku [(fK 10)] rfl rfl rfl rfl rfl (by decide) (by kernel_rfl))))<|bA (cW (js:=[(47,65),(49,67)]) (by kernel_rfl) rfl fun _ g2 _ _ hle _=>db fun v47 Z2=>db fun v49 Z3=>bh (nA (sy 4) rfl rfl rfl rfl Z2 Z3))<|bA (jW (js:=[(0,22),(50,68)]) (by kernel_rfl) rfl fun ρ g2 _ _ _ _ hJ=>gT rfl fun v0 _ r0=>db fun v50 Z4=>bh (⟨rfl,lq (k:=5) (i:=51) (by decide) (s:=sy 4) rfl r0 hJ Z4 rfl rfl rfl rfl⟩))<|Um [[]] [] (by kernel_rfl) rfl<|bA (cW (js:=[]) (by kernel_rfl) rfl fun _ g2 _ _ _ _=>bh (kx (cB 130) rfl rfl rfl rfl rfl (xL g2)))<|Um [[]] [] (by kernel_rfl) rfl<|bA (cW (js:=[]) (by kernel_rfl) rfl fun _ g2 _ _ _ _=>bh (kx (cB 131) rfl rfl rfl rfl rfl (xM g2)))<|bA (cW (js:=[(52,69),(53,70),(54,71),(55,72)]) (by kernel_rfl) rfl fun _ g2 _ _ hle _=>c_ rfl (ny rfl fun _ _ Z5=>c_ rfl (ny rfl fun _ _ Z6=>bh (pB [pf,gg,xg,jf] rfl rfl rfl rfl rfl (by decide) (by kernel_rfl) ⟨[_],_,rfl,⟨_,rfl,(aE.mono (qM.trans hle))⟩,⟨[_],_,rfl,⟨_,rfl,Z5⟩,⟨[_],_,rfl,⟨_,rfl,(bB.mono (qM.trans hle))⟩,⟨[_],_,rfl,⟨_,rfl,Z6⟩,rfl⟩⟩⟩⟩))))<|bA (cW (js:=[(56,73)]) (by kernel_rfl) rfl fun _ g2 _ _ _ _=>db fun Z7 Z8=>bh (kx (cB 129) rfl rfl rfl rfl rfl (tv Z7 _ g2 Z8 (by decide))))<|Um [[]] [] (by kernel_rfl) rfl<|bA (cW (js:=[(57,74),(58,75)]) (by kernel_rfl) rfl fun _ g2 _ _ hle _=>db fun v57 Z9=>c_ rfl (bh (nA (sy 5) rfl rfl rfl rfl Z9 (aE.mono (qM.trans hle)))))<|bA (jW (js:=[(0,22),(59,76)]) (by kernel_rfl) rfl fun ρ g2 _ _ _ _ hJ=>gT rfl fun v0 _ r0=>db fun v59 Z_=>bh (⟨rfl,lq (k:=6) (i:=60) (by decide) (s:=sy 5) rfl r0 hJ Z_ rfl rfl rfl rfl⟩))<|Um [[],[]] [] (by kernel_rfl) rfl<|bA (cW (js:=[]) (by kernel_rfl) rfl fun _ g2 _ _ _ _=>bh (kx (cB 131) rfl rfl rfl rfl rfl (xM g2)))<|Um [[]] [.e aq 0] (by kernel_rfl) rfl<|bA (cW (js:=[(64,80)]) (by kernel_rfl) rfl fun _ g2 _ _ _ _=>c_ rfl (bh (ku [vn] rfl rfl rfl rfl rfl (by decide) (by kernel_rfl))))<|bA (cW (js:=[(61,77),(62,78),(63,79),(65,81)]) (by kernel_rfl) rfl fun _ g2 _ _ hle _=>c_ rfl (c_ rfl (ny rfl fun _ _ GM=>ny rfl fun _ _ Z'=>bh (pB [pf,qq,jf,[vn]] rfl rfl rfl rfl rfl (by decide) (by kernel_rfl) ⟨[_],_,rfl,⟨_,rfl,(aE.mono (qM.trans hle))⟩,⟨[_],_,rfl,⟨_,rfl,(bV.mono (qM.trans hle))⟩,⟨[_],_,rfl,⟨_,rfl,GM⟩,⟨[_],_,rfl,⟨_,rfl,Z'⟩,rfl⟩⟩⟩⟩))))<|bA (cW (js:=[(66,82)]) (by kernel_rfl) rfl fun _ g2 _ _ _ _=>db fun iI h66=>bh (kx (cB 129) rfl rfl rfl rfl rfl (tv iI _ g2 h66 (by decide))))<|Um [[]] [] (by kernel_rfl) rfl<|bA (cW (js:=[(67,83),(68,84)]) (by kernel_rfl) rfl fun _ g2 _ _ hle _=>db fun v67 h67=>c_ rfl (bh (nA (sy 6) rfl rfl rfl rfl h67 (aE.mono (qM.trans hle)))))<|bA (jW (js:=[(0,22),(69,85)]) (by kernel_rfl) rfl fun ρ g2 _ _ _ _ hJ=>gT rfl fun v0 _ r0=>db fun v69 h69=>bh (⟨rfl,lq (k:=7) (i:=70) (by decide) (s:=sy 6) rfl r0 hJ h69 rfl rfl rfl rfl⟩))<|Um [[],[],[]] [.c (cB 117) fun g _=>eZ 8 g,.e aq 0,.c (cB 133) fun g _=>pA g] (by kernel_rfl) rfl<|bA (cW (js:=[(71,86),(72,87),(73,88)]) (by kernel_rfl) rfl fun _ g2 _ _ _ _=>c_ rfl (c_ rfl (c_ rfl (bh (ku [(fK 8),vn,fB] rfl rfl rfl rfl rfl (by decide) (by kernel_rfl))))))<|Um [[],[]] [.c (cB 117) fun g _=>eZ 8 g,.e aq 0] (by kernel_rfl) rfl<|bA (cW (js:=[(75,90),(76,91)]) (by kernel_rfl) rfl fun _ g2 _ _ _ _=>c_ rfl (c_ rfl (bh (ku [(fK 8),vn] rfl rfl rfl rfl rfl (by decide) (by kernel_rfl)))))<|bA (cW (js:=[(74,89),(77,92)]) (by kernel_rfl) rfl fun _ g2 _ _ hle _=>db fun v74 h74=>db fun v77 UZ=>bh (nA (sy 7) rfl rfl rfl rfl h74 UZ))<|bA (jW (js:=[(0,22),(78,93)]) (by kernel_rfl) rfl fun ρ g2 _ _ _ _ hJ=>gT rfl fun v0 _ r0=>db fun v78 U7=>bh (⟨rfl,lq (k:=8) (i:=79) (by decide) (s:=sy 7) rfl r0 hJ U7 rfl rfl rfl rfl⟩))<|Um [[]] [] (by kernel_rfl) rfl<|bA (cW (js:=[]) (by kernel_rfl) rfl fun _ g2 _ _ _ _=>bh (kx (cB 130) rfl rfl rfl rfl rfl (xL g2)))<|Um [[]] [.c (cB 133) fun g _=>pA g] (by kernel_rfl) rfl<|bA (cW (js:=[(82,96)]) (by kernel_rfl) rfl fun _ g2 _ _ _ _=>c_ rfl (bh (ku [fB] rfl rfl rfl rfl rfl (by decide) (by kernel_rfl))))<|bA (cW (js:=[(80,94),(81,95),(83,97)]) (by kernel_rfl) rfl fun _ g2 _ _ hle _=>c_ rfl (ny rfl fun _ _ WA=>ny rfl fun _ _ YT=>bh (pB [pf,gg,[fB]] rfl rfl rfl rfl rfl (by decide) (by kernel_rfl) ⟨[_],_,rfl,⟨_,rfl,(aE.mono (qM.trans hle))⟩,⟨[_],_,rfl,⟨_,rfl,WA⟩,⟨[_],_,rfl,⟨_,rfl,YT⟩,rfl⟩⟩⟩)))<|bA (cW (js:=[(84,98)]) (by kernel_rfl) rfl fun _ g2 _ _ _ _=>db fun v84 h84=>bh (kx (cB 129) rfl rfl rfl rfl rfl (tv v84 _ g2 h84 (by decide))))<|Um [[]] [] (by kernel_rfl) rfl<|bA (cW (js:=[(85,99),(86,100)]) (by kernel_rfl) rfl fun _ g2 _ _ hle _=>db fun v85 h85=>c_ rfl (bh (nA (sy 8) rfl rfl rfl rfl h85 (aE.mono (qM.trans hle)))))<|bA (jW (js:=[(0,22),(87,101)]) (by kernel_rfl) rfl fun ρ g2 _ _ _ _ hJ=>gT rfl fun v0 _ r0=>db fun v87 h87=>bh (⟨rfl,lq (k:=9) (i:=88) (by decide) (s:=sy 8) rfl r0 hJ h87 rfl rfl rfl rfl⟩))<|Um [[],[],[]] [.c (cB 117) fun g _=>eZ 14 g,.c (cB 133) fun g _=>pA g,.e aB 0] (by kernel_rfl) rfl<|bA (cW (js:=[(89,102),(90,103),(91,104)]) (by kernel_rfl) rfl fun _ g2 _ _ _ _=>c_ rfl (c_ rfl (c_ rfl (bh (ku [(fK 14),fB,BL] rfl rfl rfl rfl rfl (by decide) (by kernel_rfl))))))<|Um [[],[]] [.c (cB 117) fun g _=>eZ 14 g,.c (cB 133) fun g _=>pA g] (by kernel_rfl) rfl<|bA (cW (js:=[(93,106),(94,107)]) (by kernel_rfl) rfl fun _ g2 _ _ _ _=>c_ rfl (c_ rfl (bh (ku [(fK 14),fB] rfl rfl rfl rfl rfl (by decide) (by kernel_rfl)))))<|bA (cW (js:=[(92,105),(95,108)]) (by kernel_rfl) rfl fun _ g2 _ _ hle _=>db fun v92 h92=>db fun v95 h95=>bh (nA (sy 9) rfl rfl rfl rfl h92 h95))<|bA (jW (js:=[(0,22),(96,109)]) (by kernel_rfl) rfl fun ρ g2 _ _ _ _ hJ=>gT rfl fun v0 _ r0=>db fun v96 h96=>bh (⟨rfl,lq (k:=10) (i:=97) (by decide) (s:=sy 9) rfl r0 hJ h96 rfl rfl rfl rfl⟩))<|Um [[]] [] (by kernel_rfl) rfl<|bA (cW (js:=[]) (by kernel_rfl) rfl fun _ g2 _ _ _ _=>bh (kx (cB 130) rfl rfl rfl rfl rfl (xL g2)))<|bA (cW (js:=[]) (by kernel_rfl) rfl fun _ g2 _ _ _ _=>bh (kx (cB 131) rfl rfl rfl rfl rfl (xM g2)))<|bA (cW (js:=[(98,110),(99,111),(100,112)]) (by kernel_rfl) rfl fun _ g2 _ _ hle _=>c_ rfl (ny rfl fun _ _ h99=>ny rfl fun _ _ VJ=>bh (pB [pf,gg,jf] rfl rfl rfl rfl rfl (by decide) (by kernel_rfl) ⟨[_],_,rfl,⟨_,rfl,(aE.mono (qM.trans hle))⟩,⟨[_],_,rfl,⟨_,rfl,h99⟩,⟨[_],_,rfl,⟨_,rfl,VJ⟩,rfl⟩⟩⟩)))<|bA (cW (js:=[(101,113)]) (by kernel_rfl) rfl fun _ g2 _ _ _ _=>db fun VK VL=>bh (kx (cB 129) rfl rfl rfl rfl rfl (tv VK _ g2 VL (by decide))))<|Um [[]] [] (by kernel_rfl) rfl<|bA (cW (js:=[(102,114),(103,115)]) (by kernel_rfl) rfl fun _ g2 _ _ hle _=>db fun aaa VM=>c_ rfl (bh (nA (sy 10) rfl rfl rfl rfl VM (aE.mono (qM.trans hle)))))<|bA (jW (js:=[(0,22),(104,116)]) (by kernel_rfl) rfl fun ρ g2 _ _ _ _ hJ=>gT rfl fun v0 _ r0=>db fun aab VN=>bh (⟨rfl,lq (k:=11) (i:=105) (by decide) (s:=sy 10) rfl r0 hJ VN rfl rfl rfl rfl⟩))<|AT
 intro ρ g3 hle hJ dW;refine gT rfl fun v _ hr=>bh ?_;obtain⟨b,cP,g4,h1,h2,hs,_,hM,hS⟩:=Nh hJ dW;rw[hr]at h1;obtain rfl:=aax h1;rw[←h2];exact aF rfl<|au (cg rfl hs ⟨_,_,rfl,hM,hS⟩)
end Go.Proofs.YtkpojaffabjibaaGreatDoor
namespace Go.K
open Go Go.RowKit
variable {F:Fence} {P:Program} {N:Nat} {ds:List Deferred} {Q:Exit→Act→World→Prop} {l:Env} {o:Oper} {g0 g g':G} {L:List dc} {ρ:Nat→Option Value}
def EY(g0:G)(L:List dc)(T:TypeId)(zero:List Value)(C:List Value→G→Prop)(ia wW:Nat)(ρ:Nat→Option Value)(g:G):Prop:=
 match ρ ia with
 |none=>St g0 g L
 |some v=> ∃b,v=vP b∧
  match ρ wW with
  |none=>St g0 g (vO b zero T::L)
  |some _=> ∃cs,St g0 g (vO b cs T::L)∧C cs g
theorem Dl{T:TypeId}{zero:List Value}{C:List Value→G→Prop}{ia wW:Nat}(hC: ∀cs g g',g.le g'→C cs g→C cs g')(ρ:Nat→Option Value)(g g':G)(hf:bW g g')(h:EY g0 L T zero C ia wW ρ g):EY g0 L T zero C ia wW ρ g':=by
 unfold EY at h⊢;cases h1:ρ ia with
 |none=>rw[h1]at h;exact h.call hf
 |some v=>
  rw[h1]at h;obtain⟨b,e,h⟩:=h;refine⟨b,e,?_⟩;cases h2:ρ wW with
  |none=>rw[h2]at h;exact h.call hf
  |some u=>
   rw[h2]at h;obtain⟨cs,h3,h4⟩:=h;exact⟨cs,h3.call hf,hC _ _ _ hf.le h4⟩
theorem OZ{T:TypeId}{zero:List Value}{C:List Value→G→Prop}{ia wW:Nat}(hs:St g0 g L):EY g0 L T zero C ia wW (fun _=>none) g:=hs
theorem AV{T:TypeId}{zero:List Value}{C:List Value→G→Prop}{ia wW:Nat}{ti:TI}[eE P](fL:Nat.beq wW ia=false)(h1:ρ ia=none)(h2:ρ wW=none)(hJ:EY g0 L T zero C ia wW ρ g)(ho:o.op= .alloc T)(hi:tl (eE.tb P) T=some ti)(hz:ti.zero.cells=zero.toArray):
  cQ F P N ds o l g.w Q fun v w'=> ∃ez,ez.w=w'∧(g.le ez∧EY g0 L T zero C ia wW (uB ρ ia v) ez)∧Fact.any.p v ez:=by
 unfold EY at hJ;rw[h1]at hJ;refine ik eE.ok ho hJ hi hz fun b g' hs hle=>⟨g',rfl,⟨hle,?_⟩,trivial⟩
 unfold EY;have e1:uB ρ ia (vP b) ia=some (vP b):=if_pos rfl;have e2:uB ρ ia (vP b) wW=none:=by unfold uB;rw[if_neg (fun e=>by subst e;simp at fL)];exact h2
 rw[e1];refine⟨b,rfl,?_⟩;rw[e2];exact hs
theorem AW{T:TypeId}{zero:List Value}{C:List Value→G→Prop}{ia wW:Nat}{ti:TI}[eE P](hC: ∀cs g g',g.le g'→C cs g→C cs g')(fL:Nat.beq wW ia=false){p:Value}(h1:ρ ia=some p)(h2:ρ wW=none)(hJ:EY g0 L T zero C ia wW ρ g){x y:Operand}{v:Value}(ho:o.op= .store T x y)(hx:ev l x=some p)(hy:ev l y=some v)
  (hi:tl (eE.tb P) T=some ti) (cs:List Value) (hc:v.cells=cs.toArray) (hl:cs.length=ti.size) (hz:zero.length=ti.size) (tu:cs.all Value.oneCell'=true) (hk:C cs g):
  cQ F P N ds o l g.w Q fun v w'=> ∃ez,ez.w=w'∧(g.le ez∧EY g0 L T zero C ia wW (uB ρ wW v) ez)∧Fact.any.p v ez:=by
 unfold EY at hJ;rw[h1]at hJ;obtain⟨b,rfl,hJ⟩:=hJ;rw[h2]at hJ;have th:nY zero 0 cs=cs:=by unfold nY;simp[hl,←hz]
 refine eT eE.ok 0 ho hJ rfl hx hy hi hc hl tu (acv (by omega)) rfl fun g' hs hle=>⟨g',rfl,⟨hle,?_⟩,trivial⟩
 unfold EY;have e1: ∀u,uB ρ wW u ia=some (vP b):=fun u=>by unfold uB;rw[if_neg (fun e=>by subst e;simp at fL)];exact h1
 have e2: ∀u,uB ρ wW u wW=some u:=fun u=>if_pos rfl;rw[e1];refine⟨b,rfl,?_⟩;rw[e2];refine⟨cs,?_,hC _ _ _ hle hk⟩;rw[th]at hs;exact hs
theorem GN{T:TypeId}{zero:List Value}{C:List Value→G→Prop}{ia wW:Nat}{p:Value}(h1:ρ ia=some p)(h2:ρ wW≠none)(hJ:EY g0 L T zero C ia wW ρ g): ∃b cs,p=vP b∧St g0 g (vO b cs T::L)∧C cs g:=by
 unfold EY at hJ;rw[h1]at hJ;obtain⟨b,e,hJ⟩:=hJ;cases hr:ρ wW with
 |none=>exact absurd hr h2
 |some u=>rw[hr]at hJ;obtain⟨cs,h3,h4⟩:=hJ;exact⟨b,cs,e,h3,h4⟩
end Go.K
namespace Go.Proofs.YtkpojaffabjibaaGreatDoor
open Go Go.K Tryz
attribute [local irreducible] W WL cQ aP bG aR aQ aS cK ct
set_option maxRecDepth 10000
theorem vp{F:Fence}{P:Program}{N:Nat}{ds:List Deferred}{l:Env}{w:World}{Q:Exit→Act→World→Prop}{o:Oper}{K:Value→World→Prop}{t t':TypeId}{x y:Operand}{neg b:Bool}{xs ys:Array Value}(ho:o.op= .binOp (if neg then .neq else .eql) t x y t')(hx:ev l x=some (.agg xs))(hy:ev l y=some (.agg ys))
  (hg:P.eqGuardType P.depth t=false) (he:(Op.equal t (.agg xs) (.agg ys)).run P w= .ok b w) (k:K (.bool (neg !=b)) w):cQ F P N ds o l w Q K:=by
 refine bC (fun c=>⟨by rw[ho];simp,by rw[ho];simp⟩) (fun a ha=>?_) k;have hq: ∀op,(eqGuard op t x y (.agg xs) (.agg ys)).run P w= .ok () w:=fun op=>by unfold eqGuard;split<;>simp[hg]
 have HD:(Op.equalIn 10000 t (.agg xs) (.agg ys)).run P w= .ok b w:=he;cases neg<;>simp[execOp,ho,ha.ev hx,ha.ev hy,hq,run_eql_struct,run_neq_struct,HD]
def xD(P:Program)(d:Nat)(xs ys:Array Value)(p:Bool×TypeId×Nat)(r:Bool):Prop:=
 p.1=false∧ ∀w,∃x y,(part p.2.1 xs p.2.2).run P w= .ok x w∧(part p.2.1 ys p.2.2).run P w= .ok y w∧(Op.equalIn d p.2.1 x y).run P w= .ok r w
def CW(P:Program)(d:Nat)(xs ys:Array Value):List (Bool×TypeId×Nat)→List Bool→Prop
 |[],[]=>True
 |p::ps,r::rs=>xD P d xs ys p r∧CW P d xs ys ps rs
 |_,_=>False
theorem uo{P:Program}{d:Nat}{xs ys:Array Value}(w:World): ∀(fs:List Field) (ps:List (Bool×TypeId×Nat)) (rs:List Bool),fs.map (fun f=>(f.name== "_",f.type,f.offset))=ps→CW P d xs ys ps rs→(Op.eqFields d xs ys fs).run P w= .ok (rs.all id) w
 |[],ps,rs,h,hq=>by
  subst h;cases rs with
  |nil=>simp[Op.eqFields]
  |cons r rs=>exact hq.elim
 |f::fs,ps,rs,h,hq=>by
  subst h;cases rs with
  |nil=>exact hq.elim
  |cons r rs=>
   obtain⟨⟨h1,h2⟩,h3⟩:=hq;obtain⟨x,y,e1,e2,e3⟩:=h2 w;have ih:=uo w fs _ rs rfl h3;have hn:f.name≠ "_":=by simpa using h1
   simp only[Op.eqFields,hn,ne_eq,not_false_eq_true,if_true,aaE];rw[e1];simp only[aaH];rw[e2];simp only[aaH];rw[e3];simp only[aaH];cases r with
   |false=>simp
   |true=>simpa using ih
theorem qw(xs ys:Array Value)(i:Nat){a b:Int}(h1:xs[i]? =some (vI a))(h2:ys[i]? =some (vI b)):xD prog 9999 xs ys (false,3,i) (a==b):=
 ⟨rfl,fun w=>⟨.int .i64 a,vI b,by simp[part,kF T.ok (show tl T 3=some _ from rfl),xh,h1],by simp[part,kF T.ok (show tl T 3=some _ from rfl),xh,h2],run_equalIn_int w 9998 3 .i64 .i64 a b (by kernel_rfl)⟩⟩
theorem RZ(xs ys:Array Value)(i:Nat){a b:Bool}(h1:xs[i]? =some (.bool a))(h2:ys[i]? =some (.bool b)):xD prog 9999 xs ys (false,4,i) (a==b):=
 ⟨rfl,fun w=>⟨.bool a,.bool b,by simp[part,kF T.ok (show tl T 4=some _ from rfl),xh,h1],by simp[part,kF T.ok (show tl T 4=some _ from rfl),xh,h2],run_equalIn_bool' w 9998 4 a b (by kernel_rfl)⟩⟩
theorem Vm(xs ys:Array Value)(i:Nat){a b:List UInt8}(h1:xs[i]? =some (.string (bs a)))(h2:ys[i]? =some (.string (bs b))):xD prog 9999 xs ys (false,9,i) (a==b):=
 ⟨rfl,fun w=>⟨.string (bs a),.string (bs b),by simp[part,kF T.ok (show tl T 9=some _ from rfl),xh,h1],by simp[part,kF T.ok (show tl T 9=some _ from rfl),xh,h2],by
  rw[run_equalIn_string w 9998 9 (bs a) (bs b) (by kernel_rfl),cH,cH]⟩⟩
theorem XZ(f h:bc)(w:World):(Op.equal 50 (fv f) (fv h)).run prog w= .ok (decide (f=h)) w:=by show(Op.equalIn (9999+1) _ _ _).run _ _=_;rw[run_equalIn_struct w 9999 _ _ _ (by kernel_rfl) (by kernel_rfl)];rw[uo w _ _ [f.kind==h.kind,f.idn==h.idn,f.ver==h.ver,f.day==h.day,f.gone==h.gone,f.time==h.time,f.til==h.til,f.waf==h.waf,f.oth==h.oth,f.lot==h.lot,f.prod==h.prod,f.tool==h.tool,f.cham==h.cham,f.step==h.step,f.rcp==h.rcp,f.rvn==h.rvn,f.val==h.val,f.par==h.par,f.text==h.text] (by kernel_rfl:_=[(false,3,0),(false,3,1),(false,3,2),(false,3,3),(false,4,4),(false,3,5),(false,3,6),(false,3,7),(false,3,8),(false,3,9),(false,3,10),(false,3,11),(false,3,12),(false,3,13),(false,3,14),(false,3,15),(false,3,16),(false,3,17),(false,9,18)]) ⟨qw _ _ 0 rfl rfl,qw _ _ 1 rfl rfl,qw _ _ 2 rfl rfl,qw _ _ 3 rfl rfl,RZ _ _ 4 rfl rfl,qw _ _ 5 rfl rfl,qw _ _ 6 rfl rfl,qw _ _ 7 rfl rfl,qw _ _ 8 rfl rfl,qw _ _ 9 rfl rfl,qw _ _ 10 rfl rfl,qw _ _ 11 rfl rfl,qw _ _ 12 rfl rfl,qw _ _ 13 rfl rfl,qw _ _ 14 rfl rfl,qw _ _ 15 rfl rfl,qw _ _ 16 rfl rfl,qw _ _ 17 rfl rfl,Vm _ _ 18 rfl rfl,trivial⟩];congr 1;rw[acD];obtain⟨a0,a1,a2,a3,a4,a5,a6,a7,a8,a9,Mw,Zu,a12,Zv,X0,I6,a16,a17,a18⟩:=f;obtain⟨b0,b1,b2,b3,b4,b5,b6,b7,b8,b9,PG,zX,Mx,Vn,PH,b15,X3,Zw,b18⟩:=h;simp[bc.mk.injEq]
set_option maxHeartbeats 8000000
def J5:List Value:=[.slice none 0 0,.slice none 0 0,.nilFunc,.bool false]
def tz(s? :Option EJ)(cs:List Value)(g:G):Prop:=match s? with
 |some s=> ∃a b,cs=[a,b,.func (.func (MC s.rest)) #[] #[],.bool s.kT]∧Rs g a s.fields∧Rs g b s.key
 |none=>cs=J5
theorem tz.mono{s? :Option EJ}(cs:List Value)(g g':G)(hle:g.le g')(h:tz s? cs g):tz s? cs g':=by
 unfold tz at h⊢;cases s? with
 |none=>exact h
 |some s=>obtain⟨a,b,e,h1,h2⟩:=h;exact⟨a,b,e,h1.mono hle,h2.mono hle⟩
theorem tz.len{s? :Option EJ}{cs:List Value}{g:G}(h:tz s? cs g):cs.length=4∧cs.all Value.oneCell'=true:=by
 unfold tz at h;cases s? with
 |none=>obtain rfl:cs=J5:=h;exact⟨rfl,rfl⟩
 |some s=>
  obtain⟨a,b,rfl,h1,h2⟩:=h;obtain⟨_,_,rfl⟩:=h1.isSlice;obtain⟨_,_,rfl⟩:=h2.isSlice;exact⟨rfl,rfl⟩
def Nk:Fact:=⟨fun v g=> ∃b cP,v= .map (some b)∧Fs g b cP∧Ng g cP,fun v g g' hf ⟨b,cP,e,h1,h2⟩=>⟨b,cP,e,h1.mono hf.le,fun k=>by
 have:=h2 k;cases hk:eD k with
 |none=>rw[hk]at this;exact this
 |some s=>rw[hk]at this;obtain⟨v,e,h⟩:=this;exact⟨v,e,h.mono hf.le⟩⟩⟩
theorem AU:xq Nk:=fun v g g' hle ⟨b,cP,e,h1,h2⟩=>⟨b,cP,e,h1.mono hle,fun k=>by
 have:=h2 k;cases hk:eD k with
 |none=>rw[hk]at this;exact this
 |some s=>rw[hk]at this;obtain⟨v,e,h⟩:=this;exact⟨v,e,h.mono hle⟩⟩
def HW(s? :Option EJ)(w:Value→Value):Fact:=⟨fun v g=> ∃cs,v=w (.agg cs.toArray)∧tz s? cs g,by rintro v g g' hf ⟨cs,e,h⟩;exact⟨cs,e,h.mono _ _ _ hf.le⟩⟩
theorem rQ(s? :Option EJ)(w:Value→Value):xq (HW s? w):=by rintro v g g' hle ⟨cs,e,h⟩;exact⟨cs,e,h.mono _ _ _ hle⟩
theorem B3{N:Nat}{ds:List Deferred}{Q:Exit→Act→World→Prop}{g:G}{o:Oper}{l:Env}{K:Value→World→Prop}{m kk:Operand}{ok:Bool}{b:Nat}{cP:List (Int×Value)}{k:Int}(ho:o.op= .lookup 116 m kk ok)(hm:Fs g b cP)(hS:Ng g cP)
  (h1:ev l m=some (.map (some b))) (h2:ev l kk=some (vI k)) (kq: ∀cs,tz (eD k) cs g→K (if ok then .tuple #[.agg cs.toArray,.bool (eD k).isSome]else .agg cs.toArray) g.w):cQ Wd prog N ds o l g.w Q K:=by
 refine pC (κ:=Int) (a:=k) (Fq T.ok rfl rfl rfl rfl rfl) ho hm.2 h1 h2 ?_;have:=hS k;cases hk:eD k with
 |none=>
  rw[hk]at this kq;simp only at this;rw[this];exact kq J5 rfl
 |some s=>
  rw[hk]at this kq;obtain⟨v,e,a,b,rfl,hr⟩:=this;rw[e];exact kq _ ⟨a,b,rfl,hr⟩
theorem Qb(r:Nat)(f:bc)(g:G):cN prog (MC r) #[fv f] g fun _ v=>v= .bool (um r f):=
 match r with
 |0=>GL f g
 |1=>J0 f g
 |2=>Nf f g
 |_+3=>GL f g
theorem Nl: ∀r:Nat,cS prog (MC r)
 |0=>(cB 134)
 |1=>(cB 132)
 |2=>(cB 121)
 |_+3=>(cB 134)
theorem B4{k:Nat}(hk:nR k)(f:bc):Ad T 3 (bK f) k=some (vI (f.num k)):=by rcases hk with rfl|rfl|rfl|rfl|rfl|rfl|rfl|rfl|rfl|rfl|rfl|rfl|rfl|rfl<;>rfl
theorem J6{k:Nat}(hk:nR k)(f:bc)(n:Int):nY (bK f) k [vI n]=bK (f.put k n)∧k<19:=by rcases hk with rfl|rfl|rfl|rfl|rfl|rfl|rfl|rfl|rfl|rfl|rfl|rfl|rfl|rfl<;>exact⟨rfl,by decide⟩
theorem pv{k:Int}{s:EJ}(h:eD k=some s):(∀x∈s.fields,nR x.at_)∧ ∀x∈s.key,nR x.at_:=by
 unfold eD at h;split at h
 ·cases h
 have hm:=abm h;have: ∀s∈pj,(∀x∈s.fields,nR x.at_)∧ ∀x∈s.key,nR x.at_:=by unfold nR;decide
 exact this s hm
theorem wD(x:mi)(l:List mi)(f:bc):pk (x::l) f=if(decide (f.num x.at_<x.lo)||decide (x.hi<f.num x.at_))=true then none else pk l (f.put x.at_ 0):=rfl
theorem Dk(f:bc)(g:G):cN prog 53 #[fv f] g fun _ r=>r= .bool (gD f):=by
 have hs:=St.start g;have aj:=G.le.refl g;refine enter func53 rfl ntmps53 rfl<|cO<|nX hs rfl fun bf g1 hs ag=>aF rfl<|ak ?_;obtain⟨g2,fm,dm,ag,aK⟩:=hs.fM (i:=0) rfl;replace hs:=dm;clear dm;rw[←fm];have aq:=aK;clear aK;apply oU (.f Nk::(eA (.f (HW (eD f.kind) fun u=> .tuple #[u,.bool (eD f.kind).isSome]):: .f (HW (eD f.kind) fun u=> .tuple #[u,.bool (eD f.kind).isSome]):: .f (HW (eD f.kind) id)::(fe (.f Fact.any:: .f Fact.any::[]))))) 9 [(7,3),(6,15)] [7,8] [[],[7]] (EY g [] 115 J5 (tz (eD f.kind)) 7 8) (Dl tz.mono) (OZ hs.dr) (by kernel_rfl) ⟨AU,rQ _ _,rQ _ _,rQ _ _,dw,dw,trivial⟩
 ·refine bA (cW (js:=[]) (by kernel_rfl) rfl fun _ g2 _ _ _ _=>bh (ay rfl (bu (cB 57) bJ rfl rfl rfl rfl rfl (yG g2) fun g' v hf ⟨b,cP,e,h1,h2⟩=>⟨g',rfl,hf,b,cP,e,h1,h2⟩)))<|Um [[],[1]] [.e aq 0] (by kernel_rfl) rfl<|bA (cW (js:=[(0,10),(2,12)]) (by kernel_rfl) rfl fun _ g2 _ _ _ _=>db fun v0 h0=>c_ rfl (bh ?_)) ?_
  ·obtain⟨b,cP,rfl,h1,h2⟩:=h0;exact ay rfl (B3 rfl h1 h2 rfl rfl fun cs h=>⟨g2,rfl,bW.refl _,cs,rfl,h⟩)
  refine bA (cW (js:=[(3,13)]) (by kernel_rfl) rfl fun _ g2 _ _ _ _=>db fun v3 h3=>bh ?_) ?_
  ·obtain⟨cs,rfl,h⟩:=h3;exact ay rfl (bR _ T.ok rfl ⟨g2,rfl,bW.refl _,cs,rfl,h⟩)
  refine bA (cW (js:=[(4,9)]) (by kernel_rfl) rfl fun _ g2 _ _ _ _=>db fun v3 h3=>bh ?_) ?_
  ·obtain⟨cs,rfl,h⟩:=h3;exact ay rfl (bR _ T.ok rfl ⟨g2,rfl,bW.refl _,cs,rfl,h⟩)
  refine bA (cW (js:=[(4,9)]) (by kernel_rfl) rfl fun _ g2 _ _ _ _=>db fun v3 h3=>bh ?_) ?_
  ·obtain⟨cs,rfl,h⟩:=h3;exact ay rfl (bR _ T.ok rfl ⟨g2,rfl,bW.refl _,rfl⟩)
  refine bA (jW (js:=[]) (by kernel_rfl) rfl fun ρ g2 h1 _ h3 _ hJ=>bh ⟨rfl,AV rfl h3 (h1 1 [7] 8 rfl rfl (by simp)) hJ rfl rfl rfl⟩)<|bA (jW (js:=[(7,3),(5,14),(5,14),(7,3)]) (by kernel_rfl) rfl fun ρ g2 _ _ h3 _ hJ=>db fun _ _=>db fun _ _=>db fun v5 h5=>gT rfl fun v7 _ r7=>bh ⟨rfl,?_⟩) ?_
  ·obtain⟨cs,rfl,h⟩:=h5;exact AW tz.mono rfl r7 h3 hJ rfl rfl rfl rfl cs rfl h.len.1 rfl h.len.2 h
  exact AT
 intro ρ g3 hle hJ dW;refine gT rfl fun v7 _ r7=>c_ rfl (bh ?_);obtain⟨b3,cs,rfl,hs,hO⟩:=GN r7 (dW 8 rfl) hJ;clear hJ dW r7;have ag:=(G.a_ _).trans hle;replace aq:=aq.mono ag;clear hle ρ;refine aF rfl<|ak<|ck 3 rfl ?_;cases qL:eD f.kind with
 |none=>
  refine aF rfl<|bZ rfl<|aD rfl<|au<|ec<|cg rfl hs ?_;unfold gD;rw[qL]
 |some s=>
  rw[qL]at hO;obtain⟨ka,kb,rfl,fg,ij⟩:=hO;obtain⟨fa,fc,rfl⟩:=fg.isSlice;refine dE 5 [.z aq] rfl<|cI (want:=false) (x:=decide (1000000<f.ver)) 3 bJ rfl rfl rfl rfl (.inr ⟨rfl,rfl,rfl⟩) rfl rfl rfl rfl (fun hb Q' fp=>?_) (fun g' hf=>?_)
  ·exact dE 3 [.z aq] rfl<|an<|fun a ha=>fp _ a (bW.refl _) (ha.kp rfl)
  replace hs:=hs.call hf;have ag:=hf.le;obtain⟨aq,fg⟩:=cA ag aq fg;refine Wp 1 rfl<|cI (want:=false) (x:=decide (f.day<0)) 3 bJ rfl rfl rfl rfl (.inr ⟨rfl,rfl,rfl⟩) rfl rfl rfl rfl (fun hb Q' fp=>?_) (fun g' hf=>?_)
  ·exact dE 3 [.z aq] rfl<|an<|fun a ha=>fp _ a (bW.refl _) (ha.kp rfl)
  replace hs:=hs.call hf;have ag:=hf.le;obtain⟨aq,fg⟩:=cA ag aq fg;refine Wp 1 rfl<|cI (want:=false) (x:=decide (100000<f.day)) 3 bJ rfl rfl rfl rfl (.inr ⟨rfl,rfl,rfl⟩) rfl rfl rfl rfl (fun hb Q' fp=>?_) (fun g' hf=>?_)
  ·exact dE 3 [.z aq] rfl<|an<|fun a ha=>fp _ a (bW.refl _) (ha.kp rfl)
  replace hs:=hs.call hf;have ag:=hf.le;obtain⟨aq,fg⟩:=cA ag aq fg;refine Wp 1 rfl<|cI (want:=false) (x:=decide (8192<((bs f.text).size:Int))) 4 bJ rfl rfl rfl rfl (.inr ⟨rfl,rfl,rfl⟩) rfl rfl rfl rfl (fun hb Q' fp=>?_) (fun g' hf=>?_)
  ·exact dE 4 [.z aq] rfl<|an<|fun a ha=>fp _ a (bW.refl _) (ha.kp rfl)
  replace hs:=hs.call hf;have ag:=hf.le;obtain⟨aq,fg⟩:=cA ag aq fg;refine Wp 1 rfl<|cI (want:=false) (x:=!um s.rest f) 5 bJ rfl rfl rfl rfl (.inr ⟨rfl,rfl,rfl⟩) rfl rfl rfl rfl (fun hb Q' fp=>?_) (fun g' hf=>?_)
  ·refine Wm 3 [.o 0,.z aq] hs rfl<|aN rfl rfl<|fF rfl rfl rfl rfl rfl rfl (dF (first:=#[]) (captured:=#[]) (args:=[fv f]) (Nl s.rest) rfl (Qb s.rest f _)) ?_;rintro g4 _ nN rfl;exact Wp 1 rfl<|an fun a ha=>fp g4 a nN (ha.kp rfl)
  replace hs:=hs.call hf;have ag:=hf.le;obtain⟨aq,fg⟩:=cA ag aq fg;apply bE;have cE:gD f=if(decide (f.ver<1)||decide (1000000<f.ver)||decide (f.day<0)||decide (100000<f.day)||decide (8192<(f.text.length:Int))|| !um s.rest f)=true then false
    else match pk s.fields f with
     |none=>false
     |some g=>decide ((if s.kT then {g with text:=[]}else g)=td f):=by simp only[gD,qL]<;>rfl
  by_cases hc:(decide (f.ver<1)||decide (1000000<f.ver)||decide (f.day<0)||decide (100000<f.day)||decide (8192<(f.text.length:Int))|| !um s.rest f)=true
  ·refine aG (b:=_) ?_ rfl ?_
   ·simpa [bX]using hc
   refine aD rfl<|au<|ec<|cg rfl hs ?_;rw[cE,if_pos hc]
  refine bg (b:=_) ?_ rfl ?_
  ·have O0:=abS.2 hc;simpa [bX]using O0
  rw[if_neg hc]at cE;clear hc;refine ar<|ai<|eO 1 [.z aq] rfl<|fA hs rfl fun bw g1 hs ag=>?_;obtain⟨aq,fg⟩:=cA ag aq fg;refine dC 0 hs rfl fun g1 hs ag=>?_;obtain⟨aq,fg⟩:=cA ag aq fg;refine bE<|ak<|Ja [.o 1] hs rfl<|aw ?_;have hs:St g g1 [vO bw (bK f) 50,.obj b3 (.cells #[.slice fa s.fields.length fc,kb,.func (.func (MC s.rest)) #[] #[],.bool s.kT] 115 (0,0))]:=hs;have Nn:=(pv qL).1;have hlen:=fg.ef;unfold maxLen at hlen;have VO:=fg;have UH:=aq;have cM:=G.le.refl g1
  refine aZ (fun m a' w=> ∃(k:Nat) (h:bc) (g':G),w=g'.w∧St g g' [vO bw (bK h) 50,.obj b3 (.cells #[.slice fa s.fields.length fc,kb,.func (.func (MC s.rest)) #[] #[],.bool s.kT] 115 (0,0))]∧G.le g1 g'∧
    k≤s.fields.length∧m=s.fields.length-k∧pk s.fields f=pk (s.fields.drop k) h∧
    Fr 93 [] [(1,vP bf),(3,vP b3),(5,vP bw),(53,.slice fa s.fields.length fc),(54,vI s.fields.length),(55,vI k)] a') s.fields.length
   (fun a' ha=>⟨0,f,g1,rfl,hs,cM,aar _,rfl,rfl,ha.kp rfl⟩) ?_
  clear hs cM fg aq;rintro m a' _ ⟨k,h,g',rfl,hs,cM,hk,rfl,dt,dT⟩;have fg:=VO.mono cM;have aq:=UH.mono cM;revert a';refine bT<|aD rfl<|ak ?_;by_cases aV:k<s.fields.length
  ·refine aG (b:=decide ((k:Int)<(s.fields.length:Int))) (by simp;omega) rfl ?_;have uD:=Nn _ (aaQ aV);have eI:=bM (n:=((k:Nat):Int)) rfl aV;rw[←List.getElem_cons_drop aV]at dt;rw[wD]at dt;generalize s.fields[k]=x at*;refine ar<|ai<|ak<|aw<|cO<|fP (y:=x) fg eI rfl ?_;rintro bq pq ys aK rfl;refine dE 1 [.e aK 0] rfl<|fA hs rfl fun bx g1 hs ag=>?_;obtain⟨cM,aq⟩:=cA ag cM aq;refine dC 0 hs rfl fun g1 hs ag=>?_;obtain⟨cM,aq⟩:=cA ag cM aq;refine bE<|jd 2 [.o 0] hs rfl<|aN rfl rfl<|fF rfl rfl rfl rfl rfl rfl (dF (first:=#[]) (captured:=#[]) (args:=[vP bw]) (JZ uD) rfl (OW uD bw _)) ?_;rintro g4 _ nN rfl;replace hs:=hs.call nN;have ag:=nN.le;obtain⟨cM,aq⟩:=cA ag cM aq;refine aF rfl<|ak<|ak ?_;by_cases zY:h.num x.at_<x.lo
   ·apply aO hs (cV (gR (eA []))) 14 [(13,75)] (by kernel_rfl) rfl
    ·exact jV [[],[0]] rfl<|aW [(1,63)] (fun gd hf=>cj rfl (ay rfl (cJ T.ok 1 rfl (hs.dr.call hf) rfl rfl (B4 uD h) ⟨_,rfl,bW.refl _,rfl⟩)))<|cY [[],[3]] [.o 0] hs rfl<|aW [(2,64),(4,66)] (fun gd hf=>bN rfl (ay rfl (bR _ T.ok rfl ⟨_,rfl,bW.refl _,congrArg Value.bool (decide_eq_true zY)⟩)))<|qo [[5],[6],[7,6],[8,6],[6],[10,6],[9,11,6],[6,12]] rfl
    clear hs;intro g5 hs ag;obtain⟨cM,aq⟩:=cA ag cM aq;refine bE<|bZ rfl<|aD rfl<|au<|ec<|iy<|ec<|ec<|iy<|ec<|cg rfl hs ?_;rw[cE,dt,if_pos (by simp[zY])]
   apply aO hs (cV (gR (eA []))) 14 [(13,75)] (by kernel_rfl) rfl
   ·exact jV [[],[0]] rfl<|aW [(1,63)] (fun gd hf=>cj rfl (ay rfl (cJ T.ok 1 rfl (hs.dr.call hf) rfl rfl (B4 uD h) ⟨_,rfl,bW.refl _,rfl⟩)))<|cY [[],[3]] [.o 0] hs rfl<|aW [(2,64),(4,66)] (fun gd hf=>bN rfl (ay rfl (bR _ T.ok rfl ⟨_,rfl,bW.refl _,congrArg Value.bool (decide_eq_false zY)⟩)))<|jV [[5],[6],[7,6]] rfl<|aW [(8,70),(6,68)] (fun gd hf=>bN rfl (ay rfl (cJ T.ok 1 rfl (hs.dr.call hf) rfl rfl (B4 uD h) ⟨_,rfl,bW.refl _,rfl⟩)))<|mX [[6],[10,6],[9,11,6],[6,12]] [.o 0] hs rfl
   clear hs;intro g5 hs ag;obtain⟨cM,aq⟩:=cA ag cM aq;apply bE;by_cases vk:x.hi<h.num x.at_
   ·refine aG (b:=decide (x.hi<h.num x.at_)) (decide_eq_true vk) rfl<|aD rfl<|au<|ec<|iy<|ec<|ec<|iy<|ec<|cg rfl hs ?_;rw[cE,dt,if_pos (by simp[vk])]
   refine bg (b:=decide (x.hi<h.num x.at_)) (decide_eq_false vk) rfl ?_;rw[if_neg (by simp[zY,vk])]at dt;refine ar<|ai<|ah<|Wp 2 rfl<|gw rfl<|eT T.ok 1 rfl hs rfl rfl rfl rfl rfl rfl rfl (acv (J6 uD h 0).2) (J6 uD h 0).1 fun g6 hs ag=>?_;obtain⟨cM,aq⟩:=cA ag cM aq;replace hs:=hs.drop 0;exact an<|aX<|ai<|ah<|Wp 2 rfl<|an<|fun a ha=>⟨s.fields.length-(k+1),by omega,k+1,h.put x.at_ 0,_,rfl,hs,cM,by omega,rfl,dt,ha.keep ⟨rfl,rfl,rfl,rfl,rfl,kW rfl,trivial⟩⟩
  refine bg (b:=decide ((k:Int)<(s.fields.length:Int))) (by simp;omega) rfl ?_;rw[abr (by omega)]at dt;rw[dt]at cE;have cE:gD f=decide ((if s.kT then {h with text:=[]}else h)=td f):=cE;refine aJ<|aM<|aM<|b_<|ai<|ak<|Ja [.o 1] hs rfl ?_
  cases ht:s.kT with
  |true=>
   refine bZ rfl<|ah<|Wp 1 rfl<|dC 0 hs rfl fun g1 hs ag=>?_;replace aq:=aq.mono ag;have hs:St g g1 [vO bw (bK {h with text:=[]}) 50,.obj b3 (.cells #[.slice fa s.fields.length fc,kb,.func (.func (MC s.rest)) #[] #[],.bool s.kT] 115 (0,0))]:=hs;refine bE<|jd 9 [.o 0,.z aq,.z aq,.z aq,.z aq] hs rfl<|hZ [(0,vI f.kind),(2,vI f.ver),(3,vI f.day),(4,.bool f.gone)] (bK (td f)) [(0,1),(1,1),(2,1),(3,1),(4,1),(5,1),(6,1),(7,1),(8,1),(9,1),(10,1),(11,1),(12,1),(13,1),(14,1),(15,1),(16,1),(17,1),(18,1)] rfl<|aN rfl rfl<|vp (neg:=false) rfl rfl rfl (by kernel_rfl) (XZ {h with text:=[]} (td f) _)<|aF rfl<|au<|cg rfl hs ?_;rw[cE,ht];simp
  |false=>
   refine bI rfl<|ar<|ai<|jd 9 [.o 0,.z aq,.z aq,.z aq,.z aq] hs rfl<|hZ [(0,vI f.kind),(2,vI f.ver),(3,vI f.day),(4,.bool f.gone)] (bK (td f)) [(0,1),(1,1),(2,1),(3,1),(4,1),(5,1),(6,1),(7,1),(8,1),(9,1),(10,1),(11,1),(12,1),(13,1),(14,1),(15,1),(16,1),(17,1),(18,1)] rfl<|aN rfl rfl<|vp (neg:=false) rfl rfl rfl (by kernel_rfl) (XZ h (td f) _)<|aF rfl<|au<|cg rfl hs ?_;rw[cE,ht];simp
theorem MR{i j:Nat}(hi:nR i)(hj:nR j)(f:bc)(n:Int):(f.put i n).num j=if j=i then n else f.num j:=by
 rcases hi with rfl|rfl|rfl|rfl|rfl|rfl|rfl|rfl|rfl|rfl|rfl|rfl|rfl|rfl<;>
 rcases hj with rfl|rfl|rfl|rfl|rfl|rfl|rfl|rfl|rfl|rfl|rfl|rfl|rfl|rfl<;>rfl
theorem uq: ∀(l:List mi) (f g:bc),(l.map (·.at_)).Nodup→(∀x∈l,nR x.at_)→pk l f=some g→ ∀x∈l,x.lo≤f.num x.at_∧f.num x.at_≤x.hi
 |[],_,_,_,_,_,x,hx=>by simp at hx
 |y::l,f,g,hn,hf,h,x,hx=>by
  rw[wD]at h;split at h
  ·cases h
  rename_i hc;simp only[abz,decide_eq_true_eq,not_or]at hc;simp only[aa8,acL]at hn;rcases aav.1 hx with rfl|hx
  ·omega
  have ih:=uq l _ _ hn.2 (fun z hz=>hf z (aaR _ hz)) h x hx;rw[MR (hf y (aaT ..)) (hf x (aaR _ hx)),if_neg (fun e=>hn.1 (by rw[←e];exact aaU.2 ⟨x,hx,rfl⟩))]at ih;exact ih
theorem qx{k:Int}{s:EJ}(h:eD k=some s):(s.fields.map (·.at_)).Nodup∧(∀x∈s.fields,-10000000≤x.lo∧x.hi≤10000000)∧(∀x∈s.key,∃y∈s.fields,y.at_=x.at_)∧s.key.length≤2∧s.key≠[]∧s.fields.length≤11∧1≤k∧k≤11:=by
 unfold eD at h;split at h
 ·cases h
 rename_i hk;have aV:=(aaN.1 h).1;have hl:pj.length=11:=rfl;have hm:=abm h;have: ∀s∈pj,(s.fields.map (·.at_)).Nodup∧(∀x∈s.fields,-10000000≤x.lo∧x.hi≤10000000)∧(∀x∈s.key,∃y∈s.fields,y.at_=x.at_)∧s.key.length≤2∧s.key.length≠0∧s.fields.length≤11:=by decide
 obtain⟨h1,h2,h3,h4,h5,h6⟩:=this s hm;exact⟨h1,h2,h3,h4,fun e=>h5 (by rw[e];rfl),h6,by omega,by omega⟩
theorem nS{f:bc}(h:gD f=true): ∃s,eD f.kind=some s∧(∀x∈s.fields,x.lo≤f.num x.at_∧f.num x.at_≤x.hi)∧(∀x∈s.fields,ur (f.num x.at_))∧(∀x∈s.key,ur (f.num x.at_))∧1≤f.ver∧f.ver≤1000000∧0≤f.day∧f.day≤100000∧(f.text.length:Int)≤8192∧um s.rest f=true:=by
 unfold gD at h;cases hs:eD f.kind with
 |none=>rw[hs]at h;cases h
 |some s=>
  rw[hs]at h;simp only at h;split at h
  ·cases h
  rename_i hc;simp only[abz,decide_eq_true_eq,not_or,ab8,Bool.not_eq_false]at hc;obtain⟨h1,h2,h3,_⟩:=qx hs;cases je:pk s.fields f with
  |none=>rw[je]at h;cases h
  |some g=>
   have hr:=uq _ _ _ h1 (pv hs).1 je;have hi: ∀x∈s.fields,ur (f.num x.at_):=fun x hx=>by have:=hr x hx;have:=h2 x hx;unfold ur;omega
   refine⟨s,rfl,hr,hi,fun x hx=>?_,by omega,by omega,by omega,by omega,by omega,hc.2⟩;obtain⟨y,hy,e⟩:=h3 x hx;rw[←e];exact hi y hy
end Go.Proofs.YtkpojaffabjibaaGreatDoor
namespace Go.K
open Go Go.RowKit
variable {F:Fence} {P:Program} {N:Nat} {ds:List Deferred} {l:Env} {w:World} {Q:Exit→Act→World→Prop} {o:Oper} {g0 g:G} {L:List dc} {K:Value→World→Prop}
theorem Av{x:Operand}{ts:Array TypeId}{ad:Addr}{n c:Nat}(ho:o.op= .call {callee:=.builtin .unsafeSliceData,args:=#[x],argTypes:=ts})(hx:ev l x=some (.slice (some ad) n c))(hc:c≠0)(k:K (.pointer (some ad)) w):cQ F P N ds o l w Q K:=
 gM ho (fun a ha=>by have:=Lib.run_unsafeSliceData_row (P:=P) (w:=w) ts o.type ad n c hc;simp[resolve,invoke,builtin,ha.ev hx,this]) k
theorem pN(w:World)(b n:Nat):w.grownBy (w.freeze ⟨b,0,none⟩ n) (some b):=by
 unfold World.freeze;split
 ·exact ly _ _
 exact⟨rfl,rfl,rfl,by simp,fun k _ fL=>by simp only[ads];rw[if_neg (fun e=>fL (by rw[←e]))]⟩
theorem Aw{x y:Operand}{pt it e:TypeId}{br cap:Nat}{cur:Array Value}{xs:List UInt8}(i:Nat)(hs:St g0 g L)(hi:L[i]? =some (.obj br (.cells cur e (0,0))))(ho:o.op= .call {callee:=.builtin .unsafeString,args:=#[x,y],argTypes:=#[pt,it]})
  (hx:ev l x=some (vP br)) (hy:ev l y=some (vI xs.length)) (h0:xs≠[]) (Q2:P.underlying pt=some (.pointer e)) (Pb:P.cellsOf e=1) (hn:xs.length≤cap) (tG:cap≤maxLen) (oR:cur.size=cap) (ed:cur.toList.take xs.length=fq xs)
  (k: ∀g',St g0 g' (L.eraseIdx i)→g.le g'→K (.string (bs xs)) g'.w):cQ F P N ds o l g.w Q K:=by
 have eF:=hs.own i _ hi;have hh:=eF.2.1;have lz:=Lib.run_unsafeString_row (P:=P) (w:=g.w) pt it o.type e Q2 Pb br cap (by simp[World.shape?,hh,oR]) xs h0 hn (by unfold maxLen at tG;omega) (fun j x hj=>by
  have I9:(fq xs)[j]? =some (.int .u8 (x.toNat:Int)):=by simp[fq,hj]
  rw[←ed,List.getElem?_take]at I9;split at I9
  ·rw[abM];simp only[World.cell?,hh,abo];simpa using I9
  cases I9)
 let g':G:=⟨g.w.freeze ⟨br,0,none⟩ xs.length,g.im,fun b h=>abp (g.lt b h) (pN g.w br xs.length).size⟩
 have aV:br<g.w.heap.size:=(ab6.1 hh).1;obtain⟨o',Lz⟩: ∃o',g'.w.heap[br]? =some o':=⟨g'.w.heap[br]'(abp aV (pN g.w br xs.length).size),ac' _⟩;have dj:=hs.MK (g':=g') (e':=.obj br o') hi (pN g.w br xs.length) (fun _ _=>aba) ⟨eF.1,Lz,eF.2.2⟩ (fun b hb=> .inl hb);have xp:=dj.1.drop i;rw[List.eraseIdx_set_eq]at xp;refine gM (w':=g'.w) ho (fun a ha=>?_) (k g' xp dj.2);simp[resolve,invoke,builtin,ha.ev hx,ha.ev hy,lz];exact⟨rfl,rfl⟩
end Go.K
