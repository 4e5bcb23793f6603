/-
  DERIVED: THE SHELF's CONTRACTS AT THIS DUMP, IN PLAIN WORDS (tools/lay-plain.mjs out of 'TryzShelf.lean', which tools/lay-shelf.mjs wrote): THE SAME DECLARATIONS UNDER THE SAME NAMES: 'import', 'namespace', 'open', 'def', 'theorem' AND NOTHING ELSE: no command of the shelf's: FOR A HAND-IN. Each laying: the table of numbers ('.._ren') and one theorem, a field a fact of the dump's own or the kernel's comparison; each contract: ONE APPLICATION.
-/
import Derived.Shelf.Strings.Builder1
import Derived.Shelf.Small.Bits
import Derived.Shelf.Small.Strs
import Derived.Shelf.Strings.BuilderF
import Derived.Shelf.Strings.BuilderK
import Derived.Shelf.Utf8.RuneCount
import Derived.Shelf.Strconv.Atoi
import Derived.Shelf.Strconv.Itoa0
import Derived.Shelf.Strconv.Itoa1
import Derived.Shelf.LaysM
import Derived.Shelf.Strconv.Itoa2
import Derived.Shelf.Strconv.Itoa3
import Derived.Shelf.Strconv.AtoiErrFast
import Derived.Shelf.Strconv.ParseIntEmpty
import Derived.Shelf.Strconv.AtoiFail
import Derived.Shelf.Strconv.Clone
import Derived.Shelf.Strconv.SyntaxError
import Derived.Shelf.LaysC
import Derived.Shelf.Strconv.ToError
import Derived.Shelf.Strconv.AtoiErr
import Derived.Shelf.Strconv.Lower
import Derived.Shelf.Strconv.ParseUint10
import Derived.Shelf.Strconv.ParseUint10Empty
import Derived.Shelf.Strconv.ParseUint10Any
import Derived.Shelf.Strconv.ParseInt10
import Derived.Shelf.Strconv.AtoiLong
import Derived.Shelf.Strconv.AtoiInnerAll
import Derived.Shelf.Strconv.RangeError
import Derived.Shelf.Strconv.ToErrorRange
import Derived.Shelf.Strconv.AtoiAll
import Derived.Shelf.Strings.Search1
import Derived.Shelf.Strings.Search2
import Derived.Shelf.Strings.Search3
import Derived.Shelf.Strings.Cut
import Derived.Shelf.Strings.Count
import Derived.Shelf.Strings.Shaped
import Derived.Shelf.Sort.Plain
import Derived.Shelf.Strings.Prefix
import Derived.Shelf.Strings.Split
import Derived.Shelf.Strings.SplitShaped
import Derived.Shelf.Unicode.Decode
import Derived.Shelf.Strings.RuneCount
import Derived.Shelf.Strings.Explode
import Derived.Shelf.Unicode.DecodeSlow
import Derived.Shelf.Unicode.DecodeAny
import Derived.Ground.Names2Prog
import Derived.Shelf.Slices.Clone
import Derived.Shelf.Slices.CompactI
import Derived.Shelf.Slices.SearchI
import Derived.Shelf.Slices.Cells
import Derived.Shelf.Slices.In.SortNone
import Derived.Ground.SlgnProg
import Derived.Shelf.SlicesE.Clone
import Derived.Test.YtkpojaffabjibaaGreatDoorProg
namespace Go.Proofs
open Go.Shelf
def Tryz.lays169_ren:Go.Shelf.Ren:=⟨fun|169=>58|n=>n,fun|70=>102|9=>9|0=>0|72=>105|37=>103|127=>168|3=>3|5=>5|n=>n,fun|n=>n⟩
theorem Tryz.Builder_Extra_169:Builder.Extra Tryz.prog Tryz.lays169_ren:={
  sizeBuilder:=by kernel_rfl
  liesBuilder:=by kernel_rfl
  t5:=Tryz.underlying5
  a5:=Tryz.isAgg5
  z5:=Tryz.sizeOf5
  v5:=Tryz.zeroValue5
  infoByte:=by kernel_rfl
  cellsByte:=by kernel_rfl
  sizeByte:=by kernel_rfl
  neB5:=by decide}
def Tryz.lays106_ren:Go.Shelf.Ren:=⟨fun|106=>60|213=>139|265=>200|n=>n,fun|9=>9|3=>3|n=>n,fun|n=>n⟩
theorem Tryz.lays106:Go.Proofs.Lays.n106 Tryz.prog Tryz.lays106_ren:={
  mixed:=by kernel_rfl
  f106:=Tryz.func60.trans (congrArg some (by kernel_rfl))
  f213:=Tryz.func139.trans (congrArg some (by kernel_rfl))
  f265:=Tryz.func200.trans (congrArg some (by kernel_rfl))
  t3:=Tryz.underlying3
  a3:=Tryz.isAgg3
  z3:=Tryz.sizeOf3
  v3:=Tryz.zeroValue3
  t9:=Tryz.underlying9
  a9:=Tryz.isAgg9
  z9:=Tryz.sizeOf9
  v9:=Tryz.zeroValue9}
open Go.RowKit in
theorem Tryz.strings_Compare(a b:ByteArray)(w:World):
    Calls Tryz.prog 60 #[.string a,.string b] w fun e w'=>e= .returned (.int .i64 (Lib.compareBytes a.data.toList b.data.toList))∧w'=w:=Any.strings_Compare Tryz.lays106 a b w
def Tryz.laysM171_ren:Go.Shelf.Ren:=⟨fun|171=>263|243=>285|246=>295|283=>300|284=>301|285=>302|286=>303|129=>171|317=>309|318=>310|319=>311|320=>312|337=>316|338=>317|n=>n,fun|3=>3|9=>9|2=>2|4=>4|171=>300|0=>0|53=>197|37=>103|5=>5|173=>302|212=>310|51=>195|20=>20|213=>311|46=>134|232=>322|233=>323|n=>n,fun|17=>3|18=>6|19=>7|n=>n⟩
theorem Tryz.laysM171:Go.Proofs.LaysM.n171 Tryz.prog Tryz.laysM171_ren:={
  mixed:=by kernel_rfl
  f129:=Tryz.func171.trans (congrArg some (by kernel_rfl))
  f171:=Tryz.func263.trans (congrArg some (by kernel_rfl))
  f243:=Tryz.func285.trans (congrArg some (by kernel_rfl))
  f246:=Tryz.func295.trans (congrArg some (by kernel_rfl))
  f283:=Tryz.func300.trans (congrArg some (by kernel_rfl))
  f284:=Tryz.func301.trans (congrArg some (by kernel_rfl))
  f285:=Tryz.func302.trans (congrArg some (by kernel_rfl))
  f286:=Tryz.func303.trans (congrArg some (by kernel_rfl))
  f317:=Tryz.func309.trans (congrArg some (by kernel_rfl))
  f318:=Tryz.func310.trans (congrArg some (by kernel_rfl))
  f319:=Tryz.func311.trans (congrArg some (by kernel_rfl))
  f320:=Tryz.func312.trans (congrArg some (by kernel_rfl))
  f337:=Tryz.func316.trans (congrArg some (by kernel_rfl))
  f338:=Tryz.func317.trans (congrArg some (by kernel_rfl))
  t0:=Tryz.underlying0
  a0:=Tryz.isAgg0
  z0:=Tryz.sizeOf0
  v0:=Tryz.zeroValue0
  t2:=Tryz.underlying2
  a2:=Tryz.isAgg2
  z2:=Tryz.sizeOf2
  v2:=Tryz.zeroValue2
  t3:=Tryz.underlying3
  a3:=Tryz.isAgg3
  z3:=Tryz.sizeOf3
  v3:=Tryz.zeroValue3
  t4:=Tryz.underlying4
  a4:=Tryz.isAgg4
  z4:=Tryz.sizeOf4
  v4:=Tryz.zeroValue4
  t5:=Tryz.underlying5
  a5:=Tryz.isAgg5
  z5:=Tryz.sizeOf5
  v5:=Tryz.zeroValue5
  t9:=Tryz.underlying9
  a9:=Tryz.isAgg9
  z9:=Tryz.sizeOf9
  v9:=Tryz.zeroValue9
  t20:=Tryz.underlying20
  a20:=Tryz.isAgg20
  z20:=Tryz.sizeOf20
  v20:=Tryz.zeroValue20
  t37:=Tryz.underlying103
  a37:=Tryz.isAgg103
  z37:=Tryz.sizeOf103
  v37:=Tryz.zeroValue103
  t46:=Tryz.underlying134
  a46:=Tryz.isAgg134
  z46:=Tryz.sizeOf134
  v46:=Tryz.zeroValue134
  t51:=Tryz.underlying195
  a51:=Tryz.isAgg195
  z51:=Tryz.sizeOf195
  v51:=Tryz.zeroValue195
  t53:=Tryz.underlying197
  a53:=Tryz.isAgg197
  z53:=Tryz.sizeOf197
  v53:=Tryz.zeroValue197
  t171:=Tryz.underlying300
  a171:=Tryz.isAgg300
  z171:=Tryz.sizeOf300
  v171:=Tryz.zeroValue300
  t173:=Tryz.underlying302
  a173:=Tryz.isAgg302
  z173:=Tryz.sizeOf302
  v173:=Tryz.zeroValue302
  t212:=Tryz.underlying310
  a212:=Tryz.isAgg310
  z212:=Tryz.sizeOf310
  v212:=Tryz.zeroValue310
  t213:=Tryz.underlying311
  a213:=Tryz.isAgg311
  z213:=Tryz.sizeOf311
  t232:=Tryz.underlying322
  a232:=Tryz.isAgg322
  z232:=Tryz.sizeOf322
  v232:=Tryz.zeroValue322
  t233:=Tryz.underlying323
  a233:=Tryz.isAgg323
  z233:=Tryz.sizeOf323
  v233:=Tryz.zeroValue323
  g17:=by kernel_rfl
  g18:=by kernel_rfl
  g19:=by kernel_rfl
  i0:=by kernel_rfl
  i2:=by kernel_rfl
  i3:=by kernel_rfl
  i4:=by kernel_rfl
  i5:=by kernel_rfl
  i9:=by kernel_rfl
  i20:=by kernel_rfl
  i37:=by kernel_rfl
  i46:=by kernel_rfl
  i51:=by kernel_rfl
  i53:=by kernel_rfl
  i171:=by kernel_rfl
  i173:=by kernel_rfl
  i212:=by kernel_rfl
  i232:=by kernel_rfl
  i233:=by kernel_rfl
  m17:=by kernel_rfl
  m18:=by kernel_rfl
  m19:=by kernel_rfl}
open Go.RowKit Go.Sort Go.Lib in
theorem Tryz.strconv_Itoa(n:Int)(h0: -9223372036854775808≤n)(h1:n≤9223372036854775807)(w:World)(htab:Lib.TabIs Tryz.prog w "internal/strconv.uint64pow10" .u64 Lib.pow10Tab):
    Calls Tryz.prog 263 #[.int .i64 n] w fun e w'=>e= .returned (.string ⟨(Lib.itoa n).toArray⟩)∧ ∃k os,w'=grow (w.drewN k) os:=Any.strconv_Itoa Tryz.laysM171 n h0 h1 w htab
def Tryz.laysC172_ren:Go.Shelf.Ren:=⟨fun|172=>286|244=>296|245=>297|247=>304|279=>305|280=>306|281=>307|282=>308|287=>313|316=>314|171=>263|205=>315|321=>318|322=>319|243=>285|246=>295|283=>300|284=>301|285=>302|286=>303|129=>171|317=>309|318=>310|319=>311|320=>312|337=>316|338=>317|n=>n,fun|9=>9|3=>3|75=>161|76=>162|4=>4|5=>5|167=>304|37=>103|0=>0|85=>305|2=>2|168=>307|53=>197|175=>312|46=>134|210=>316|127=>168|145=>321|143=>319|21=>21|171=>300|173=>302|212=>310|51=>195|20=>20|213=>311|232=>322|233=>323|80=>118|n=>n,fun|15=>4|16=>5|17=>3|18=>6|19=>7|n=>n⟩
theorem Tryz.laysC172:Go.Proofs.LaysC.n172 Tryz.prog Tryz.laysC172_ren:={
  mixed:=by kernel_rfl
  f129:=Tryz.func171.trans (congrArg some (by kernel_rfl))
  f171:=Tryz.func263.trans (congrArg some (by kernel_rfl))
  f172:=Tryz.func286.trans (congrArg some (by kernel_rfl))
  f205:=Tryz.func315.trans (congrArg some (by kernel_rfl))
  f243:=Tryz.func285.trans (congrArg some (by kernel_rfl))
  f244:=Tryz.func296.trans (congrArg some (by kernel_rfl))
  f245:=Tryz.func297.trans (congrArg some (by kernel_rfl))
  f246:=Tryz.func295.trans (congrArg some (by kernel_rfl))
  f247:=Tryz.func304.trans (congrArg some (by kernel_rfl))
  f279:=Tryz.func305.trans (congrArg some (by kernel_rfl))
  f280:=Tryz.func306.trans (congrArg some (by kernel_rfl))
  f281:=Tryz.func307.trans (congrArg some (by kernel_rfl))
  f282:=Tryz.func308.trans (congrArg some (by kernel_rfl))
  f283:=Tryz.func300.trans (congrArg some (by kernel_rfl))
  f284:=Tryz.func301.trans (congrArg some (by kernel_rfl))
  f285:=Tryz.func302.trans (congrArg some (by kernel_rfl))
  f286:=Tryz.func303.trans (congrArg some (by kernel_rfl))
  f287:=Tryz.func313.trans (congrArg some (by kernel_rfl))
  f316:=Tryz.func314.trans (congrArg some (by kernel_rfl))
  f317:=Tryz.func309.trans (congrArg some (by kernel_rfl))
  f318:=Tryz.func310.trans (congrArg some (by kernel_rfl))
  f319:=Tryz.func311.trans (congrArg some (by kernel_rfl))
  f320:=Tryz.func312.trans (congrArg some (by kernel_rfl))
  f321:=Tryz.func318.trans (congrArg some (by kernel_rfl))
  f322:=Tryz.func319.trans (congrArg some (by kernel_rfl))
  f337:=Tryz.func316.trans (congrArg some (by kernel_rfl))
  f338:=Tryz.func317.trans (congrArg some (by kernel_rfl))
  t0:=Tryz.underlying0
  a0:=Tryz.isAgg0
  z0:=Tryz.sizeOf0
  v0:=Tryz.zeroValue0
  t2:=Tryz.underlying2
  a2:=Tryz.isAgg2
  z2:=Tryz.sizeOf2
  v2:=Tryz.zeroValue2
  t3:=Tryz.underlying3
  a3:=Tryz.isAgg3
  z3:=Tryz.sizeOf3
  v3:=Tryz.zeroValue3
  t4:=Tryz.underlying4
  a4:=Tryz.isAgg4
  z4:=Tryz.sizeOf4
  v4:=Tryz.zeroValue4
  t5:=Tryz.underlying5
  a5:=Tryz.isAgg5
  z5:=Tryz.sizeOf5
  v5:=Tryz.zeroValue5
  t9:=Tryz.underlying9
  a9:=Tryz.isAgg9
  z9:=Tryz.sizeOf9
  v9:=Tryz.zeroValue9
  t20:=Tryz.underlying20
  a20:=Tryz.isAgg20
  z20:=Tryz.sizeOf20
  v20:=Tryz.zeroValue20
  t21:=Tryz.underlying21
  a21:=Tryz.isAgg21
  z21:=Tryz.sizeOf21
  v21:=Tryz.zeroValue21
  t37:=Tryz.underlying103
  a37:=Tryz.isAgg103
  z37:=Tryz.sizeOf103
  v37:=Tryz.zeroValue103
  t46:=Tryz.underlying134
  a46:=Tryz.isAgg134
  z46:=Tryz.sizeOf134
  v46:=Tryz.zeroValue134
  t51:=Tryz.underlying195
  a51:=Tryz.isAgg195
  z51:=Tryz.sizeOf195
  v51:=Tryz.zeroValue195
  t53:=Tryz.underlying197
  a53:=Tryz.isAgg197
  z53:=Tryz.sizeOf197
  v53:=Tryz.zeroValue197
  t75:=Tryz.underlying161
  a75:=Tryz.isAgg161
  z75:=Tryz.sizeOf161
  v75:=Tryz.zeroValue161
  t76:=Tryz.underlying162
  a76:=Tryz.isAgg162
  z76:=Tryz.sizeOf162
  v76:=Tryz.zeroValue162
  t85:=Tryz.underlying305
  a85:=Tryz.isAgg305
  z85:=Tryz.sizeOf305
  v85:=Tryz.zeroValue305
  t127:=Tryz.underlying168
  a127:=Tryz.isAgg168
  z127:=Tryz.sizeOf168
  v127:=Tryz.zeroValue168
  t143:=Tryz.underlying319
  a143:=Tryz.isAgg319
  z143:=Tryz.sizeOf319
  v143:=Tryz.zeroValue319
  t145:=Tryz.underlying321
  a145:=Tryz.isAgg321
  z145:=Tryz.sizeOf321
  v145:=Tryz.zeroValue321
  t167:=Tryz.underlying304
  a167:=Tryz.isAgg304
  z167:=Tryz.sizeOf304
  v167:=Tryz.zeroValue304
  t168:=Tryz.underlying307
  a168:=Tryz.isAgg307
  z168:=Tryz.sizeOf307
  v168:=Tryz.zeroValue307
  t171:=Tryz.underlying300
  a171:=Tryz.isAgg300
  z171:=Tryz.sizeOf300
  v171:=Tryz.zeroValue300
  t173:=Tryz.underlying302
  a173:=Tryz.isAgg302
  z173:=Tryz.sizeOf302
  v173:=Tryz.zeroValue302
  t175:=Tryz.underlying312
  a175:=Tryz.isAgg312
  z175:=Tryz.sizeOf312
  v175:=Tryz.zeroValue312
  t210:=Tryz.underlying316
  a210:=Tryz.isAgg316
  z210:=Tryz.sizeOf316
  v210:=Tryz.zeroValue316
  t212:=Tryz.underlying310
  a212:=Tryz.isAgg310
  z212:=Tryz.sizeOf310
  v212:=Tryz.zeroValue310
  t213:=Tryz.underlying311
  a213:=Tryz.isAgg311
  z213:=Tryz.sizeOf311
  t232:=Tryz.underlying322
  a232:=Tryz.isAgg322
  z232:=Tryz.sizeOf322
  v232:=Tryz.zeroValue322
  t233:=Tryz.underlying323
  a233:=Tryz.isAgg323
  z233:=Tryz.sizeOf323
  v233:=Tryz.zeroValue323
  g15:=by kernel_rfl
  g16:=by kernel_rfl
  g17:=by kernel_rfl
  g18:=by kernel_rfl
  g19:=by kernel_rfl
  t80:=Tryz.underlying118
  a80:=Tryz.isAgg118
  z80:=Tryz.sizeOf118
  v80:=Tryz.zeroValue118
  i0:=by kernel_rfl
  i2:=by kernel_rfl
  i3:=by kernel_rfl
  i4:=by kernel_rfl
  i5:=by kernel_rfl
  i9:=by kernel_rfl
  i20:=by kernel_rfl
  i21:=by kernel_rfl
  i37:=by kernel_rfl
  i46:=by kernel_rfl
  i51:=by kernel_rfl
  i53:=by kernel_rfl
  i75:=by kernel_rfl
  i76:=by kernel_rfl
  i80:=by kernel_rfl
  i85:=by kernel_rfl
  i127:=by kernel_rfl
  i143:=by kernel_rfl
  i145:=by kernel_rfl
  i167:=by kernel_rfl
  i168:=by kernel_rfl
  i171:=by kernel_rfl
  i173:=by kernel_rfl
  i175:=by kernel_rfl
  i210:=by kernel_rfl
  i212:=by kernel_rfl
  i232:=by kernel_rfl
  i233:=by kernel_rfl
  m15:=by kernel_rfl
  m16:=by kernel_rfl
  m17:=by kernel_rfl
  m18:=by kernel_rfl
  m19:=by kernel_rfl
  c0:=by kernel_rfl
  c2:=by kernel_rfl
  c3:=by kernel_rfl
  c4:=by kernel_rfl
  c5:=by kernel_rfl
  c9:=by kernel_rfl
  c20:=by kernel_rfl
  c21:=by kernel_rfl
  c37:=by kernel_rfl
  c46:=by kernel_rfl
  c51:=by kernel_rfl
  c53:=by kernel_rfl
  c75:=by kernel_rfl
  c76:=by kernel_rfl
  c80:=by kernel_rfl
  c85:=by kernel_rfl
  c127:=by kernel_rfl
  c143:=by kernel_rfl
  c145:=by kernel_rfl
  c167:=by kernel_rfl
  c168:=by kernel_rfl
  c171:=by kernel_rfl
  c173:=by kernel_rfl
  c175:=by kernel_rfl
  c210:=by kernel_rfl
  c212:=by kernel_rfl
  c213:=by kernel_rfl
  c232:=by kernel_rfl
  c233:=by kernel_rfl}
open Go.RowKit in
theorem Tryz.strconv_Atoi_ok(s:ByteArray)(hmax:s.size≤9223372036854775806)(v:Int)(h:Lib.atoiAll s.data.toList= .ok v)(w:World):
    Calls Tryz.prog 286 #[.string s] w fun e w'=>e= .returned (.tuple #[.int .i64 v,.nilIface])∧(w'=w∨ ∃t,w'=Lib.bytesWorld w 5 t):=Any.strconv_Atoi_ok Tryz.laysC172 s hmax v h w
open Go.RowKit in
theorem Tryz.strconv_Atoi_range(s:ByteArray)(hlim:s.size≤281474976710656)(h:Lib.atoiAll s.data.toList= .range)(ev:Value)(w:World)(hv:w.cell? ⟨5,0,none⟩=some ev)(hev:ev= .nilIface∨ ∃te pe,ev= .iface te pe):
    Calls Tryz.prog 286 #[.string s] w fun e w'=> ∃N,e= .returned (.tuple #[.int .i64 (Lib.atoiSat s.data.toList),.iface 307 (.pointer (some ⟨N,0,none⟩))])∧w.heap.size≤N∧w'.heap[N]? =some (.cells #[.string ⟨#[65,116,111,105]⟩,.string s,ev] 316 (0,0))∧Below w.heap.size w w':=Any.strconv_Atoi_range Tryz.laysC172 s hlim h ev w hv hev
def Tryz.lays145_ren:Go.Shelf.Ren:=⟨fun|145=>284|220=>294|219=>283|217=>290|225=>291|224=>292|267=>293|266=>298|314=>299|n=>n,fun|9=>9|4=>4|59=>289|3=>3|5=>5|46=>134|146=>298|51=>195|n=>n,fun|1=>0|n=>n⟩
theorem Tryz.lays145:Go.Proofs.Lays.n145 Tryz.prog Tryz.lays145_ren:={
  mixed:=by kernel_rfl
  f145:=Tryz.func284.trans (congrArg some (by kernel_rfl))
  f217:=Tryz.func290.trans (congrArg some (by kernel_rfl))
  f219:=Tryz.func283.trans (congrArg some (by kernel_rfl))
  f220:=Tryz.func294.trans (congrArg some (by kernel_rfl))
  f224:=Tryz.func292.trans (congrArg some (by kernel_rfl))
  f225:=Tryz.func291.trans (congrArg some (by kernel_rfl))
  f266:=Tryz.func298.trans (congrArg some (by kernel_rfl))
  f267:=Tryz.func293.trans (congrArg some (by kernel_rfl))
  f314:=Tryz.func299.trans (congrArg some (by kernel_rfl))
  t3:=Tryz.underlying3
  a3:=Tryz.isAgg3
  z3:=Tryz.sizeOf3
  v3:=Tryz.zeroValue3
  t4:=Tryz.underlying4
  a4:=Tryz.isAgg4
  z4:=Tryz.sizeOf4
  v4:=Tryz.zeroValue4
  t5:=Tryz.underlying5
  a5:=Tryz.isAgg5
  z5:=Tryz.sizeOf5
  v5:=Tryz.zeroValue5
  t9:=Tryz.underlying9
  a9:=Tryz.isAgg9
  z9:=Tryz.sizeOf9
  v9:=Tryz.zeroValue9
  t46:=Tryz.underlying134
  a46:=Tryz.isAgg134
  z46:=Tryz.sizeOf134
  v46:=Tryz.zeroValue134
  t51:=Tryz.underlying195
  a51:=Tryz.isAgg195
  z51:=Tryz.sizeOf195
  v51:=Tryz.zeroValue195
  t59:=Tryz.underlying289
  a59:=Tryz.isAgg289
  z59:=Tryz.sizeOf289
  v59:=Tryz.zeroValue289
  t146:=Tryz.underlying298
  a146:=Tryz.isAgg298
  z146:=Tryz.sizeOf298
  v146:=Tryz.zeroValue298
  g1:=by kernel_rfl}
open Go.RowKit Go.Lib in
theorem Tryz.strings_Cut(s sep:ByteArray)(m:Int)(w:World)(hs:s.size<4294967281)(hm:w.cell? ⟨0,0,none⟩=some (.int .i64 m)):
    Calls Tryz.prog 284 #[.string s,.string sep] w fun e w'=>e= .returned (.tuple #[.string ⟨(Lib.cut s.data.toList sep.data.toList).1.toArray⟩,.string ⟨(Lib.cut s.data.toList sep.data.toList).2.1.toArray⟩,.bool (Lib.cut s.data.toList sep.data.toList).2.2])∧ ∃n,w'=w.drewN n:=Any.strings_Cut Tryz.lays145 s sep m w hs hm
def Tryz.laysM220_ren:Go.Shelf.Ren:=⟨fun|220=>294|219=>283|217=>290|225=>291|224=>292|267=>293|266=>298|314=>299|n=>n,fun|9=>9|4=>4|3=>3|5=>5|46=>134|146=>298|51=>195|n=>n,fun|1=>0|n=>n⟩
theorem Tryz.laysM220:Go.Proofs.LaysM.n220 Tryz.prog Tryz.laysM220_ren:={
  mixed:=by kernel_rfl
  f217:=Tryz.func290.trans (congrArg some (by kernel_rfl))
  f219:=Tryz.func283.trans (congrArg some (by kernel_rfl))
  f220:=Tryz.func294.trans (congrArg some (by kernel_rfl))
  f224:=Tryz.func292.trans (congrArg some (by kernel_rfl))
  f225:=Tryz.func291.trans (congrArg some (by kernel_rfl))
  f266:=Tryz.func298.trans (congrArg some (by kernel_rfl))
  f267:=Tryz.func293.trans (congrArg some (by kernel_rfl))
  f314:=Tryz.func299.trans (congrArg some (by kernel_rfl))
  t3:=Tryz.underlying3
  a3:=Tryz.isAgg3
  z3:=Tryz.sizeOf3
  v3:=Tryz.zeroValue3
  t4:=Tryz.underlying4
  a4:=Tryz.isAgg4
  z4:=Tryz.sizeOf4
  v4:=Tryz.zeroValue4
  t5:=Tryz.underlying5
  a5:=Tryz.isAgg5
  z5:=Tryz.sizeOf5
  v5:=Tryz.zeroValue5
  t9:=Tryz.underlying9
  a9:=Tryz.isAgg9
  z9:=Tryz.sizeOf9
  v9:=Tryz.zeroValue9
  t46:=Tryz.underlying134
  a46:=Tryz.isAgg134
  z46:=Tryz.sizeOf134
  v46:=Tryz.zeroValue134
  t51:=Tryz.underlying195
  a51:=Tryz.isAgg195
  z51:=Tryz.sizeOf195
  v51:=Tryz.zeroValue195
  t146:=Tryz.underlying298
  a146:=Tryz.isAgg298
  z146:=Tryz.sizeOf298
  v146:=Tryz.zeroValue298
  g1:=by kernel_rfl
  i3:=by kernel_rfl
  i4:=by kernel_rfl
  i5:=by kernel_rfl
  i9:=by kernel_rfl
  i46:=by kernel_rfl
  i51:=by kernel_rfl
  i146:=by kernel_rfl
  m1:=by kernel_rfl
  s1_3:=fun w h=>Go.Proofs.cell_of_shapedOpen_int (zero:=#[.int .i64 0]) (t:=3) h (of_decide_eq_true (by kernel_rfl)) (by kernel_rfl) rfl (by kernel_rfl) (by kernel_rfl) Tryz.underlying3}
def Tryz.lays189_ren:Go.Shelf.Ren:=⟨fun|189=>35|125=>88|257=>87|128=>170|129=>171|294=>161|295=>162|296=>163|297=>164|298=>165|299=>166|216=>167|300=>168|301=>169|328=>211|329=>212|330=>213|331=>214|332=>215|215=>141|343=>256|n=>n,fun|28=>23|3=>3|46=>134|0=>0|51=>195|53=>197|4=>4|183=>189|182=>188|131=>173|5=>5|9=>9|218=>236|222=>158|228=>271|229=>139|n=>n,fun|n=>n⟩
theorem Tryz.lays189:Go.Proofs.Lays.n189 Tryz.prog Tryz.lays189_ren:={
  mixed:=by kernel_rfl
  f125:=Tryz.func88.trans (congrArg some (by kernel_rfl))
  f128:=Tryz.func170.trans (congrArg some (by kernel_rfl))
  f129:=Tryz.func171.trans (congrArg some (by kernel_rfl))
  f189:=Tryz.func35.trans (congrArg some (by kernel_rfl))
  f215:=Tryz.func141.trans (congrArg some (by kernel_rfl))
  f216:=Tryz.func167.trans (congrArg some (by kernel_rfl))
  f257:=Tryz.func87.trans (congrArg some (by kernel_rfl))
  f294:=Tryz.func161.trans (congrArg some (by kernel_rfl))
  f295:=Tryz.func162.trans (congrArg some (by kernel_rfl))
  f296:=Tryz.func163.trans (congrArg some (by kernel_rfl))
  f297:=Tryz.func164.trans (congrArg some (by kernel_rfl))
  f298:=Tryz.func165.trans (congrArg some (by kernel_rfl))
  f299:=Tryz.func166.trans (congrArg some (by kernel_rfl))
  f300:=Tryz.func168.trans (congrArg some (by kernel_rfl))
  f301:=Tryz.func169.trans (congrArg some (by kernel_rfl))
  f328:=Tryz.func211.trans (congrArg some (by kernel_rfl))
  f329:=Tryz.func212.trans (congrArg some (by kernel_rfl))
  f330:=Tryz.func213.trans (congrArg some (by kernel_rfl))
  f331:=Tryz.func214.trans (congrArg some (by kernel_rfl))
  f332:=Tryz.func215.trans (congrArg some (by kernel_rfl))
  f343:=Tryz.func256.trans (congrArg some (by kernel_rfl))
  t0:=Tryz.underlying0
  a0:=Tryz.isAgg0
  z0:=Tryz.sizeOf0
  v0:=Tryz.zeroValue0
  t3:=Tryz.underlying3
  a3:=Tryz.isAgg3
  z3:=Tryz.sizeOf3
  v3:=Tryz.zeroValue3
  t4:=Tryz.underlying4
  a4:=Tryz.isAgg4
  z4:=Tryz.sizeOf4
  v4:=Tryz.zeroValue4
  t5:=Tryz.underlying5
  a5:=Tryz.isAgg5
  z5:=Tryz.sizeOf5
  v5:=Tryz.zeroValue5
  t9:=Tryz.underlying9
  a9:=Tryz.isAgg9
  z9:=Tryz.sizeOf9
  v9:=Tryz.zeroValue9
  t28:=Tryz.underlying23
  a28:=Tryz.isAgg23
  z28:=Tryz.sizeOf23
  v28:=Tryz.zeroValue23
  t46:=Tryz.underlying134
  a46:=Tryz.isAgg134
  z46:=Tryz.sizeOf134
  v46:=Tryz.zeroValue134
  t51:=Tryz.underlying195
  a51:=Tryz.isAgg195
  z51:=Tryz.sizeOf195
  v51:=Tryz.zeroValue195
  t53:=Tryz.underlying197
  a53:=Tryz.isAgg197
  z53:=Tryz.sizeOf197
  v53:=Tryz.zeroValue197
  t131:=Tryz.underlying173
  a131:=Tryz.isAgg173
  z131:=Tryz.sizeOf173
  v131:=Tryz.zeroValue173
  t182:=Tryz.underlying188
  a182:=Tryz.isAgg188
  z182:=Tryz.sizeOf188
  v182:=Tryz.zeroValue188
  t183:=Tryz.underlying189
  a183:=Tryz.isAgg189
  z183:=Tryz.sizeOf189
  v183:=Tryz.zeroValue189
  t218:=Tryz.underlying236
  a218:=Tryz.isAgg236
  z218:=Tryz.sizeOf236
  v218:=Tryz.zeroValue236
  t222:=Tryz.underlying158
  a222:=Tryz.isAgg158
  z222:=Tryz.sizeOf158
  v222:=Tryz.zeroValue158
  t228:=Tryz.underlying271
  a228:=Tryz.isAgg271
  z228:=Tryz.sizeOf271
  v228:=Tryz.zeroValue271
  t229:=Tryz.underlying139
  a229:=Tryz.isAgg139
  z229:=Tryz.sizeOf139
  v229:=Tryz.zeroValue139}
open Go.Sort Go.RowKit in
theorem Tryz.slices_Sort_int(blk off cap:Nat)(zs:List Int)(w:World)(hH:Holds (Value.int .i64) w blk off zs.toArray)(hblk:blk<w.heap.size)(hsz:zs.length<4611686018427387904):
    Calls Tryz.prog 35 #[.slice (some ⟨blk,off,none⟩) zs.length cap] w fun e w'=>
      e= .returned (.tuple #[])∧ ∃n os,w'=grow (putRow (Value.int .i64) (Sort.ahead w n) blk off (zs.mergeSort fun x y=>decide (x≤y)).toArray) os:=Any.slices_Sort_int Tryz.lays189 blk off cap zs w hH hblk hsz
def Tryz.lays99_ren:Go.Shelf.Ren:=⟨fun|99=>179|206=>220|n=>n,fun|9=>9|4=>4|3=>3|n=>n,fun|n=>n⟩
theorem Tryz.lays99:Go.Proofs.Lays.n99 Tryz.prog Tryz.lays99_ren:={
  mixed:=by kernel_rfl
  f99:=Tryz.func179.trans (congrArg some (by kernel_rfl))
  f206:=Tryz.func220.trans (congrArg some (by kernel_rfl))
  t3:=Tryz.underlying3
  a3:=Tryz.isAgg3
  z3:=Tryz.sizeOf3
  v3:=Tryz.zeroValue3
  t4:=Tryz.underlying4
  a4:=Tryz.isAgg4
  z4:=Tryz.sizeOf4
  v4:=Tryz.zeroValue4
  t9:=Tryz.underlying9
  a9:=Tryz.isAgg9
  z9:=Tryz.sizeOf9
  v9:=Tryz.zeroValue9}
open Go.RowKit Go.Lib in
theorem Tryz.strings_HasPrefix(s p:ByteArray)(w:World):
    Calls Tryz.prog 179 #[.string s,.string p] w fun e w'=>e= .returned (.bool (Lib.hasPrefix s.data.toList p.data.toList))∧w'=w:=Any.strings_HasPrefix Tryz.lays99 s p w
def Tryz.lays146_ren:Go.Shelf.Ren:=⟨fun|146=>178|221=>219|268=>257|138=>258|143=>259|195=>280|197=>281|218=>282|219=>283|260=>289|217=>290|225=>291|224=>292|267=>293|266=>298|314=>299|n=>n,fun|9=>9|31=>200|3=>3|4=>4|0=>0|105=>285|21=>21|5=>5|46=>134|119=>294|139=>297|138=>296|146=>298|51=>195|n=>n,fun|1=>0|3=>1|4=>2|n=>n⟩
theorem Tryz.lays146:Go.Proofs.Lays.n146 Tryz.prog Tryz.lays146_ren:={
  mixed:=by kernel_rfl
  f138:=Tryz.func258.trans (congrArg some (by kernel_rfl))
  f143:=Tryz.func259.trans (congrArg some (by kernel_rfl))
  f146:=Tryz.func178.trans (congrArg some (by kernel_rfl))
  f195:=Tryz.func280.trans (congrArg some (by kernel_rfl))
  f197:=Tryz.func281.trans (congrArg some (by kernel_rfl))
  f217:=Tryz.func290.trans (congrArg some (by kernel_rfl))
  f218:=Tryz.func282.trans (congrArg some (by kernel_rfl))
  f219:=Tryz.func283.trans (congrArg some (by kernel_rfl))
  f221:=Tryz.func219.trans (congrArg some (by kernel_rfl))
  f224:=Tryz.func292.trans (congrArg some (by kernel_rfl))
  f225:=Tryz.func291.trans (congrArg some (by kernel_rfl))
  f260:=Tryz.func289.trans (congrArg some (by kernel_rfl))
  f266:=Tryz.func298.trans (congrArg some (by kernel_rfl))
  f267:=Tryz.func293.trans (congrArg some (by kernel_rfl))
  f268:=Tryz.func257.trans (congrArg some (by kernel_rfl))
  f314:=Tryz.func299.trans (congrArg some (by kernel_rfl))
  t0:=Tryz.underlying0
  a0:=Tryz.isAgg0
  z0:=Tryz.sizeOf0
  v0:=Tryz.zeroValue0
  t3:=Tryz.underlying3
  a3:=Tryz.isAgg3
  z3:=Tryz.sizeOf3
  v3:=Tryz.zeroValue3
  t4:=Tryz.underlying4
  a4:=Tryz.isAgg4
  z4:=Tryz.sizeOf4
  v4:=Tryz.zeroValue4
  t5:=Tryz.underlying5
  a5:=Tryz.isAgg5
  z5:=Tryz.sizeOf5
  v5:=Tryz.zeroValue5
  t9:=Tryz.underlying9
  a9:=Tryz.isAgg9
  z9:=Tryz.sizeOf9
  v9:=Tryz.zeroValue9
  t21:=Tryz.underlying21
  a21:=Tryz.isAgg21
  z21:=Tryz.sizeOf21
  v21:=Tryz.zeroValue21
  t31:=Tryz.underlying200
  a31:=Tryz.isAgg200
  z31:=Tryz.sizeOf200
  v31:=Tryz.zeroValue200
  t46:=Tryz.underlying134
  a46:=Tryz.isAgg134
  z46:=Tryz.sizeOf134
  v46:=Tryz.zeroValue134
  t51:=Tryz.underlying195
  a51:=Tryz.isAgg195
  z51:=Tryz.sizeOf195
  v51:=Tryz.zeroValue195
  t105:=Tryz.underlying285
  a105:=Tryz.isAgg285
  z105:=Tryz.sizeOf285
  v105:=Tryz.zeroValue285
  t119:=Tryz.underlying294
  a119:=Tryz.isAgg294
  z119:=Tryz.sizeOf294
  t138:=Tryz.underlying296
  a138:=Tryz.isAgg296
  z138:=Tryz.sizeOf296
  v138:=Tryz.zeroValue296
  t139:=Tryz.underlying297
  a139:=Tryz.isAgg297
  z139:=Tryz.sizeOf297
  v139:=Tryz.zeroValue297
  t146:=Tryz.underlying298
  a146:=Tryz.isAgg298
  z146:=Tryz.sizeOf298
  v146:=Tryz.zeroValue298
  g1:=by kernel_rfl
  g3:=by kernel_rfl
  g4:=by kernel_rfl}
open Go.RowKit Go.Lib in
theorem Tryz.strings_Split(s sep:ByteArray)(m:Int)(w:World)(hs:s.size<4294967281)(hm:w.cell? ⟨0,0,none⟩=some (.int .i64 m))(h1:1≤sep.size):
    Calls Tryz.prog 178 #[.string s,.string sep] w fun e w'=>
      e= .returned (.slice (some ⟨w.heap.size,0,none⟩) (Lib.countB s sep+1) (Lib.countB s sep+1))∧w'=w.alloc (.cells ((Lib.splitB sep 0 (Lib.countB s sep) s).map Value.string).toArray 9):=Any.strings_Split Tryz.lays146 (by kernel_rfl) s sep m w hs hm h1
def Tryz.laysNm220_ren:Go.Shelf.Ren:=⟨fun|20=>36|n=>n,fun|22=>23|3=>3|4=>4|0=>0|n=>n,fun|n=>n⟩
theorem Tryz.laysNm220:Go.Proofs.Lays2.n20 Tryz.prog Tryz.laysNm220_ren:={
  mixed:=by kernel_rfl
  f20:=Tryz.func36.trans (congrArg some (by kernel_rfl))
  t0:=Tryz.underlying0
  a0:=Tryz.isAgg0
  z0:=Tryz.sizeOf0
  v0:=Tryz.zeroValue0
  t3:=Tryz.underlying3
  a3:=Tryz.isAgg3
  z3:=Tryz.sizeOf3
  v3:=Tryz.zeroValue3
  t4:=Tryz.underlying4
  a4:=Tryz.isAgg4
  z4:=Tryz.sizeOf4
  v4:=Tryz.zeroValue4
  t22:=Tryz.underlying23
  a22:=Tryz.isAgg23
  z22:=Tryz.sizeOf23
  v22:=Tryz.zeroValue23
  i3:=by kernel_rfl}
open Go.RowKit Go.Lib Go.Sort in
theorem Tryz.slices_Compact_int(blk off cap:Nat)(zs:List Int)(w:World)(hH:Holds (Value.int .i64) w blk off zs.toArray)(hsz:zs.length≤9223372036854775807)(hcap:zs.length≤cap):
    Calls Tryz.prog 36 #[.slice (some ⟨blk,off,none⟩) zs.length cap] w fun e w'=>e= .returned (.slice (some ⟨blk,off,none⟩) (Lib.compact zs).length cap)∧ ∃q,w'=putRow (Value.int .i64) (Sort.ahead w q) blk off (Lib.compact zs++List.replicate (zs.length-(Lib.compact zs).length) 0).toArray:=Any.slices_Compact_int Tryz.laysNm220 blk off cap zs w hH hsz hcap
open Go.RowKit Go.Lib Go.Sort in
theorem Tryz.slices_Compact_int_empty(a:Option Addr)(cap:Nat)(w:World):
    Calls Tryz.prog 36 #[.slice a 0 cap] w fun e w'=>e= .returned (.slice a 0 cap)∧w'=w:=Any.slices_Compact_int_empty Tryz.laysNm220 a cap w
open Go.RowKit Go.Sort in
theorem Tryz.slices_Sort_int_none(p:Option Addr)(cap:Nat)(w:World):
    Calls Tryz.prog 35 #[.slice p 0 cap] w fun e w'=>e= .returned (.tuple #[])∧w'=w:=Any.slices_Sort_int_none Tryz.lays189 p cap w
end Go.Proofs
