/-
  DERIVED: THE SHELF's CONTRACTS AT THIS DUMP, IN PLAIN WORDS (tools/lay-plain.mjs out of 'TryzShelf.lean', which tools/lay-shelf.mjs wrote): THE SAME DECLARATIONS UNDER THE SAME NAMES: 'import', 'namespace', 'open', 'def', 'theorem' AND NOTHING ELSE: no command of the shelf's: FOR A HAND-IN. Each laying: the table of numbers ('.._ren') and one theorem, a field a fact of the dump's own or the kernel's comparison; each contract: ONE APPLICATION.
-/
import Derived.Shelf.Strings.Builder1
import Derived.Shelf.Small.Bits
import Derived.Shelf.Small.Strs
import Derived.Shelf.Strings.BuilderF
import Derived.Shelf.Strings.BuilderK
import Derived.Shelf.Utf8.RuneCount
import Derived.Shelf.Strconv.Atoi
import Derived.Shelf.Strconv.Itoa0
import Derived.Shelf.Strconv.Itoa1
import Derived.Shelf.LaysM
import Derived.Shelf.Strconv.Itoa2
import Derived.Shelf.Strconv.Itoa3
import Derived.Shelf.Strconv.AtoiErrFast
import Derived.Shelf.Strconv.ParseIntEmpty
import Derived.Shelf.Strconv.AtoiFail
import Derived.Shelf.Strconv.Clone
import Derived.Shelf.Strconv.SyntaxError
import Derived.Shelf.LaysC
import Derived.Shelf.Strconv.ToError
import Derived.Shelf.Strconv.AtoiErr
import Derived.Shelf.Strconv.Lower
import Derived.Shelf.Strconv.ParseUint10
import Derived.Shelf.Strconv.ParseUint10Empty
import Derived.Shelf.Strconv.ParseUint10Any
import Derived.Shelf.Strconv.ParseInt10
import Derived.Shelf.Strconv.AtoiLong
import Derived.Shelf.Strconv.AtoiInnerAll
import Derived.Shelf.Strconv.RangeError
import Derived.Shelf.Strconv.ToErrorRange
import Derived.Shelf.Strconv.AtoiAll
import Derived.Shelf.Strings.Search1
import Derived.Shelf.Strings.Search2
import Derived.Shelf.Strings.Search3
import Derived.Shelf.Strings.Cut
import Derived.Shelf.Strings.Count
import Derived.Shelf.Strings.Shaped
import Derived.Shelf.Sort.Plain
import Derived.Shelf.Strings.Prefix
import Derived.Shelf.Strings.Split
import Derived.Shelf.Strings.SplitShaped
import Derived.Shelf.Unicode.Decode
import Derived.Shelf.Strings.RuneCount
import Derived.Shelf.Strings.Explode
import Derived.Shelf.Unicode.DecodeSlow
import Derived.Shelf.Unicode.DecodeAny
import Derived.Ground.Names2Prog
import Derived.Shelf.Slices.Clone
import Derived.Shelf.Slices.CompactI
import Derived.Shelf.Slices.SearchI
import Derived.Shelf.Slices.Cells
import Derived.Shelf.Slices.In.SortNone
import Derived.Ground.SlgnProg
import Derived.Shelf.SlicesE.Clone
import Derived.Test.YtbfjdfecgiegpaaGreatDoorProg
namespace Go.Proofs
open Go.Shelf
def Tryz.lays169_ren:Go.Shelf.Ren:=⟨fun|169=>42|n=>n,fun|70=>76|9=>9|0=>0|72=>79|37=>77|127=>144|3=>3|5=>5|n=>n,fun|n=>n⟩
theorem Tryz.Builder_Extra_169:Builder.Extra Tryz.prog Tryz.lays169_ren:={
  sizeBuilder:=by kernel_rfl
  liesBuilder:=by kernel_rfl
  t5:=Tryz.underlying5
  a5:=Tryz.isAgg5
  z5:=Tryz.sizeOf5
  v5:=Tryz.zeroValue5
  infoByte:=by kernel_rfl
  cellsByte:=by kernel_rfl
  sizeByte:=by kernel_rfl
  neB5:=by decide}
def Tryz.lays106_ren:Go.Shelf.Ren:=⟨fun|106=>44|213=>119|265=>181|n=>n,fun|9=>9|3=>3|n=>n,fun|n=>n⟩
theorem Tryz.lays106:Go.Proofs.Lays.n106 Tryz.prog Tryz.lays106_ren:={
  mixed:=by kernel_rfl
  f106:=Tryz.func44.trans (congrArg some (by kernel_rfl))
  f213:=Tryz.func119.trans (congrArg some (by kernel_rfl))
  f265:=Tryz.func181.trans (congrArg some (by kernel_rfl))
  t3:=Tryz.underlying3
  a3:=Tryz.isAgg3
  z3:=Tryz.sizeOf3
  v3:=Tryz.zeroValue3
  t9:=Tryz.underlying9
  a9:=Tryz.isAgg9
  z9:=Tryz.sizeOf9
  v9:=Tryz.zeroValue9}
open Go.RowKit in
theorem Tryz.strings_Compare(a b:ByteArray)(w:World):
    Calls Tryz.prog 44 #[.string a,.string b] w fun e w'=>e= .returned (.int .i64 (Lib.compareBytes a.data.toList b.data.toList))∧w'=w:=Any.strings_Compare Tryz.lays106 a b w
def Tryz.laysM171_ren:Go.Shelf.Ren:=⟨fun|171=>249|243=>272|246=>282|283=>287|284=>288|285=>289|286=>290|129=>151|317=>296|318=>297|319=>298|320=>299|337=>303|338=>304|n=>n,fun|3=>3|9=>9|2=>2|4=>4|171=>285|0=>0|53=>174|37=>77|5=>5|173=>287|212=>295|51=>172|20=>20|213=>296|46=>112|232=>307|233=>308|n=>n,fun|17=>3|18=>6|19=>7|n=>n⟩
theorem Tryz.laysM171:Go.Proofs.LaysM.n171 Tryz.prog Tryz.laysM171_ren:={
  mixed:=by kernel_rfl
  f129:=Tryz.func151.trans (congrArg some (by kernel_rfl))
  f171:=Tryz.func249.trans (congrArg some (by kernel_rfl))
  f243:=Tryz.func272.trans (congrArg some (by kernel_rfl))
  f246:=Tryz.func282.trans (congrArg some (by kernel_rfl))
  f283:=Tryz.func287.trans (congrArg some (by kernel_rfl))
  f284:=Tryz.func288.trans (congrArg some (by kernel_rfl))
  f285:=Tryz.func289.trans (congrArg some (by kernel_rfl))
  f286:=Tryz.func290.trans (congrArg some (by kernel_rfl))
  f317:=Tryz.func296.trans (congrArg some (by kernel_rfl))
  f318:=Tryz.func297.trans (congrArg some (by kernel_rfl))
  f319:=Tryz.func298.trans (congrArg some (by kernel_rfl))
  f320:=Tryz.func299.trans (congrArg some (by kernel_rfl))
  f337:=Tryz.func303.trans (congrArg some (by kernel_rfl))
  f338:=Tryz.func304.trans (congrArg some (by kernel_rfl))
  t0:=Tryz.underlying0
  a0:=Tryz.isAgg0
  z0:=Tryz.sizeOf0
  v0:=Tryz.zeroValue0
  t2:=Tryz.underlying2
  a2:=Tryz.isAgg2
  z2:=Tryz.sizeOf2
  v2:=Tryz.zeroValue2
  t3:=Tryz.underlying3
  a3:=Tryz.isAgg3
  z3:=Tryz.sizeOf3
  v3:=Tryz.zeroValue3
  t4:=Tryz.underlying4
  a4:=Tryz.isAgg4
  z4:=Tryz.sizeOf4
  v4:=Tryz.zeroValue4
  t5:=Tryz.underlying5
  a5:=Tryz.isAgg5
  z5:=Tryz.sizeOf5
  v5:=Tryz.zeroValue5
  t9:=Tryz.underlying9
  a9:=Tryz.isAgg9
  z9:=Tryz.sizeOf9
  v9:=Tryz.zeroValue9
  t20:=Tryz.underlying20
  a20:=Tryz.isAgg20
  z20:=Tryz.sizeOf20
  v20:=Tryz.zeroValue20
  t37:=Tryz.underlying77
  a37:=Tryz.isAgg77
  z37:=Tryz.sizeOf77
  v37:=Tryz.zeroValue77
  t46:=Tryz.underlying112
  a46:=Tryz.isAgg112
  z46:=Tryz.sizeOf112
  v46:=Tryz.zeroValue112
  t51:=Tryz.underlying172
  a51:=Tryz.isAgg172
  z51:=Tryz.sizeOf172
  v51:=Tryz.zeroValue172
  t53:=Tryz.underlying174
  a53:=Tryz.isAgg174
  z53:=Tryz.sizeOf174
  v53:=Tryz.zeroValue174
  t171:=Tryz.underlying285
  a171:=Tryz.isAgg285
  z171:=Tryz.sizeOf285
  v171:=Tryz.zeroValue285
  t173:=Tryz.underlying287
  a173:=Tryz.isAgg287
  z173:=Tryz.sizeOf287
  v173:=Tryz.zeroValue287
  t212:=Tryz.underlying295
  a212:=Tryz.isAgg295
  z212:=Tryz.sizeOf295
  v212:=Tryz.zeroValue295
  t213:=Tryz.underlying296
  a213:=Tryz.isAgg296
  z213:=Tryz.sizeOf296
  t232:=Tryz.underlying307
  a232:=Tryz.isAgg307
  z232:=Tryz.sizeOf307
  v232:=Tryz.zeroValue307
  t233:=Tryz.underlying308
  a233:=Tryz.isAgg308
  z233:=Tryz.sizeOf308
  v233:=Tryz.zeroValue308
  g17:=by kernel_rfl
  g18:=by kernel_rfl
  g19:=by kernel_rfl
  i0:=by kernel_rfl
  i2:=by kernel_rfl
  i3:=by kernel_rfl
  i4:=by kernel_rfl
  i5:=by kernel_rfl
  i9:=by kernel_rfl
  i20:=by kernel_rfl
  i37:=by kernel_rfl
  i46:=by kernel_rfl
  i51:=by kernel_rfl
  i53:=by kernel_rfl
  i171:=by kernel_rfl
  i173:=by kernel_rfl
  i212:=by kernel_rfl
  i232:=by kernel_rfl
  i233:=by kernel_rfl
  m17:=by kernel_rfl
  m18:=by kernel_rfl
  m19:=by kernel_rfl}
open Go.RowKit Go.Sort Go.Lib in
theorem Tryz.strconv_Itoa(n:Int)(h0: -9223372036854775808≤n)(h1:n≤9223372036854775807)(w:World)(htab:Lib.TabIs Tryz.prog w "internal/strconv.uint64pow10" .u64 Lib.pow10Tab):
    Calls Tryz.prog 249 #[.int .i64 n] w fun e w'=>e= .returned (.string ⟨(Lib.itoa n).toArray⟩)∧ ∃k os,w'=grow (w.drewN k) os:=Any.strconv_Itoa Tryz.laysM171 n h0 h1 w htab
def Tryz.laysC172_ren:Go.Shelf.Ren:=⟨fun|172=>273|244=>283|245=>284|247=>291|279=>292|280=>293|281=>294|282=>295|287=>300|316=>301|171=>249|205=>302|321=>305|322=>306|243=>272|246=>282|283=>287|284=>288|285=>289|286=>290|129=>151|317=>296|318=>297|319=>298|320=>299|337=>303|338=>304|n=>n,fun|9=>9|3=>3|75=>137|76=>138|4=>4|5=>5|167=>289|37=>77|0=>0|85=>290|2=>2|168=>292|53=>174|175=>297|46=>112|210=>301|127=>144|145=>306|143=>304|21=>21|171=>285|173=>287|212=>295|51=>172|20=>20|213=>296|232=>307|233=>308|80=>92|n=>n,fun|15=>4|16=>5|17=>3|18=>6|19=>7|n=>n⟩
theorem Tryz.laysC172:Go.Proofs.LaysC.n172 Tryz.prog Tryz.laysC172_ren:={
  mixed:=by kernel_rfl
  f129:=Tryz.func151.trans (congrArg some (by kernel_rfl))
  f171:=Tryz.func249.trans (congrArg some (by kernel_rfl))
  f172:=Tryz.func273.trans (congrArg some (by kernel_rfl))
  f205:=Tryz.func302.trans (congrArg some (by kernel_rfl))
  f243:=Tryz.func272.trans (congrArg some (by kernel_rfl))
  f244:=Tryz.func283.trans (congrArg some (by kernel_rfl))
  f245:=Tryz.func284.trans (congrArg some (by kernel_rfl))
  f246:=Tryz.func282.trans (congrArg some (by kernel_rfl))
  f247:=Tryz.func291.trans (congrArg some (by kernel_rfl))
  f279:=Tryz.func292.trans (congrArg some (by kernel_rfl))
  f280:=Tryz.func293.trans (congrArg some (by kernel_rfl))
  f281:=Tryz.func294.trans (congrArg some (by kernel_rfl))
  f282:=Tryz.func295.trans (congrArg some (by kernel_rfl))
  f283:=Tryz.func287.trans (congrArg some (by kernel_rfl))
  f284:=Tryz.func288.trans (congrArg some (by kernel_rfl))
  f285:=Tryz.func289.trans (congrArg some (by kernel_rfl))
  f286:=Tryz.func290.trans (congrArg some (by kernel_rfl))
  f287:=Tryz.func300.trans (congrArg some (by kernel_rfl))
  f316:=Tryz.func301.trans (congrArg some (by kernel_rfl))
  f317:=Tryz.func296.trans (congrArg some (by kernel_rfl))
  f318:=Tryz.func297.trans (congrArg some (by kernel_rfl))
  f319:=Tryz.func298.trans (congrArg some (by kernel_rfl))
  f320:=Tryz.func299.trans (congrArg some (by kernel_rfl))
  f321:=Tryz.func305.trans (congrArg some (by kernel_rfl))
  f322:=Tryz.func306.trans (congrArg some (by kernel_rfl))
  f337:=Tryz.func303.trans (congrArg some (by kernel_rfl))
  f338:=Tryz.func304.trans (congrArg some (by kernel_rfl))
  t0:=Tryz.underlying0
  a0:=Tryz.isAgg0
  z0:=Tryz.sizeOf0
  v0:=Tryz.zeroValue0
  t2:=Tryz.underlying2
  a2:=Tryz.isAgg2
  z2:=Tryz.sizeOf2
  v2:=Tryz.zeroValue2
  t3:=Tryz.underlying3
  a3:=Tryz.isAgg3
  z3:=Tryz.sizeOf3
  v3:=Tryz.zeroValue3
  t4:=Tryz.underlying4
  a4:=Tryz.isAgg4
  z4:=Tryz.sizeOf4
  v4:=Tryz.zeroValue4
  t5:=Tryz.underlying5
  a5:=Tryz.isAgg5
  z5:=Tryz.sizeOf5
  v5:=Tryz.zeroValue5
  t9:=Tryz.underlying9
  a9:=Tryz.isAgg9
  z9:=Tryz.sizeOf9
  v9:=Tryz.zeroValue9
  t20:=Tryz.underlying20
  a20:=Tryz.isAgg20
  z20:=Tryz.sizeOf20
  v20:=Tryz.zeroValue20
  t21:=Tryz.underlying21
  a21:=Tryz.isAgg21
  z21:=Tryz.sizeOf21
  v21:=Tryz.zeroValue21
  t37:=Tryz.underlying77
  a37:=Tryz.isAgg77
  z37:=Tryz.sizeOf77
  v37:=Tryz.zeroValue77
  t46:=Tryz.underlying112
  a46:=Tryz.isAgg112
  z46:=Tryz.sizeOf112
  v46:=Tryz.zeroValue112
  t51:=Tryz.underlying172
  a51:=Tryz.isAgg172
  z51:=Tryz.sizeOf172
  v51:=Tryz.zeroValue172
  t53:=Tryz.underlying174
  a53:=Tryz.isAgg174
  z53:=Tryz.sizeOf174
  v53:=Tryz.zeroValue174
  t75:=Tryz.underlying137
  a75:=Tryz.isAgg137
  z75:=Tryz.sizeOf137
  v75:=Tryz.zeroValue137
  t76:=Tryz.underlying138
  a76:=Tryz.isAgg138
  z76:=Tryz.sizeOf138
  v76:=Tryz.zeroValue138
  t85:=Tryz.underlying290
  a85:=Tryz.isAgg290
  z85:=Tryz.sizeOf290
  v85:=Tryz.zeroValue290
  t127:=Tryz.underlying144
  a127:=Tryz.isAgg144
  z127:=Tryz.sizeOf144
  v127:=Tryz.zeroValue144
  t143:=Tryz.underlying304
  a143:=Tryz.isAgg304
  z143:=Tryz.sizeOf304
  v143:=Tryz.zeroValue304
  t145:=Tryz.underlying306
  a145:=Tryz.isAgg306
  z145:=Tryz.sizeOf306
  v145:=Tryz.zeroValue306
  t167:=Tryz.underlying289
  a167:=Tryz.isAgg289
  z167:=Tryz.sizeOf289
  v167:=Tryz.zeroValue289
  t168:=Tryz.underlying292
  a168:=Tryz.isAgg292
  z168:=Tryz.sizeOf292
  v168:=Tryz.zeroValue292
  t171:=Tryz.underlying285
  a171:=Tryz.isAgg285
  z171:=Tryz.sizeOf285
  v171:=Tryz.zeroValue285
  t173:=Tryz.underlying287
  a173:=Tryz.isAgg287
  z173:=Tryz.sizeOf287
  v173:=Tryz.zeroValue287
  t175:=Tryz.underlying297
  a175:=Tryz.isAgg297
  z175:=Tryz.sizeOf297
  v175:=Tryz.zeroValue297
  t210:=Tryz.underlying301
  a210:=Tryz.isAgg301
  z210:=Tryz.sizeOf301
  v210:=Tryz.zeroValue301
  t212:=Tryz.underlying295
  a212:=Tryz.isAgg295
  z212:=Tryz.sizeOf295
  v212:=Tryz.zeroValue295
  t213:=Tryz.underlying296
  a213:=Tryz.isAgg296
  z213:=Tryz.sizeOf296
  t232:=Tryz.underlying307
  a232:=Tryz.isAgg307
  z232:=Tryz.sizeOf307
  v232:=Tryz.zeroValue307
  t233:=Tryz.underlying308
  a233:=Tryz.isAgg308
  z233:=Tryz.sizeOf308
  v233:=Tryz.zeroValue308
  g15:=by kernel_rfl
  g16:=by kernel_rfl
  g17:=by kernel_rfl
  g18:=by kernel_rfl
  g19:=by kernel_rfl
  t80:=Tryz.underlying92
  a80:=Tryz.isAgg92
  z80:=Tryz.sizeOf92
  v80:=Tryz.zeroValue92
  i0:=by kernel_rfl
  i2:=by kernel_rfl
  i3:=by kernel_rfl
  i4:=by kernel_rfl
  i5:=by kernel_rfl
  i9:=by kernel_rfl
  i20:=by kernel_rfl
  i21:=by kernel_rfl
  i37:=by kernel_rfl
  i46:=by kernel_rfl
  i51:=by kernel_rfl
  i53:=by kernel_rfl
  i75:=by kernel_rfl
  i76:=by kernel_rfl
  i80:=by kernel_rfl
  i85:=by kernel_rfl
  i127:=by kernel_rfl
  i143:=by kernel_rfl
  i145:=by kernel_rfl
  i167:=by kernel_rfl
  i168:=by kernel_rfl
  i171:=by kernel_rfl
  i173:=by kernel_rfl
  i175:=by kernel_rfl
  i210:=by kernel_rfl
  i212:=by kernel_rfl
  i232:=by kernel_rfl
  i233:=by kernel_rfl
  m15:=by kernel_rfl
  m16:=by kernel_rfl
  m17:=by kernel_rfl
  m18:=by kernel_rfl
  m19:=by kernel_rfl
  c0:=by kernel_rfl
  c2:=by kernel_rfl
  c3:=by kernel_rfl
  c4:=by kernel_rfl
  c5:=by kernel_rfl
  c9:=by kernel_rfl
  c20:=by kernel_rfl
  c21:=by kernel_rfl
  c37:=by kernel_rfl
  c46:=by kernel_rfl
  c51:=by kernel_rfl
  c53:=by kernel_rfl
  c75:=by kernel_rfl
  c76:=by kernel_rfl
  c80:=by kernel_rfl
  c85:=by kernel_rfl
  c127:=by kernel_rfl
  c143:=by kernel_rfl
  c145:=by kernel_rfl
  c167:=by kernel_rfl
  c168:=by kernel_rfl
  c171:=by kernel_rfl
  c173:=by kernel_rfl
  c175:=by kernel_rfl
  c210:=by kernel_rfl
  c212:=by kernel_rfl
  c213:=by kernel_rfl
  c232:=by kernel_rfl
  c233:=by kernel_rfl}
open Go.RowKit in
theorem Tryz.strconv_Atoi_ok(s:ByteArray)(hmax:s.size≤9223372036854775806)(v:Int)(h:Lib.atoiAll s.data.toList= .ok v)(w:World):
    Calls Tryz.prog 273 #[.string s] w fun e w'=>e= .returned (.tuple #[.int .i64 v,.nilIface])∧(w'=w∨ ∃t,w'=Lib.bytesWorld w 5 t):=Any.strconv_Atoi_ok Tryz.laysC172 s hmax v h w
open Go.RowKit in
theorem Tryz.strconv_Atoi_range(s:ByteArray)(hlim:s.size≤281474976710656)(h:Lib.atoiAll s.data.toList= .range)(ev:Value)(w:World)(hv:w.cell? ⟨5,0,none⟩=some ev)(hev:ev= .nilIface∨ ∃te pe,ev= .iface te pe):
    Calls Tryz.prog 273 #[.string s] w fun e w'=> ∃N,e= .returned (.tuple #[.int .i64 (Lib.atoiSat s.data.toList),.iface 292 (.pointer (some ⟨N,0,none⟩))])∧w.heap.size≤N∧w'.heap[N]? =some (.cells #[.string ⟨#[65,116,111,105]⟩,.string s,ev] 301 (0,0))∧Below w.heap.size w w':=Any.strconv_Atoi_range Tryz.laysC172 s hlim h ev w hv hev
def Tryz.lays145_ren:Go.Shelf.Ren:=⟨fun|145=>271|220=>281|219=>270|217=>277|225=>278|224=>279|267=>280|266=>285|314=>286|n=>n,fun|9=>9|4=>4|59=>274|3=>3|5=>5|46=>112|146=>283|51=>172|n=>n,fun|1=>0|n=>n⟩
theorem Tryz.lays145:Go.Proofs.Lays.n145 Tryz.prog Tryz.lays145_ren:={
  mixed:=by kernel_rfl
  f145:=Tryz.func271.trans (congrArg some (by kernel_rfl))
  f217:=Tryz.func277.trans (congrArg some (by kernel_rfl))
  f219:=Tryz.func270.trans (congrArg some (by kernel_rfl))
  f220:=Tryz.func281.trans (congrArg some (by kernel_rfl))
  f224:=Tryz.func279.trans (congrArg some (by kernel_rfl))
  f225:=Tryz.func278.trans (congrArg some (by kernel_rfl))
  f266:=Tryz.func285.trans (congrArg some (by kernel_rfl))
  f267:=Tryz.func280.trans (congrArg some (by kernel_rfl))
  f314:=Tryz.func286.trans (congrArg some (by kernel_rfl))
  t3:=Tryz.underlying3
  a3:=Tryz.isAgg3
  z3:=Tryz.sizeOf3
  v3:=Tryz.zeroValue3
  t4:=Tryz.underlying4
  a4:=Tryz.isAgg4
  z4:=Tryz.sizeOf4
  v4:=Tryz.zeroValue4
  t5:=Tryz.underlying5
  a5:=Tryz.isAgg5
  z5:=Tryz.sizeOf5
  v5:=Tryz.zeroValue5
  t9:=Tryz.underlying9
  a9:=Tryz.isAgg9
  z9:=Tryz.sizeOf9
  v9:=Tryz.zeroValue9
  t46:=Tryz.underlying112
  a46:=Tryz.isAgg112
  z46:=Tryz.sizeOf112
  v46:=Tryz.zeroValue112
  t51:=Tryz.underlying172
  a51:=Tryz.isAgg172
  z51:=Tryz.sizeOf172
  v51:=Tryz.zeroValue172
  t59:=Tryz.underlying274
  a59:=Tryz.isAgg274
  z59:=Tryz.sizeOf274
  v59:=Tryz.zeroValue274
  t146:=Tryz.underlying283
  a146:=Tryz.isAgg283
  z146:=Tryz.sizeOf283
  v146:=Tryz.zeroValue283
  g1:=by kernel_rfl}
open Go.RowKit Go.Lib in
theorem Tryz.strings_Cut(s sep:ByteArray)(m:Int)(w:World)(hs:s.size<4294967281)(hm:w.cell? ⟨0,0,none⟩=some (.int .i64 m)):
    Calls Tryz.prog 271 #[.string s,.string sep] w fun e w'=>e= .returned (.tuple #[.string ⟨(Lib.cut s.data.toList sep.data.toList).1.toArray⟩,.string ⟨(Lib.cut s.data.toList sep.data.toList).2.1.toArray⟩,.bool (Lib.cut s.data.toList sep.data.toList).2.2])∧ ∃n,w'=w.drewN n:=Any.strings_Cut Tryz.lays145 s sep m w hs hm
def Tryz.laysM220_ren:Go.Shelf.Ren:=⟨fun|220=>281|219=>270|217=>277|225=>278|224=>279|267=>280|266=>285|314=>286|n=>n,fun|9=>9|4=>4|3=>3|5=>5|46=>112|146=>283|51=>172|n=>n,fun|1=>0|n=>n⟩
theorem Tryz.laysM220:Go.Proofs.LaysM.n220 Tryz.prog Tryz.laysM220_ren:={
  mixed:=by kernel_rfl
  f217:=Tryz.func277.trans (congrArg some (by kernel_rfl))
  f219:=Tryz.func270.trans (congrArg some (by kernel_rfl))
  f220:=Tryz.func281.trans (congrArg some (by kernel_rfl))
  f224:=Tryz.func279.trans (congrArg some (by kernel_rfl))
  f225:=Tryz.func278.trans (congrArg some (by kernel_rfl))
  f266:=Tryz.func285.trans (congrArg some (by kernel_rfl))
  f267:=Tryz.func280.trans (congrArg some (by kernel_rfl))
  f314:=Tryz.func286.trans (congrArg some (by kernel_rfl))
  t3:=Tryz.underlying3
  a3:=Tryz.isAgg3
  z3:=Tryz.sizeOf3
  v3:=Tryz.zeroValue3
  t4:=Tryz.underlying4
  a4:=Tryz.isAgg4
  z4:=Tryz.sizeOf4
  v4:=Tryz.zeroValue4
  t5:=Tryz.underlying5
  a5:=Tryz.isAgg5
  z5:=Tryz.sizeOf5
  v5:=Tryz.zeroValue5
  t9:=Tryz.underlying9
  a9:=Tryz.isAgg9
  z9:=Tryz.sizeOf9
  v9:=Tryz.zeroValue9
  t46:=Tryz.underlying112
  a46:=Tryz.isAgg112
  z46:=Tryz.sizeOf112
  v46:=Tryz.zeroValue112
  t51:=Tryz.underlying172
  a51:=Tryz.isAgg172
  z51:=Tryz.sizeOf172
  v51:=Tryz.zeroValue172
  t146:=Tryz.underlying283
  a146:=Tryz.isAgg283
  z146:=Tryz.sizeOf283
  v146:=Tryz.zeroValue283
  g1:=by kernel_rfl
  i3:=by kernel_rfl
  i4:=by kernel_rfl
  i5:=by kernel_rfl
  i9:=by kernel_rfl
  i46:=by kernel_rfl
  i51:=by kernel_rfl
  i146:=by kernel_rfl
  m1:=by kernel_rfl
  s1_3:=fun w h=>Go.Proofs.cell_of_shapedOpen_int (zero:=#[.int .i64 0]) (t:=3) h (of_decide_eq_true (by kernel_rfl)) (by kernel_rfl) rfl (by kernel_rfl) (by kernel_rfl) Tryz.underlying3}
def Tryz.lays189_ren:Go.Shelf.Ren:=⟨fun|189=>27|125=>75|257=>74|128=>150|129=>151|294=>141|295=>142|296=>143|297=>144|298=>145|299=>146|216=>147|300=>148|301=>149|328=>192|329=>193|330=>194|331=>195|332=>196|215=>121|343=>242|n=>n,fun|28=>31|3=>3|46=>112|0=>0|51=>172|53=>174|4=>4|183=>165|182=>164|131=>149|5=>5|9=>9|218=>217|222=>133|228=>256|229=>118|n=>n,fun|n=>n⟩
theorem Tryz.lays189:Go.Proofs.Lays.n189 Tryz.prog Tryz.lays189_ren:={
  mixed:=by kernel_rfl
  f125:=Tryz.func75.trans (congrArg some (by kernel_rfl))
  f128:=Tryz.func150.trans (congrArg some (by kernel_rfl))
  f129:=Tryz.func151.trans (congrArg some (by kernel_rfl))
  f189:=Tryz.func27.trans (congrArg some (by kernel_rfl))
  f215:=Tryz.func121.trans (congrArg some (by kernel_rfl))
  f216:=Tryz.func147.trans (congrArg some (by kernel_rfl))
  f257:=Tryz.func74.trans (congrArg some (by kernel_rfl))
  f294:=Tryz.func141.trans (congrArg some (by kernel_rfl))
  f295:=Tryz.func142.trans (congrArg some (by kernel_rfl))
  f296:=Tryz.func143.trans (congrArg some (by kernel_rfl))
  f297:=Tryz.func144.trans (congrArg some (by kernel_rfl))
  f298:=Tryz.func145.trans (congrArg some (by kernel_rfl))
  f299:=Tryz.func146.trans (congrArg some (by kernel_rfl))
  f300:=Tryz.func148.trans (congrArg some (by kernel_rfl))
  f301:=Tryz.func149.trans (congrArg some (by kernel_rfl))
  f328:=Tryz.func192.trans (congrArg some (by kernel_rfl))
  f329:=Tryz.func193.trans (congrArg some (by kernel_rfl))
  f330:=Tryz.func194.trans (congrArg some (by kernel_rfl))
  f331:=Tryz.func195.trans (congrArg some (by kernel_rfl))
  f332:=Tryz.func196.trans (congrArg some (by kernel_rfl))
  f343:=Tryz.func242.trans (congrArg some (by kernel_rfl))
  t0:=Tryz.underlying0
  a0:=Tryz.isAgg0
  z0:=Tryz.sizeOf0
  v0:=Tryz.zeroValue0
  t3:=Tryz.underlying3
  a3:=Tryz.isAgg3
  z3:=Tryz.sizeOf3
  v3:=Tryz.zeroValue3
  t4:=Tryz.underlying4
  a4:=Tryz.isAgg4
  z4:=Tryz.sizeOf4
  v4:=Tryz.zeroValue4
  t5:=Tryz.underlying5
  a5:=Tryz.isAgg5
  z5:=Tryz.sizeOf5
  v5:=Tryz.zeroValue5
  t9:=Tryz.underlying9
  a9:=Tryz.isAgg9
  z9:=Tryz.sizeOf9
  v9:=Tryz.zeroValue9
  t28:=Tryz.underlying31
  a28:=Tryz.isAgg31
  z28:=Tryz.sizeOf31
  v28:=Tryz.zeroValue31
  t46:=Tryz.underlying112
  a46:=Tryz.isAgg112
  z46:=Tryz.sizeOf112
  v46:=Tryz.zeroValue112
  t51:=Tryz.underlying172
  a51:=Tryz.isAgg172
  z51:=Tryz.sizeOf172
  v51:=Tryz.zeroValue172
  t53:=Tryz.underlying174
  a53:=Tryz.isAgg174
  z53:=Tryz.sizeOf174
  v53:=Tryz.zeroValue174
  t131:=Tryz.underlying149
  a131:=Tryz.isAgg149
  z131:=Tryz.sizeOf149
  v131:=Tryz.zeroValue149
  t182:=Tryz.underlying164
  a182:=Tryz.isAgg164
  z182:=Tryz.sizeOf164
  v182:=Tryz.zeroValue164
  t183:=Tryz.underlying165
  a183:=Tryz.isAgg165
  z183:=Tryz.sizeOf165
  v183:=Tryz.zeroValue165
  t218:=Tryz.underlying217
  a218:=Tryz.isAgg217
  z218:=Tryz.sizeOf217
  v218:=Tryz.zeroValue217
  t222:=Tryz.underlying133
  a222:=Tryz.isAgg133
  z222:=Tryz.sizeOf133
  v222:=Tryz.zeroValue133
  t228:=Tryz.underlying256
  a228:=Tryz.isAgg256
  z228:=Tryz.sizeOf256
  v228:=Tryz.zeroValue256
  t229:=Tryz.underlying118
  a229:=Tryz.isAgg118
  z229:=Tryz.sizeOf118
  v229:=Tryz.zeroValue118}
open Go.Sort Go.RowKit in
theorem Tryz.slices_Sort_int(blk off cap:Nat)(zs:List Int)(w:World)(hH:Holds (Value.int .i64) w blk off zs.toArray)(hblk:blk<w.heap.size)(hsz:zs.length<4611686018427387904):
    Calls Tryz.prog 27 #[.slice (some ⟨blk,off,none⟩) zs.length cap] w fun e w'=>
      e= .returned (.tuple #[])∧ ∃n os,w'=grow (putRow (Value.int .i64) (Sort.ahead w n) blk off (zs.mergeSort fun x y=>decide (x≤y)).toArray) os:=Any.slices_Sort_int Tryz.lays189 blk off cap zs w hH hblk hsz
def Tryz.lays99_ren:Go.Shelf.Ren:=⟨fun|99=>159|206=>201|n=>n,fun|9=>9|4=>4|3=>3|n=>n,fun|n=>n⟩
theorem Tryz.lays99:Go.Proofs.Lays.n99 Tryz.prog Tryz.lays99_ren:={
  mixed:=by kernel_rfl
  f99:=Tryz.func159.trans (congrArg some (by kernel_rfl))
  f206:=Tryz.func201.trans (congrArg some (by kernel_rfl))
  t3:=Tryz.underlying3
  a3:=Tryz.isAgg3
  z3:=Tryz.sizeOf3
  v3:=Tryz.zeroValue3
  t4:=Tryz.underlying4
  a4:=Tryz.isAgg4
  z4:=Tryz.sizeOf4
  v4:=Tryz.zeroValue4
  t9:=Tryz.underlying9
  a9:=Tryz.isAgg9
  z9:=Tryz.sizeOf9
  v9:=Tryz.zeroValue9}
open Go.RowKit Go.Lib in
theorem Tryz.strings_HasPrefix(s p:ByteArray)(w:World):
    Calls Tryz.prog 159 #[.string s,.string p] w fun e w'=>e= .returned (.bool (Lib.hasPrefix s.data.toList p.data.toList))∧w'=w:=Any.strings_HasPrefix Tryz.lays99 s p w
def Tryz.lays146_ren:Go.Shelf.Ren:=⟨fun|146=>158|221=>200|268=>243|138=>244|143=>245|195=>267|197=>268|218=>269|219=>270|260=>276|217=>277|225=>278|224=>279|267=>280|266=>285|314=>286|n=>n,fun|9=>9|31=>177|3=>3|4=>4|0=>0|105=>270|21=>21|5=>5|46=>112|119=>279|139=>282|138=>281|146=>283|51=>172|n=>n,fun|1=>0|3=>1|4=>2|n=>n⟩
theorem Tryz.lays146:Go.Proofs.Lays.n146 Tryz.prog Tryz.lays146_ren:={
  mixed:=by kernel_rfl
  f138:=Tryz.func244.trans (congrArg some (by kernel_rfl))
  f143:=Tryz.func245.trans (congrArg some (by kernel_rfl))
  f146:=Tryz.func158.trans (congrArg some (by kernel_rfl))
  f195:=Tryz.func267.trans (congrArg some (by kernel_rfl))
  f197:=Tryz.func268.trans (congrArg some (by kernel_rfl))
  f217:=Tryz.func277.trans (congrArg some (by kernel_rfl))
  f218:=Tryz.func269.trans (congrArg some (by kernel_rfl))
  f219:=Tryz.func270.trans (congrArg some (by kernel_rfl))
  f221:=Tryz.func200.trans (congrArg some (by kernel_rfl))
  f224:=Tryz.func279.trans (congrArg some (by kernel_rfl))
  f225:=Tryz.func278.trans (congrArg some (by kernel_rfl))
  f260:=Tryz.func276.trans (congrArg some (by kernel_rfl))
  f266:=Tryz.func285.trans (congrArg some (by kernel_rfl))
  f267:=Tryz.func280.trans (congrArg some (by kernel_rfl))
  f268:=Tryz.func243.trans (congrArg some (by kernel_rfl))
  f314:=Tryz.func286.trans (congrArg some (by kernel_rfl))
  t0:=Tryz.underlying0
  a0:=Tryz.isAgg0
  z0:=Tryz.sizeOf0
  v0:=Tryz.zeroValue0
  t3:=Tryz.underlying3
  a3:=Tryz.isAgg3
  z3:=Tryz.sizeOf3
  v3:=Tryz.zeroValue3
  t4:=Tryz.underlying4
  a4:=Tryz.isAgg4
  z4:=Tryz.sizeOf4
  v4:=Tryz.zeroValue4
  t5:=Tryz.underlying5
  a5:=Tryz.isAgg5
  z5:=Tryz.sizeOf5
  v5:=Tryz.zeroValue5
  t9:=Tryz.underlying9
  a9:=Tryz.isAgg9
  z9:=Tryz.sizeOf9
  v9:=Tryz.zeroValue9
  t21:=Tryz.underlying21
  a21:=Tryz.isAgg21
  z21:=Tryz.sizeOf21
  v21:=Tryz.zeroValue21
  t31:=Tryz.underlying177
  a31:=Tryz.isAgg177
  z31:=Tryz.sizeOf177
  v31:=Tryz.zeroValue177
  t46:=Tryz.underlying112
  a46:=Tryz.isAgg112
  z46:=Tryz.sizeOf112
  v46:=Tryz.zeroValue112
  t51:=Tryz.underlying172
  a51:=Tryz.isAgg172
  z51:=Tryz.sizeOf172
  v51:=Tryz.zeroValue172
  t105:=Tryz.underlying270
  a105:=Tryz.isAgg270
  z105:=Tryz.sizeOf270
  v105:=Tryz.zeroValue270
  t119:=Tryz.underlying279
  a119:=Tryz.isAgg279
  z119:=Tryz.sizeOf279
  t138:=Tryz.underlying281
  a138:=Tryz.isAgg281
  z138:=Tryz.sizeOf281
  v138:=Tryz.zeroValue281
  t139:=Tryz.underlying282
  a139:=Tryz.isAgg282
  z139:=Tryz.sizeOf282
  v139:=Tryz.zeroValue282
  t146:=Tryz.underlying283
  a146:=Tryz.isAgg283
  z146:=Tryz.sizeOf283
  v146:=Tryz.zeroValue283
  g1:=by kernel_rfl
  g3:=by kernel_rfl
  g4:=by kernel_rfl}
open Go.RowKit Go.Lib in
theorem Tryz.strings_Split(s sep:ByteArray)(m:Int)(w:World)(hs:s.size<4294967281)(hm:w.cell? ⟨0,0,none⟩=some (.int .i64 m))(h1:1≤sep.size):
    Calls Tryz.prog 158 #[.string s,.string sep] w fun e w'=>
      e= .returned (.slice (some ⟨w.heap.size,0,none⟩) (Lib.countB s sep+1) (Lib.countB s sep+1))∧w'=w.alloc (.cells ((Lib.splitB sep 0 (Lib.countB s sep) s).map Value.string).toArray 9):=Any.strings_Split Tryz.lays146 (by kernel_rfl) s sep m w hs hm h1
def Tryz.laysNm220_ren:Go.Shelf.Ren:=⟨fun|20=>28|n=>n,fun|22=>31|3=>3|4=>4|0=>0|n=>n,fun|n=>n⟩
theorem Tryz.laysNm220:Go.Proofs.Lays2.n20 Tryz.prog Tryz.laysNm220_ren:={
  mixed:=by kernel_rfl
  f20:=Tryz.func28.trans (congrArg some (by kernel_rfl))
  t0:=Tryz.underlying0
  a0:=Tryz.isAgg0
  z0:=Tryz.sizeOf0
  v0:=Tryz.zeroValue0
  t3:=Tryz.underlying3
  a3:=Tryz.isAgg3
  z3:=Tryz.sizeOf3
  v3:=Tryz.zeroValue3
  t4:=Tryz.underlying4
  a4:=Tryz.isAgg4
  z4:=Tryz.sizeOf4
  v4:=Tryz.zeroValue4
  t22:=Tryz.underlying31
  a22:=Tryz.isAgg31
  z22:=Tryz.sizeOf31
  v22:=Tryz.zeroValue31
  i3:=by kernel_rfl}
open Go.RowKit Go.Lib Go.Sort in
theorem Tryz.slices_Compact_int(blk off cap:Nat)(zs:List Int)(w:World)(hH:Holds (Value.int .i64) w blk off zs.toArray)(hsz:zs.length≤9223372036854775807)(hcap:zs.length≤cap):
    Calls Tryz.prog 28 #[.slice (some ⟨blk,off,none⟩) zs.length cap] w fun e w'=>e= .returned (.slice (some ⟨blk,off,none⟩) (Lib.compact zs).length cap)∧ ∃q,w'=putRow (Value.int .i64) (Sort.ahead w q) blk off (Lib.compact zs++List.replicate (zs.length-(Lib.compact zs).length) 0).toArray:=Any.slices_Compact_int Tryz.laysNm220 blk off cap zs w hH hsz hcap
open Go.RowKit Go.Lib Go.Sort in
theorem Tryz.slices_Compact_int_empty(a:Option Addr)(cap:Nat)(w:World):
    Calls Tryz.prog 28 #[.slice a 0 cap] w fun e w'=>e= .returned (.slice a 0 cap)∧w'=w:=Any.slices_Compact_int_empty Tryz.laysNm220 a cap w
open Go.RowKit Go.Sort in
theorem Tryz.slices_Sort_int_none(p:Option Addr)(cap:Nat)(w:World):
    Calls Tryz.prog 27 #[.slice p 0 cap] w fun e w'=>e= .returned (.tuple #[])∧w'=w:=Any.slices_Sort_int_none Tryz.lays189 p cap w
end Go.Proofs
