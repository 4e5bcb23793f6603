/-
  DERIVED: THE SHELF's CONTRACTS AT THIS DUMP, IN PLAIN WORDS (tools/lay-plain.mjs out of 'TryzShelf.lean', which tools/lay-shelf.mjs wrote): THE SAME DECLARATIONS UNDER THE SAME NAMES: 'import', 'namespace', 'open', 'def', 'theorem' AND NOTHING ELSE: no command of the shelf's: FOR A HAND-IN. Each laying: the table of numbers ('.._ren') and one theorem, a field a fact of the dump's own or the kernel's comparison; each contract: ONE APPLICATION.
-/
import Derived.Shelf.Strings.Builder1
import Derived.Shelf.Small.Bits
import Derived.Shelf.Small.Strs
import Derived.Shelf.Strings.BuilderF
import Derived.Shelf.Strings.BuilderK
import Derived.Shelf.Strconv.Atoi
import Derived.Shelf.Strconv.Itoa0
import Derived.Shelf.Strconv.Itoa1
import Derived.Shelf.LaysM
import Derived.Shelf.Strconv.Itoa2
import Derived.Shelf.Strconv.Itoa3
import Derived.Shelf.Strconv.AtoiErrFast
import Derived.Shelf.Strconv.ParseIntEmpty
import Derived.Shelf.Strconv.AtoiFail
import Derived.Shelf.Strconv.Clone
import Derived.Shelf.Strconv.SyntaxError
import Derived.Shelf.LaysC
import Derived.Shelf.Strconv.ToError
import Derived.Shelf.Strconv.AtoiErr
import Derived.Shelf.Strconv.Lower
import Derived.Shelf.Strconv.ParseUint10
import Derived.Shelf.Strconv.ParseUint10Empty
import Derived.Shelf.Strconv.ParseUint10Any
import Derived.Shelf.Strconv.ParseInt10
import Derived.Shelf.Strconv.AtoiLong
import Derived.Shelf.Strconv.AtoiInnerAll
import Derived.Shelf.Strconv.RangeError
import Derived.Shelf.Strconv.ToErrorRange
import Derived.Shelf.Strconv.AtoiAll
import Derived.Shelf.Strings.Search1
import Derived.Shelf.Strings.Search2
import Derived.Shelf.Strings.Search3
import Derived.Shelf.Strings.Cut
import Derived.Shelf.Strings.Count
import Derived.Shelf.Strings.Shaped
import Derived.Shelf.Sort.Plain
import Derived.Shelf.Strings.Prefix
import Derived.Shelf.Strings.Split
import Derived.Shelf.Strings.SplitShaped
import Derived.Shelf.Unicode.Decode
import Derived.Shelf.Unicode.DecodeSlow
import Derived.Shelf.Unicode.DecodeAny
import Derived.Ground.Names2Prog
import Derived.Shelf.Slices.Clone
import Derived.Shelf.Slices.CompactI
import Derived.Shelf.Slices.SearchI
import Derived.Shelf.Slices.Cells
import Derived.Shelf.Slices.In.SortNone
import Derived.Ground.SlgnProg
import Derived.Shelf.SlicesE.Clone
import Derived.Test.YtebobfdheanknaaGreatDoorProg
namespace Go.Proofs
open Go.Shelf
def Tryz.lays169_ren:Go.Shelf.Ren:=⟨fun|169=>91|n=>n,fun|70=>148|9=>9|0=>0|72=>151|37=>149|127=>216|3=>3|5=>5|n=>n,fun|n=>n⟩
theorem Tryz.Builder_Extra_169:Builder.Extra Tryz.prog Tryz.lays169_ren:={
  sizeBuilder:=by kernel_rfl
  liesBuilder:=by kernel_rfl
  t5:=Tryz.underlying5
  a5:=Tryz.isAgg5
  z5:=Tryz.sizeOf5
  v5:=Tryz.zeroValue5
  infoByte:=by kernel_rfl
  cellsByte:=by kernel_rfl
  sizeByte:=by kernel_rfl
  neB5:=by decide}
def Tryz.lays106_ren:Go.Shelf.Ren:=⟨fun|106=>93|213=>192|265=>261|n=>n,fun|9=>9|3=>3|n=>n,fun|n=>n⟩
theorem Tryz.lays106:Go.Proofs.Lays.n106 Tryz.prog Tryz.lays106_ren:={
  mixed:=by kernel_rfl
  f106:=Tryz.func93.trans (congrArg some (by kernel_rfl))
  f213:=Tryz.func192.trans (congrArg some (by kernel_rfl))
  f265:=Tryz.func261.trans (congrArg some (by kernel_rfl))
  t3:=Tryz.underlying3
  a3:=Tryz.isAgg3
  z3:=Tryz.sizeOf3
  v3:=Tryz.zeroValue3
  t9:=Tryz.underlying9
  a9:=Tryz.isAgg9
  z9:=Tryz.sizeOf9
  v9:=Tryz.zeroValue9}
open Go.RowKit in
theorem Tryz.strings_Compare(a b:ByteArray)(w:World):
    Calls Tryz.prog 93 #[.string a,.string b] w fun e w'=>e= .returned (.int .i64 (Lib.compareBytes a.data.toList b.data.toList))∧w'=w:=Any.strings_Compare Tryz.lays106 a b w
def Tryz.laysM171_ren:Go.Shelf.Ren:=⟨fun|171=>242|243=>286|246=>301|283=>308|284=>309|285=>310|286=>311|129=>222|317=>318|318=>319|319=>320|320=>321|337=>325|338=>326|n=>n,fun|3=>3|9=>9|2=>2|4=>4|171=>310|0=>0|53=>245|37=>149|5=>5|173=>312|212=>320|51=>243|20=>20|213=>321|46=>177|232=>332|233=>333|n=>n,fun|17=>3|18=>6|19=>7|n=>n⟩
theorem Tryz.laysM171:Go.Proofs.LaysM.n171 Tryz.prog Tryz.laysM171_ren:={
  mixed:=by kernel_rfl
  f129:=Tryz.func222.trans (congrArg some (by kernel_rfl))
  f171:=Tryz.func242.trans (congrArg some (by kernel_rfl))
  f243:=Tryz.func286.trans (congrArg some (by kernel_rfl))
  f246:=Tryz.func301.trans (congrArg some (by kernel_rfl))
  f283:=Tryz.func308.trans (congrArg some (by kernel_rfl))
  f284:=Tryz.func309.trans (congrArg some (by kernel_rfl))
  f285:=Tryz.func310.trans (congrArg some (by kernel_rfl))
  f286:=Tryz.func311.trans (congrArg some (by kernel_rfl))
  f317:=Tryz.func318.trans (congrArg some (by kernel_rfl))
  f318:=Tryz.func319.trans (congrArg some (by kernel_rfl))
  f319:=Tryz.func320.trans (congrArg some (by kernel_rfl))
  f320:=Tryz.func321.trans (congrArg some (by kernel_rfl))
  f337:=Tryz.func325.trans (congrArg some (by kernel_rfl))
  f338:=Tryz.func326.trans (congrArg some (by kernel_rfl))
  t0:=Tryz.underlying0
  a0:=Tryz.isAgg0
  z0:=Tryz.sizeOf0
  v0:=Tryz.zeroValue0
  t2:=Tryz.underlying2
  a2:=Tryz.isAgg2
  z2:=Tryz.sizeOf2
  v2:=Tryz.zeroValue2
  t3:=Tryz.underlying3
  a3:=Tryz.isAgg3
  z3:=Tryz.sizeOf3
  v3:=Tryz.zeroValue3
  t4:=Tryz.underlying4
  a4:=Tryz.isAgg4
  z4:=Tryz.sizeOf4
  v4:=Tryz.zeroValue4
  t5:=Tryz.underlying5
  a5:=Tryz.isAgg5
  z5:=Tryz.sizeOf5
  v5:=Tryz.zeroValue5
  t9:=Tryz.underlying9
  a9:=Tryz.isAgg9
  z9:=Tryz.sizeOf9
  v9:=Tryz.zeroValue9
  t20:=Tryz.underlying20
  a20:=Tryz.isAgg20
  z20:=Tryz.sizeOf20
  v20:=Tryz.zeroValue20
  t37:=Tryz.underlying149
  a37:=Tryz.isAgg149
  z37:=Tryz.sizeOf149
  v37:=Tryz.zeroValue149
  t46:=Tryz.underlying177
  a46:=Tryz.isAgg177
  z46:=Tryz.sizeOf177
  v46:=Tryz.zeroValue177
  t51:=Tryz.underlying243
  a51:=Tryz.isAgg243
  z51:=Tryz.sizeOf243
  v51:=Tryz.zeroValue243
  t53:=Tryz.underlying245
  a53:=Tryz.isAgg245
  z53:=Tryz.sizeOf245
  v53:=Tryz.zeroValue245
  t171:=Tryz.underlying310
  a171:=Tryz.isAgg310
  z171:=Tryz.sizeOf310
  v171:=Tryz.zeroValue310
  t173:=Tryz.underlying312
  a173:=Tryz.isAgg312
  z173:=Tryz.sizeOf312
  v173:=Tryz.zeroValue312
  t212:=Tryz.underlying320
  a212:=Tryz.isAgg320
  z212:=Tryz.sizeOf320
  v212:=Tryz.zeroValue320
  t213:=Tryz.underlying321
  a213:=Tryz.isAgg321
  z213:=Tryz.sizeOf321
  t232:=Tryz.underlying332
  a232:=Tryz.isAgg332
  z232:=Tryz.sizeOf332
  v232:=Tryz.zeroValue332
  t233:=Tryz.underlying333
  a233:=Tryz.isAgg333
  z233:=Tryz.sizeOf333
  v233:=Tryz.zeroValue333
  g17:=by kernel_rfl
  g18:=by kernel_rfl
  g19:=by kernel_rfl
  i0:=by kernel_rfl
  i2:=by kernel_rfl
  i3:=by kernel_rfl
  i4:=by kernel_rfl
  i5:=by kernel_rfl
  i9:=by kernel_rfl
  i20:=by kernel_rfl
  i37:=by kernel_rfl
  i46:=by kernel_rfl
  i51:=by kernel_rfl
  i53:=by kernel_rfl
  i171:=by kernel_rfl
  i173:=by kernel_rfl
  i212:=by kernel_rfl
  i232:=by kernel_rfl
  i233:=by kernel_rfl
  m17:=by kernel_rfl
  m18:=by kernel_rfl
  m19:=by kernel_rfl}
open Go.RowKit Go.Sort Go.Lib in
theorem Tryz.strconv_Itoa(n:Int)(h0: -9223372036854775808≤n)(h1:n≤9223372036854775807)(w:World)(htab:Lib.TabIs Tryz.prog w "internal/strconv.uint64pow10" .u64 Lib.pow10Tab):
    Calls Tryz.prog 242 #[.int .i64 n] w fun e w'=>e= .returned (.string ⟨(Lib.itoa n).toArray⟩)∧ ∃k os,w'=grow (w.drewN k) os:=Any.strconv_Itoa Tryz.laysM171 n h0 h1 w htab
def Tryz.laysC172_ren:Go.Shelf.Ren:=⟨fun|172=>287|244=>302|245=>303|247=>312|279=>313|280=>314|281=>315|282=>316|287=>322|316=>323|171=>242|205=>324|321=>327|322=>328|243=>286|246=>301|283=>308|284=>309|285=>310|286=>311|129=>222|317=>318|318=>319|319=>320|320=>321|337=>325|338=>326|n=>n,fun|9=>9|3=>3|75=>209|76=>210|4=>4|5=>5|167=>314|37=>149|0=>0|85=>315|2=>2|168=>317|53=>245|175=>322|46=>177|210=>326|127=>216|145=>331|143=>329|21=>21|171=>310|173=>312|212=>320|51=>243|20=>20|213=>321|232=>332|233=>333|80=>162|n=>n,fun|15=>4|16=>5|17=>3|18=>6|19=>7|n=>n⟩
theorem Tryz.laysC172:Go.Proofs.LaysC.n172 Tryz.prog Tryz.laysC172_ren:={
  mixed:=by kernel_rfl
  f129:=Tryz.func222.trans (congrArg some (by kernel_rfl))
  f171:=Tryz.func242.trans (congrArg some (by kernel_rfl))
  f172:=Tryz.func287.trans (congrArg some (by kernel_rfl))
  f205:=Tryz.func324.trans (congrArg some (by kernel_rfl))
  f243:=Tryz.func286.trans (congrArg some (by kernel_rfl))
  f244:=Tryz.func302.trans (congrArg some (by kernel_rfl))
  f245:=Tryz.func303.trans (congrArg some (by kernel_rfl))
  f246:=Tryz.func301.trans (congrArg some (by kernel_rfl))
  f247:=Tryz.func312.trans (congrArg some (by kernel_rfl))
  f279:=Tryz.func313.trans (congrArg some (by kernel_rfl))
  f280:=Tryz.func314.trans (congrArg some (by kernel_rfl))
  f281:=Tryz.func315.trans (congrArg some (by kernel_rfl))
  f282:=Tryz.func316.trans (congrArg some (by kernel_rfl))
  f283:=Tryz.func308.trans (congrArg some (by kernel_rfl))
  f284:=Tryz.func309.trans (congrArg some (by kernel_rfl))
  f285:=Tryz.func310.trans (congrArg some (by kernel_rfl))
  f286:=Tryz.func311.trans (congrArg some (by kernel_rfl))
  f287:=Tryz.func322.trans (congrArg some (by kernel_rfl))
  f316:=Tryz.func323.trans (congrArg some (by kernel_rfl))
  f317:=Tryz.func318.trans (congrArg some (by kernel_rfl))
  f318:=Tryz.func319.trans (congrArg some (by kernel_rfl))
  f319:=Tryz.func320.trans (congrArg some (by kernel_rfl))
  f320:=Tryz.func321.trans (congrArg some (by kernel_rfl))
  f321:=Tryz.func327.trans (congrArg some (by kernel_rfl))
  f322:=Tryz.func328.trans (congrArg some (by kernel_rfl))
  f337:=Tryz.func325.trans (congrArg some (by kernel_rfl))
  f338:=Tryz.func326.trans (congrArg some (by kernel_rfl))
  t0:=Tryz.underlying0
  a0:=Tryz.isAgg0
  z0:=Tryz.sizeOf0
  v0:=Tryz.zeroValue0
  t2:=Tryz.underlying2
  a2:=Tryz.isAgg2
  z2:=Tryz.sizeOf2
  v2:=Tryz.zeroValue2
  t3:=Tryz.underlying3
  a3:=Tryz.isAgg3
  z3:=Tryz.sizeOf3
  v3:=Tryz.zeroValue3
  t4:=Tryz.underlying4
  a4:=Tryz.isAgg4
  z4:=Tryz.sizeOf4
  v4:=Tryz.zeroValue4
  t5:=Tryz.underlying5
  a5:=Tryz.isAgg5
  z5:=Tryz.sizeOf5
  v5:=Tryz.zeroValue5
  t9:=Tryz.underlying9
  a9:=Tryz.isAgg9
  z9:=Tryz.sizeOf9
  v9:=Tryz.zeroValue9
  t20:=Tryz.underlying20
  a20:=Tryz.isAgg20
  z20:=Tryz.sizeOf20
  v20:=Tryz.zeroValue20
  t21:=Tryz.underlying21
  a21:=Tryz.isAgg21
  z21:=Tryz.sizeOf21
  v21:=Tryz.zeroValue21
  t37:=Tryz.underlying149
  a37:=Tryz.isAgg149
  z37:=Tryz.sizeOf149
  v37:=Tryz.zeroValue149
  t46:=Tryz.underlying177
  a46:=Tryz.isAgg177
  z46:=Tryz.sizeOf177
  v46:=Tryz.zeroValue177
  t51:=Tryz.underlying243
  a51:=Tryz.isAgg243
  z51:=Tryz.sizeOf243
  v51:=Tryz.zeroValue243
  t53:=Tryz.underlying245
  a53:=Tryz.isAgg245
  z53:=Tryz.sizeOf245
  v53:=Tryz.zeroValue245
  t75:=Tryz.underlying209
  a75:=Tryz.isAgg209
  z75:=Tryz.sizeOf209
  v75:=Tryz.zeroValue209
  t76:=Tryz.underlying210
  a76:=Tryz.isAgg210
  z76:=Tryz.sizeOf210
  v76:=Tryz.zeroValue210
  t85:=Tryz.underlying315
  a85:=Tryz.isAgg315
  z85:=Tryz.sizeOf315
  v85:=Tryz.zeroValue315
  t127:=Tryz.underlying216
  a127:=Tryz.isAgg216
  z127:=Tryz.sizeOf216
  v127:=Tryz.zeroValue216
  t143:=Tryz.underlying329
  a143:=Tryz.isAgg329
  z143:=Tryz.sizeOf329
  v143:=Tryz.zeroValue329
  t145:=Tryz.underlying331
  a145:=Tryz.isAgg331
  z145:=Tryz.sizeOf331
  v145:=Tryz.zeroValue331
  t167:=Tryz.underlying314
  a167:=Tryz.isAgg314
  z167:=Tryz.sizeOf314
  v167:=Tryz.zeroValue314
  t168:=Tryz.underlying317
  a168:=Tryz.isAgg317
  z168:=Tryz.sizeOf317
  v168:=Tryz.zeroValue317
  t171:=Tryz.underlying310
  a171:=Tryz.isAgg310
  z171:=Tryz.sizeOf310
  v171:=Tryz.zeroValue310
  t173:=Tryz.underlying312
  a173:=Tryz.isAgg312
  z173:=Tryz.sizeOf312
  v173:=Tryz.zeroValue312
  t175:=Tryz.underlying322
  a175:=Tryz.isAgg322
  z175:=Tryz.sizeOf322
  v175:=Tryz.zeroValue322
  t210:=Tryz.underlying326
  a210:=Tryz.isAgg326
  z210:=Tryz.sizeOf326
  v210:=Tryz.zeroValue326
  t212:=Tryz.underlying320
  a212:=Tryz.isAgg320
  z212:=Tryz.sizeOf320
  v212:=Tryz.zeroValue320
  t213:=Tryz.underlying321
  a213:=Tryz.isAgg321
  z213:=Tryz.sizeOf321
  t232:=Tryz.underlying332
  a232:=Tryz.isAgg332
  z232:=Tryz.sizeOf332
  v232:=Tryz.zeroValue332
  t233:=Tryz.underlying333
  a233:=Tryz.isAgg333
  z233:=Tryz.sizeOf333
  v233:=Tryz.zeroValue333
  g15:=by kernel_rfl
  g16:=by kernel_rfl
  g17:=by kernel_rfl
  g18:=by kernel_rfl
  g19:=by kernel_rfl
  t80:=Tryz.underlying162
  a80:=Tryz.isAgg162
  z80:=Tryz.sizeOf162
  v80:=Tryz.zeroValue162
  i0:=by kernel_rfl
  i2:=by kernel_rfl
  i3:=by kernel_rfl
  i4:=by kernel_rfl
  i5:=by kernel_rfl
  i9:=by kernel_rfl
  i20:=by kernel_rfl
  i21:=by kernel_rfl
  i37:=by kernel_rfl
  i46:=by kernel_rfl
  i51:=by kernel_rfl
  i53:=by kernel_rfl
  i75:=by kernel_rfl
  i76:=by kernel_rfl
  i80:=by kernel_rfl
  i85:=by kernel_rfl
  i127:=by kernel_rfl
  i143:=by kernel_rfl
  i145:=by kernel_rfl
  i167:=by kernel_rfl
  i168:=by kernel_rfl
  i171:=by kernel_rfl
  i173:=by kernel_rfl
  i175:=by kernel_rfl
  i210:=by kernel_rfl
  i212:=by kernel_rfl
  i232:=by kernel_rfl
  i233:=by kernel_rfl
  m15:=by kernel_rfl
  m16:=by kernel_rfl
  m17:=by kernel_rfl
  m18:=by kernel_rfl
  m19:=by kernel_rfl
  c0:=by kernel_rfl
  c2:=by kernel_rfl
  c3:=by kernel_rfl
  c4:=by kernel_rfl
  c5:=by kernel_rfl
  c9:=by kernel_rfl
  c20:=by kernel_rfl
  c21:=by kernel_rfl
  c37:=by kernel_rfl
  c46:=by kernel_rfl
  c51:=by kernel_rfl
  c53:=by kernel_rfl
  c75:=by kernel_rfl
  c76:=by kernel_rfl
  c80:=by kernel_rfl
  c85:=by kernel_rfl
  c127:=by kernel_rfl
  c143:=by kernel_rfl
  c145:=by kernel_rfl
  c167:=by kernel_rfl
  c168:=by kernel_rfl
  c171:=by kernel_rfl
  c173:=by kernel_rfl
  c175:=by kernel_rfl
  c210:=by kernel_rfl
  c212:=by kernel_rfl
  c213:=by kernel_rfl
  c232:=by kernel_rfl
  c233:=by kernel_rfl}
open Go.RowKit in
theorem Tryz.strconv_Atoi_ok(s:ByteArray)(hmax:s.size≤9223372036854775806)(v:Int)(h:Lib.atoiAll s.data.toList= .ok v)(w:World):
    Calls Tryz.prog 287 #[.string s] w fun e w'=>e= .returned (.tuple #[.int .i64 v,.nilIface])∧(w'=w∨ ∃t,w'=Lib.bytesWorld w 5 t):=Any.strconv_Atoi_ok Tryz.laysC172 s hmax v h w
open Go.RowKit in
theorem Tryz.strconv_Atoi_range(s:ByteArray)(hlim:s.size≤281474976710656)(h:Lib.atoiAll s.data.toList= .range)(ev:Value)(w:World)(hv:w.cell? ⟨5,0,none⟩=some ev)(hev:ev= .nilIface∨ ∃te pe,ev= .iface te pe):
    Calls Tryz.prog 287 #[.string s] w fun e w'=> ∃N,e= .returned (.tuple #[.int .i64 (Lib.atoiSat s.data.toList),.iface 317 (.pointer (some ⟨N,0,none⟩))])∧w.heap.size≤N∧w'.heap[N]? =some (.cells #[.string ⟨#[65,116,111,105]⟩,.string s,ev] 326 (0,0))∧Below w.heap.size w w':=Any.strconv_Atoi_range Tryz.laysC172 s hlim h ev w hv hev
def Tryz.lays145_ren:Go.Shelf.Ren:=⟨fun|145=>285|220=>300|219=>284|217=>296|225=>297|224=>298|267=>299|266=>306|314=>307|n=>n,fun|9=>9|4=>4|59=>292|3=>3|5=>5|46=>177|146=>308|51=>243|n=>n,fun|1=>0|n=>n⟩
theorem Tryz.lays145:Go.Proofs.Lays.n145 Tryz.prog Tryz.lays145_ren:={
  mixed:=by kernel_rfl
  f145:=Tryz.func285.trans (congrArg some (by kernel_rfl))
  f217:=Tryz.func296.trans (congrArg some (by kernel_rfl))
  f219:=Tryz.func284.trans (congrArg some (by kernel_rfl))
  f220:=Tryz.func300.trans (congrArg some (by kernel_rfl))
  f224:=Tryz.func298.trans (congrArg some (by kernel_rfl))
  f225:=Tryz.func297.trans (congrArg some (by kernel_rfl))
  f266:=Tryz.func306.trans (congrArg some (by kernel_rfl))
  f267:=Tryz.func299.trans (congrArg some (by kernel_rfl))
  f314:=Tryz.func307.trans (congrArg some (by kernel_rfl))
  t3:=Tryz.underlying3
  a3:=Tryz.isAgg3
  z3:=Tryz.sizeOf3
  v3:=Tryz.zeroValue3
  t4:=Tryz.underlying4
  a4:=Tryz.isAgg4
  z4:=Tryz.sizeOf4
  v4:=Tryz.zeroValue4
  t5:=Tryz.underlying5
  a5:=Tryz.isAgg5
  z5:=Tryz.sizeOf5
  v5:=Tryz.zeroValue5
  t9:=Tryz.underlying9
  a9:=Tryz.isAgg9
  z9:=Tryz.sizeOf9
  v9:=Tryz.zeroValue9
  t46:=Tryz.underlying177
  a46:=Tryz.isAgg177
  z46:=Tryz.sizeOf177
  v46:=Tryz.zeroValue177
  t51:=Tryz.underlying243
  a51:=Tryz.isAgg243
  z51:=Tryz.sizeOf243
  v51:=Tryz.zeroValue243
  t59:=Tryz.underlying292
  a59:=Tryz.isAgg292
  z59:=Tryz.sizeOf292
  v59:=Tryz.zeroValue292
  t146:=Tryz.underlying308
  a146:=Tryz.isAgg308
  z146:=Tryz.sizeOf308
  v146:=Tryz.zeroValue308
  g1:=by kernel_rfl}
open Go.RowKit Go.Lib in
theorem Tryz.strings_Cut(s sep:ByteArray)(m:Int)(w:World)(hs:s.size<4294967281)(hm:w.cell? ⟨0,0,none⟩=some (.int .i64 m)):
    Calls Tryz.prog 285 #[.string s,.string sep] w fun e w'=>e= .returned (.tuple #[.string ⟨(Lib.cut s.data.toList sep.data.toList).1.toArray⟩,.string ⟨(Lib.cut s.data.toList sep.data.toList).2.1.toArray⟩,.bool (Lib.cut s.data.toList sep.data.toList).2.2])∧ ∃n,w'=w.drewN n:=Any.strings_Cut Tryz.lays145 s sep m w hs hm
def Tryz.laysM220_ren:Go.Shelf.Ren:=⟨fun|220=>300|219=>284|217=>296|225=>297|224=>298|267=>299|266=>306|314=>307|n=>n,fun|9=>9|4=>4|3=>3|5=>5|46=>177|146=>308|51=>243|n=>n,fun|1=>0|n=>n⟩
theorem Tryz.laysM220:Go.Proofs.LaysM.n220 Tryz.prog Tryz.laysM220_ren:={
  mixed:=by kernel_rfl
  f217:=Tryz.func296.trans (congrArg some (by kernel_rfl))
  f219:=Tryz.func284.trans (congrArg some (by kernel_rfl))
  f220:=Tryz.func300.trans (congrArg some (by kernel_rfl))
  f224:=Tryz.func298.trans (congrArg some (by kernel_rfl))
  f225:=Tryz.func297.trans (congrArg some (by kernel_rfl))
  f266:=Tryz.func306.trans (congrArg some (by kernel_rfl))
  f267:=Tryz.func299.trans (congrArg some (by kernel_rfl))
  f314:=Tryz.func307.trans (congrArg some (by kernel_rfl))
  t3:=Tryz.underlying3
  a3:=Tryz.isAgg3
  z3:=Tryz.sizeOf3
  v3:=Tryz.zeroValue3
  t4:=Tryz.underlying4
  a4:=Tryz.isAgg4
  z4:=Tryz.sizeOf4
  v4:=Tryz.zeroValue4
  t5:=Tryz.underlying5
  a5:=Tryz.isAgg5
  z5:=Tryz.sizeOf5
  v5:=Tryz.zeroValue5
  t9:=Tryz.underlying9
  a9:=Tryz.isAgg9
  z9:=Tryz.sizeOf9
  v9:=Tryz.zeroValue9
  t46:=Tryz.underlying177
  a46:=Tryz.isAgg177
  z46:=Tryz.sizeOf177
  v46:=Tryz.zeroValue177
  t51:=Tryz.underlying243
  a51:=Tryz.isAgg243
  z51:=Tryz.sizeOf243
  v51:=Tryz.zeroValue243
  t146:=Tryz.underlying308
  a146:=Tryz.isAgg308
  z146:=Tryz.sizeOf308
  v146:=Tryz.zeroValue308
  g1:=by kernel_rfl
  i3:=by kernel_rfl
  i4:=by kernel_rfl
  i5:=by kernel_rfl
  i9:=by kernel_rfl
  i46:=by kernel_rfl
  i51:=by kernel_rfl
  i146:=by kernel_rfl
  m1:=by kernel_rfl
  s1_3:=fun w h=>Go.Proofs.cell_of_shapedOpen_int (zero:=#[.int .i64 0]) (t:=3) h (of_decide_eq_true (by kernel_rfl)) (by kernel_rfl) rfl (by kernel_rfl) (by kernel_rfl) Tryz.underlying3}
def Tryz.lays189_ren:Go.Shelf.Ren:=⟨fun|189=>49|125=>120|257=>119|128=>221|129=>222|294=>212|295=>213|296=>214|297=>215|298=>216|299=>217|216=>218|300=>219|301=>220|328=>266|329=>267|330=>268|331=>269|332=>270|215=>194|343=>294|n=>n,fun|28=>23|3=>3|46=>177|0=>0|51=>243|53=>245|4=>4|183=>237|182=>236|131=>221|5=>5|9=>9|218=>274|222=>206|228=>300|229=>51|n=>n,fun|n=>n⟩
theorem Tryz.lays189:Go.Proofs.Lays.n189 Tryz.prog Tryz.lays189_ren:={
  mixed:=by kernel_rfl
  f125:=Tryz.func120.trans (congrArg some (by kernel_rfl))
  f128:=Tryz.func221.trans (congrArg some (by kernel_rfl))
  f129:=Tryz.func222.trans (congrArg some (by kernel_rfl))
  f189:=Tryz.func49.trans (congrArg some (by kernel_rfl))
  f215:=Tryz.func194.trans (congrArg some (by kernel_rfl))
  f216:=Tryz.func218.trans (congrArg some (by kernel_rfl))
  f257:=Tryz.func119.trans (congrArg some (by kernel_rfl))
  f294:=Tryz.func212.trans (congrArg some (by kernel_rfl))
  f295:=Tryz.func213.trans (congrArg some (by kernel_rfl))
  f296:=Tryz.func214.trans (congrArg some (by kernel_rfl))
  f297:=Tryz.func215.trans (congrArg some (by kernel_rfl))
  f298:=Tryz.func216.trans (congrArg some (by kernel_rfl))
  f299:=Tryz.func217.trans (congrArg some (by kernel_rfl))
  f300:=Tryz.func219.trans (congrArg some (by kernel_rfl))
  f301:=Tryz.func220.trans (congrArg some (by kernel_rfl))
  f328:=Tryz.func266.trans (congrArg some (by kernel_rfl))
  f329:=Tryz.func267.trans (congrArg some (by kernel_rfl))
  f330:=Tryz.func268.trans (congrArg some (by kernel_rfl))
  f331:=Tryz.func269.trans (congrArg some (by kernel_rfl))
  f332:=Tryz.func270.trans (congrArg some (by kernel_rfl))
  f343:=Tryz.func294.trans (congrArg some (by kernel_rfl))
  t0:=Tryz.underlying0
  a0:=Tryz.isAgg0
  z0:=Tryz.sizeOf0
  v0:=Tryz.zeroValue0
  t3:=Tryz.underlying3
  a3:=Tryz.isAgg3
  z3:=Tryz.sizeOf3
  v3:=Tryz.zeroValue3
  t4:=Tryz.underlying4
  a4:=Tryz.isAgg4
  z4:=Tryz.sizeOf4
  v4:=Tryz.zeroValue4
  t5:=Tryz.underlying5
  a5:=Tryz.isAgg5
  z5:=Tryz.sizeOf5
  v5:=Tryz.zeroValue5
  t9:=Tryz.underlying9
  a9:=Tryz.isAgg9
  z9:=Tryz.sizeOf9
  v9:=Tryz.zeroValue9
  t28:=Tryz.underlying23
  a28:=Tryz.isAgg23
  z28:=Tryz.sizeOf23
  v28:=Tryz.zeroValue23
  t46:=Tryz.underlying177
  a46:=Tryz.isAgg177
  z46:=Tryz.sizeOf177
  v46:=Tryz.zeroValue177
  t51:=Tryz.underlying243
  a51:=Tryz.isAgg243
  z51:=Tryz.sizeOf243
  v51:=Tryz.zeroValue243
  t53:=Tryz.underlying245
  a53:=Tryz.isAgg245
  z53:=Tryz.sizeOf245
  v53:=Tryz.zeroValue245
  t131:=Tryz.underlying221
  a131:=Tryz.isAgg221
  z131:=Tryz.sizeOf221
  v131:=Tryz.zeroValue221
  t182:=Tryz.underlying236
  a182:=Tryz.isAgg236
  z182:=Tryz.sizeOf236
  v182:=Tryz.zeroValue236
  t183:=Tryz.underlying237
  a183:=Tryz.isAgg237
  z183:=Tryz.sizeOf237
  v183:=Tryz.zeroValue237
  t218:=Tryz.underlying274
  a218:=Tryz.isAgg274
  z218:=Tryz.sizeOf274
  v218:=Tryz.zeroValue274
  t222:=Tryz.underlying206
  a222:=Tryz.isAgg206
  z222:=Tryz.sizeOf206
  v222:=Tryz.zeroValue206
  t228:=Tryz.underlying300
  a228:=Tryz.isAgg300
  z228:=Tryz.sizeOf300
  v228:=Tryz.zeroValue300
  t229:=Tryz.underlying51
  a229:=Tryz.isAgg51
  z229:=Tryz.sizeOf51
  v229:=Tryz.zeroValue51}
open Go.Sort Go.RowKit in
theorem Tryz.slices_Sort_int(blk off cap:Nat)(zs:List Int)(w:World)(hH:Holds (Value.int .i64) w blk off zs.toArray)(hblk:blk<w.heap.size)(hsz:zs.length<4611686018427387904):
    Calls Tryz.prog 49 #[.slice (some ⟨blk,off,none⟩) zs.length cap] w fun e w'=>
      e= .returned (.tuple #[])∧ ∃n os,w'=grow (putRow (Value.int .i64) (Sort.ahead w n) blk off (zs.mergeSort fun x y=>decide (x≤y)).toArray) os:=Any.slices_Sort_int Tryz.lays189 blk off cap zs w hH hblk hsz
def Tryz.lays99_ren:Go.Shelf.Ren:=⟨fun|99=>64|206=>138|n=>n,fun|9=>9|4=>4|3=>3|n=>n,fun|n=>n⟩
theorem Tryz.lays99:Go.Proofs.Lays.n99 Tryz.prog Tryz.lays99_ren:={
  mixed:=by kernel_rfl
  f99:=Tryz.func64.trans (congrArg some (by kernel_rfl))
  f206:=Tryz.func138.trans (congrArg some (by kernel_rfl))
  t3:=Tryz.underlying3
  a3:=Tryz.isAgg3
  z3:=Tryz.sizeOf3
  v3:=Tryz.zeroValue3
  t4:=Tryz.underlying4
  a4:=Tryz.isAgg4
  z4:=Tryz.sizeOf4
  v4:=Tryz.zeroValue4
  t9:=Tryz.underlying9
  a9:=Tryz.isAgg9
  z9:=Tryz.sizeOf9
  v9:=Tryz.zeroValue9}
open Go.RowKit Go.Lib in
theorem Tryz.strings_HasPrefix(s p:ByteArray)(w:World):
    Calls Tryz.prog 64 #[.string s,.string p] w fun e w'=>e= .returned (.bool (Lib.hasPrefix s.data.toList p.data.toList))∧w'=w:=Any.strings_HasPrefix Tryz.lays99 s p w
def Tryz.lays146_ren:Go.Shelf.Ren:=⟨fun|146=>63|221=>137|268=>236|138=>237|143=>238|195=>281|197=>282|218=>283|219=>284|260=>295|217=>296|225=>297|224=>298|267=>299|266=>306|314=>307|n=>n,fun|9=>9|31=>110|3=>3|4=>4|0=>0|105=>288|21=>21|5=>5|46=>177|119=>304|139=>307|138=>306|146=>308|51=>243|n=>n,fun|1=>0|3=>1|4=>2|n=>n⟩
theorem Tryz.lays146:Go.Proofs.Lays.n146 Tryz.prog Tryz.lays146_ren:={
  mixed:=by kernel_rfl
  f138:=Tryz.func237.trans (congrArg some (by kernel_rfl))
  f143:=Tryz.func238.trans (congrArg some (by kernel_rfl))
  f146:=Tryz.func63.trans (congrArg some (by kernel_rfl))
  f195:=Tryz.func281.trans (congrArg some (by kernel_rfl))
  f197:=Tryz.func282.trans (congrArg some (by kernel_rfl))
  f217:=Tryz.func296.trans (congrArg some (by kernel_rfl))
  f218:=Tryz.func283.trans (congrArg some (by kernel_rfl))
  f219:=Tryz.func284.trans (congrArg some (by kernel_rfl))
  f221:=Tryz.func137.trans (congrArg some (by kernel_rfl))
  f224:=Tryz.func298.trans (congrArg some (by kernel_rfl))
  f225:=Tryz.func297.trans (congrArg some (by kernel_rfl))
  f260:=Tryz.func295.trans (congrArg some (by kernel_rfl))
  f266:=Tryz.func306.trans (congrArg some (by kernel_rfl))
  f267:=Tryz.func299.trans (congrArg some (by kernel_rfl))
  f268:=Tryz.func236.trans (congrArg some (by kernel_rfl))
  f314:=Tryz.func307.trans (congrArg some (by kernel_rfl))
  t0:=Tryz.underlying0
  a0:=Tryz.isAgg0
  z0:=Tryz.sizeOf0
  v0:=Tryz.zeroValue0
  t3:=Tryz.underlying3
  a3:=Tryz.isAgg3
  z3:=Tryz.sizeOf3
  v3:=Tryz.zeroValue3
  t4:=Tryz.underlying4
  a4:=Tryz.isAgg4
  z4:=Tryz.sizeOf4
  v4:=Tryz.zeroValue4
  t5:=Tryz.underlying5
  a5:=Tryz.isAgg5
  z5:=Tryz.sizeOf5
  v5:=Tryz.zeroValue5
  t9:=Tryz.underlying9
  a9:=Tryz.isAgg9
  z9:=Tryz.sizeOf9
  v9:=Tryz.zeroValue9
  t21:=Tryz.underlying21
  a21:=Tryz.isAgg21
  z21:=Tryz.sizeOf21
  v21:=Tryz.zeroValue21
  t31:=Tryz.underlying110
  a31:=Tryz.isAgg110
  z31:=Tryz.sizeOf110
  v31:=Tryz.zeroValue110
  t46:=Tryz.underlying177
  a46:=Tryz.isAgg177
  z46:=Tryz.sizeOf177
  v46:=Tryz.zeroValue177
  t51:=Tryz.underlying243
  a51:=Tryz.isAgg243
  z51:=Tryz.sizeOf243
  v51:=Tryz.zeroValue243
  t105:=Tryz.underlying288
  a105:=Tryz.isAgg288
  z105:=Tryz.sizeOf288
  v105:=Tryz.zeroValue288
  t119:=Tryz.underlying304
  a119:=Tryz.isAgg304
  z119:=Tryz.sizeOf304
  t138:=Tryz.underlying306
  a138:=Tryz.isAgg306
  z138:=Tryz.sizeOf306
  v138:=Tryz.zeroValue306
  t139:=Tryz.underlying307
  a139:=Tryz.isAgg307
  z139:=Tryz.sizeOf307
  v139:=Tryz.zeroValue307
  t146:=Tryz.underlying308
  a146:=Tryz.isAgg308
  z146:=Tryz.sizeOf308
  v146:=Tryz.zeroValue308
  g1:=by kernel_rfl
  g3:=by kernel_rfl
  g4:=by kernel_rfl}
open Go.RowKit Go.Lib in
theorem Tryz.strings_Split(s sep:ByteArray)(m:Int)(w:World)(hs:s.size<4294967281)(hm:w.cell? ⟨0,0,none⟩=some (.int .i64 m))(h1:1≤sep.size):
    Calls Tryz.prog 63 #[.string s,.string sep] w fun e w'=>
      e= .returned (.slice (some ⟨w.heap.size,0,none⟩) (Lib.countB s sep+1) (Lib.countB s sep+1))∧w'=w.alloc (.cells ((Lib.splitB sep 0 (Lib.countB s sep) s).map Value.string).toArray 9):=Any.strings_Split Tryz.lays146 (by kernel_rfl) s sep m w hs hm h1
def Tryz.laysNm220_ren:Go.Shelf.Ren:=⟨fun|20=>50|n=>n,fun|22=>23|3=>3|4=>4|0=>0|n=>n,fun|n=>n⟩
theorem Tryz.laysNm220:Go.Proofs.Lays2.n20 Tryz.prog Tryz.laysNm220_ren:={
  mixed:=by kernel_rfl
  f20:=Tryz.func50.trans (congrArg some (by kernel_rfl))
  t0:=Tryz.underlying0
  a0:=Tryz.isAgg0
  z0:=Tryz.sizeOf0
  v0:=Tryz.zeroValue0
  t3:=Tryz.underlying3
  a3:=Tryz.isAgg3
  z3:=Tryz.sizeOf3
  v3:=Tryz.zeroValue3
  t4:=Tryz.underlying4
  a4:=Tryz.isAgg4
  z4:=Tryz.sizeOf4
  v4:=Tryz.zeroValue4
  t22:=Tryz.underlying23
  a22:=Tryz.isAgg23
  z22:=Tryz.sizeOf23
  v22:=Tryz.zeroValue23
  i3:=by kernel_rfl}
open Go.RowKit Go.Lib Go.Sort in
theorem Tryz.slices_Compact_int(blk off cap:Nat)(zs:List Int)(w:World)(hH:Holds (Value.int .i64) w blk off zs.toArray)(hsz:zs.length≤9223372036854775807)(hcap:zs.length≤cap):
    Calls Tryz.prog 50 #[.slice (some ⟨blk,off,none⟩) zs.length cap] w fun e w'=>e= .returned (.slice (some ⟨blk,off,none⟩) (Lib.compact zs).length cap)∧ ∃q,w'=putRow (Value.int .i64) (Sort.ahead w q) blk off (Lib.compact zs++List.replicate (zs.length-(Lib.compact zs).length) 0).toArray:=Any.slices_Compact_int Tryz.laysNm220 blk off cap zs w hH hsz hcap
open Go.RowKit Go.Lib Go.Sort in
theorem Tryz.slices_Compact_int_empty(a:Option Addr)(cap:Nat)(w:World):
    Calls Tryz.prog 50 #[.slice a 0 cap] w fun e w'=>e= .returned (.slice a 0 cap)∧w'=w:=Any.slices_Compact_int_empty Tryz.laysNm220 a cap w
open Go.RowKit Go.Sort in
theorem Tryz.slices_Sort_int_none(p:Option Addr)(cap:Nat)(w:World):
    Calls Tryz.prog 49 #[.slice p 0 cap] w fun e w'=>e= .returned (.tuple #[])∧w'=w:=Any.slices_Sort_int_none Tryz.lays189 p cap w
end Go.Proofs
