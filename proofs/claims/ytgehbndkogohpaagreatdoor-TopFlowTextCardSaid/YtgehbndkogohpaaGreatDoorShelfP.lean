/-
  DERIVED: THE SHELF's CONTRACTS AT THIS DUMP, IN PLAIN WORDS (tools/lay-plain.mjs out of 'TryzShelf.lean', which tools/lay-shelf.mjs wrote): THE SAME DECLARATIONS UNDER THE SAME NAMES: 'import', 'namespace', 'open', 'def', 'theorem' AND NOTHING ELSE: no command of the shelf's: FOR A HAND-IN. Each laying: the table of numbers ('.._ren') and one theorem, a field a fact of the dump's own or the kernel's comparison; each contract: ONE APPLICATION.
-/
import Derived.Shelf.Strings.Builder1
import Derived.Shelf.Strings.Builder2
import Derived.Shelf.Strings.OnBuilder
import Derived.Shelf.Small.Bits
import Derived.Shelf.Small.Strs
import Derived.Shelf.Strings.BuilderF
import Derived.Shelf.Strings.BuilderK
import Derived.Shelf.Strconv.Atoi
import Derived.Shelf.Strconv.Itoa0
import Derived.Shelf.Strconv.Itoa1
import Derived.Shelf.LaysM
import Derived.Shelf.Strconv.Itoa2
import Derived.Shelf.Strconv.Itoa3
import Derived.Shelf.Strconv.AtoiErrFast
import Derived.Shelf.Strconv.ParseIntEmpty
import Derived.Shelf.Strconv.AtoiFail
import Derived.Shelf.Strconv.Clone
import Derived.Shelf.Strconv.SyntaxError
import Derived.Shelf.LaysC
import Derived.Shelf.Strconv.ToError
import Derived.Shelf.Strconv.AtoiErr
import Derived.Shelf.Strconv.Lower
import Derived.Shelf.Strconv.ParseUint10
import Derived.Shelf.Strconv.ParseUint10Empty
import Derived.Shelf.Strconv.ParseUint10Any
import Derived.Shelf.Strconv.ParseInt10
import Derived.Shelf.Strconv.AtoiLong
import Derived.Shelf.Strconv.AtoiInnerAll
import Derived.Shelf.Strconv.RangeError
import Derived.Shelf.Strconv.ToErrorRange
import Derived.Shelf.Strconv.AtoiAll
import Derived.Shelf.Strings.Search1
import Derived.Shelf.Strings.Search2
import Derived.Shelf.Strings.Search3
import Derived.Shelf.Strings.Cut
import Derived.Shelf.Strings.Count
import Derived.Shelf.Strings.Shaped
import Derived.Shelf.Sort.Plain
import Derived.Shelf.Strings.Prefix
import Derived.Shelf.Strings.Split
import Derived.Shelf.Strings.SplitShaped
import Derived.Shelf.Unicode.Decode
import Derived.Shelf.Bits.Mul64
import Derived.Shelf.Unicode.DecodeSlow
import Derived.Shelf.Unicode.DecodeAny
import Derived.Ground.Names2Prog
import Derived.Shelf.Slices.Clone
import Derived.Shelf.Slices.CompactI
import Derived.Shelf.Slices.SearchI
import Derived.Shelf.Slices.Cells
import Derived.Shelf.Slices.In.SortNone
import Derived.Ground.SlgnProg
import Derived.Shelf.SlicesE.Clone
import Derived.Test.YtgehbndkogohpaaGreatDoorProg
namespace Go.Proofs
open Go.Shelf
def Tryz.lays169_ren:Go.Shelf.Ren:=⟨fun|169=>52|n=>n,fun|70=>114|9=>9|0=>0|72=>117|37=>115|127=>196|3=>3|5=>5|n=>n,fun|n=>n⟩
theorem Tryz.Builder_Extra_169:Builder.Extra Tryz.prog Tryz.lays169_ren:={
  sizeBuilder:=by kernel_rfl
  liesBuilder:=by kernel_rfl
  t5:=Tryz.underlying5
  a5:=Tryz.isAgg5
  z5:=Tryz.sizeOf5
  v5:=Tryz.zeroValue5
  infoByte:=by kernel_rfl
  cellsByte:=by kernel_rfl
  sizeByte:=by kernel_rfl
  neB5:=by decide}
def Tryz.lays156_ren:Go.Shelf.Ren:=⟨fun|156=>228|165=>269|166=>47|169=>52|240=>125|241=>291|276=>226|277=>305|n=>n,fun|31=>263|9=>9|3=>3|4=>4|0=>0|20=>20|72=>117|76=>120|70=>114|37=>115|75=>119|127=>196|164=>272|5=>5|80=>126|n=>n,fun|n=>n⟩
theorem Tryz.lays156:Go.Proofs.Lays.n156 Tryz.prog Tryz.lays156_ren:={
  mixed:=by kernel_rfl
  f156:=Tryz.func228.trans (congrArg some (by kernel_rfl))
  f165:=Tryz.func269.trans (congrArg some (by kernel_rfl))
  f166:=Tryz.func47.trans (congrArg some (by kernel_rfl))
  f169:=Tryz.func52.trans (congrArg some (by kernel_rfl))
  f240:=Tryz.func125.trans (congrArg some (by kernel_rfl))
  f241:=Tryz.func291.trans (congrArg some (by kernel_rfl))
  f276:=Tryz.func226.trans (congrArg some (by kernel_rfl))
  f277:=Tryz.func305.trans (congrArg some (by kernel_rfl))
  t0:=Tryz.underlying0
  a0:=Tryz.isAgg0
  z0:=Tryz.sizeOf0
  v0:=Tryz.zeroValue0
  t3:=Tryz.underlying3
  a3:=Tryz.isAgg3
  z3:=Tryz.sizeOf3
  v3:=Tryz.zeroValue3
  t4:=Tryz.underlying4
  a4:=Tryz.isAgg4
  z4:=Tryz.sizeOf4
  v4:=Tryz.zeroValue4
  t9:=Tryz.underlying9
  a9:=Tryz.isAgg9
  z9:=Tryz.sizeOf9
  v9:=Tryz.zeroValue9
  t20:=Tryz.underlying20
  a20:=Tryz.isAgg20
  z20:=Tryz.sizeOf20
  v20:=Tryz.zeroValue20
  t31:=Tryz.underlying263
  a31:=Tryz.isAgg263
  z31:=Tryz.sizeOf263
  v31:=Tryz.zeroValue263
  t37:=Tryz.underlying115
  a37:=Tryz.isAgg115
  z37:=Tryz.sizeOf115
  v37:=Tryz.zeroValue115
  t70:=Tryz.underlying114
  a70:=Tryz.isAgg114
  z70:=Tryz.sizeOf114
  v70:=Tryz.zeroValue114
  t72:=Tryz.underlying117
  a72:=Tryz.isAgg117
  z72:=Tryz.sizeOf117
  v72:=Tryz.zeroValue117
  t75:=Tryz.underlying119
  a75:=Tryz.isAgg119
  z75:=Tryz.sizeOf119
  v75:=Tryz.zeroValue119
  t76:=Tryz.underlying120
  a76:=Tryz.isAgg120
  z76:=Tryz.sizeOf120
  v76:=Tryz.zeroValue120
  t127:=Tryz.underlying196
  a127:=Tryz.isAgg196
  z127:=Tryz.sizeOf196
  v127:=Tryz.zeroValue196
  t164:=Tryz.underlying272
  a164:=Tryz.isAgg272
  z164:=Tryz.sizeOf272
  v164:=Tryz.zeroValue272}
theorem Tryz.Builder_Extra_156:Builder.Extra Tryz.prog Tryz.lays156_ren:={
  sizeBuilder:=by kernel_rfl
  liesBuilder:=by kernel_rfl
  t5:=Tryz.underlying5
  a5:=Tryz.isAgg5
  z5:=Tryz.sizeOf5
  v5:=Tryz.zeroValue5
  infoByte:=by kernel_rfl
  cellsByte:=by kernel_rfl
  sizeByte:=by kernel_rfl
  neB5:=by decide}
open Go.RowKit in
theorem Tryz.strings_Join_none(a:Option Addr)(c:Nat)(sep:ByteArray)(w:World):
    Calls Tryz.prog 228 #[.slice a 0 c,.string sep] w fun e w'=>e= .returned (.string ⟨#[]⟩)∧w'=w:=Any.strings_Join_none Tryz.lays156 Tryz.Builder_Extra_156 a c sep w
open Go.RowKit in
theorem Tryz.strings_Join(bk o c:Nat)(xs:List ByteArray)(sep:ByteArray)(w:World)(hcells: ∀(j:Nat) x,xs[j]? =some x→w.cell? ⟨bk,o+j,none⟩=some (.string x))(hbk:bk<w.heap.size)(hN:xs.length≤140737488355328)(hcap:xs.length≤c)(hlen:(Lib.join (xs.map (·.data.toList)) sep.data.toList).length≤140737488355328):
    Calls Tryz.prog 228 #[.slice (some ⟨bk,o,none⟩) xs.length c,.string sep] w fun e w'=>e= .returned (.string ⟨(Lib.join (xs.map (·.data.toList)) sep.data.toList).toArray⟩)∧Below w.heap.size w w':=Any.strings_Join Tryz.lays156 Tryz.Builder_Extra_156 bk o c xs sep w hcells hbk hN hcap hlen
def Tryz.lays106_ren:Go.Shelf.Ren:=⟨fun|106=>74|213=>182|265=>247|n=>n,fun|9=>9|3=>3|n=>n,fun|n=>n⟩
theorem Tryz.lays106:Go.Proofs.Lays.n106 Tryz.prog Tryz.lays106_ren:={
  mixed:=by kernel_rfl
  f106:=Tryz.func74.trans (congrArg some (by kernel_rfl))
  f213:=Tryz.func182.trans (congrArg some (by kernel_rfl))
  f265:=Tryz.func247.trans (congrArg some (by kernel_rfl))
  t3:=Tryz.underlying3
  a3:=Tryz.isAgg3
  z3:=Tryz.sizeOf3
  v3:=Tryz.zeroValue3
  t9:=Tryz.underlying9
  a9:=Tryz.isAgg9
  z9:=Tryz.sizeOf9
  v9:=Tryz.zeroValue9}
open Go.RowKit in
theorem Tryz.strings_Compare(a b:ByteArray)(w:World):
    Calls Tryz.prog 74 #[.string a,.string b] w fun e w'=>e= .returned (.int .i64 (Lib.compareBytes a.data.toList b.data.toList))∧w'=w:=Any.strings_Compare Tryz.lays106 a b w
def Tryz.laysM171_ren:Go.Shelf.Ren:=⟨fun|171=>49|243=>126|246=>227|283=>265|284=>266|285=>267|286=>268|129=>213|317=>287|318=>288|319=>289|320=>290|337=>303|338=>304|n=>n,fun|3=>3|9=>9|2=>2|4=>4|171=>309|0=>0|53=>261|37=>115|5=>5|173=>311|212=>331|51=>259|20=>20|213=>332|46=>174|232=>346|233=>347|n=>n,fun|17=>1|18=>2|19=>3|n=>n⟩
theorem Tryz.laysM171:Go.Proofs.LaysM.n171 Tryz.prog Tryz.laysM171_ren:={
  mixed:=by kernel_rfl
  f129:=Tryz.func213.trans (congrArg some (by kernel_rfl))
  f171:=Tryz.func49.trans (congrArg some (by kernel_rfl))
  f243:=Tryz.func126.trans (congrArg some (by kernel_rfl))
  f246:=Tryz.func227.trans (congrArg some (by kernel_rfl))
  f283:=Tryz.func265.trans (congrArg some (by kernel_rfl))
  f284:=Tryz.func266.trans (congrArg some (by kernel_rfl))
  f285:=Tryz.func267.trans (congrArg some (by kernel_rfl))
  f286:=Tryz.func268.trans (congrArg some (by kernel_rfl))
  f317:=Tryz.func287.trans (congrArg some (by kernel_rfl))
  f318:=Tryz.func288.trans (congrArg some (by kernel_rfl))
  f319:=Tryz.func289.trans (congrArg some (by kernel_rfl))
  f320:=Tryz.func290.trans (congrArg some (by kernel_rfl))
  f337:=Tryz.func303.trans (congrArg some (by kernel_rfl))
  f338:=Tryz.func304.trans (congrArg some (by kernel_rfl))
  t0:=Tryz.underlying0
  a0:=Tryz.isAgg0
  z0:=Tryz.sizeOf0
  v0:=Tryz.zeroValue0
  t2:=Tryz.underlying2
  a2:=Tryz.isAgg2
  z2:=Tryz.sizeOf2
  v2:=Tryz.zeroValue2
  t3:=Tryz.underlying3
  a3:=Tryz.isAgg3
  z3:=Tryz.sizeOf3
  v3:=Tryz.zeroValue3
  t4:=Tryz.underlying4
  a4:=Tryz.isAgg4
  z4:=Tryz.sizeOf4
  v4:=Tryz.zeroValue4
  t5:=Tryz.underlying5
  a5:=Tryz.isAgg5
  z5:=Tryz.sizeOf5
  v5:=Tryz.zeroValue5
  t9:=Tryz.underlying9
  a9:=Tryz.isAgg9
  z9:=Tryz.sizeOf9
  v9:=Tryz.zeroValue9
  t20:=Tryz.underlying20
  a20:=Tryz.isAgg20
  z20:=Tryz.sizeOf20
  v20:=Tryz.zeroValue20
  t37:=Tryz.underlying115
  a37:=Tryz.isAgg115
  z37:=Tryz.sizeOf115
  v37:=Tryz.zeroValue115
  t46:=Tryz.underlying174
  a46:=Tryz.isAgg174
  z46:=Tryz.sizeOf174
  v46:=Tryz.zeroValue174
  t51:=Tryz.underlying259
  a51:=Tryz.isAgg259
  z51:=Tryz.sizeOf259
  v51:=Tryz.zeroValue259
  t53:=Tryz.underlying261
  a53:=Tryz.isAgg261
  z53:=Tryz.sizeOf261
  v53:=Tryz.zeroValue261
  t171:=Tryz.underlying309
  a171:=Tryz.isAgg309
  z171:=Tryz.sizeOf309
  v171:=Tryz.zeroValue309
  t173:=Tryz.underlying311
  a173:=Tryz.isAgg311
  z173:=Tryz.sizeOf311
  v173:=Tryz.zeroValue311
  t212:=Tryz.underlying331
  a212:=Tryz.isAgg331
  z212:=Tryz.sizeOf331
  v212:=Tryz.zeroValue331
  t213:=Tryz.underlying332
  a213:=Tryz.isAgg332
  z213:=Tryz.sizeOf332
  t232:=Tryz.underlying346
  a232:=Tryz.isAgg346
  z232:=Tryz.sizeOf346
  v232:=Tryz.zeroValue346
  t233:=Tryz.underlying347
  a233:=Tryz.isAgg347
  z233:=Tryz.sizeOf347
  v233:=Tryz.zeroValue347
  g17:=by kernel_rfl
  g18:=by kernel_rfl
  g19:=by kernel_rfl
  i0:=by kernel_rfl
  i2:=by kernel_rfl
  i3:=by kernel_rfl
  i4:=by kernel_rfl
  i5:=by kernel_rfl
  i9:=by kernel_rfl
  i20:=by kernel_rfl
  i37:=by kernel_rfl
  i46:=by kernel_rfl
  i51:=by kernel_rfl
  i53:=by kernel_rfl
  i171:=by kernel_rfl
  i173:=by kernel_rfl
  i212:=by kernel_rfl
  i232:=by kernel_rfl
  i233:=by kernel_rfl
  m17:=by kernel_rfl
  m18:=by kernel_rfl
  m19:=by kernel_rfl}
open Go.RowKit Go.Sort Go.Lib in
theorem Tryz.strconv_Itoa(n:Int)(h0: -9223372036854775808≤n)(h1:n≤9223372036854775807)(w:World)(htab:Lib.TabIs Tryz.prog w "internal/strconv.uint64pow10" .u64 Lib.pow10Tab):
    Calls Tryz.prog 49 #[.int .i64 n] w fun e w'=>e= .returned (.string ⟨(Lib.itoa n).toArray⟩)∧ ∃k os,w'=grow (w.drewN k) os:=Any.strconv_Itoa Tryz.laysM171 n h0 h1 w htab
def Tryz.laysC172_ren:Go.Shelf.Ren:=⟨fun|172=>302|244=>313|245=>314|247=>317|279=>318|280=>319|281=>320|282=>321|287=>322|316=>323|171=>49|205=>324|321=>325|322=>326|243=>126|246=>227|283=>265|284=>266|285=>267|286=>268|129=>213|317=>287|318=>288|319=>289|320=>290|337=>303|338=>304|n=>n,fun|9=>9|3=>3|75=>119|76=>120|4=>4|5=>5|167=>353|37=>115|0=>0|85=>354|2=>2|168=>356|53=>261|175=>359|46=>174|210=>363|127=>196|145=>369|143=>367|21=>21|171=>309|173=>311|212=>331|51=>259|20=>20|213=>332|232=>346|233=>347|80=>126|n=>n,fun|15=>6|16=>7|17=>1|18=>2|19=>3|n=>n⟩
theorem Tryz.laysC172:Go.Proofs.LaysC.n172 Tryz.prog Tryz.laysC172_ren:={
  mixed:=by kernel_rfl
  f129:=Tryz.func213.trans (congrArg some (by kernel_rfl))
  f171:=Tryz.func49.trans (congrArg some (by kernel_rfl))
  f172:=Tryz.func302.trans (congrArg some (by kernel_rfl))
  f205:=Tryz.func324.trans (congrArg some (by kernel_rfl))
  f243:=Tryz.func126.trans (congrArg some (by kernel_rfl))
  f244:=Tryz.func313.trans (congrArg some (by kernel_rfl))
  f245:=Tryz.func314.trans (congrArg some (by kernel_rfl))
  f246:=Tryz.func227.trans (congrArg some (by kernel_rfl))
  f247:=Tryz.func317.trans (congrArg some (by kernel_rfl))
  f279:=Tryz.func318.trans (congrArg some (by kernel_rfl))
  f280:=Tryz.func319.trans (congrArg some (by kernel_rfl))
  f281:=Tryz.func320.trans (congrArg some (by kernel_rfl))
  f282:=Tryz.func321.trans (congrArg some (by kernel_rfl))
  f283:=Tryz.func265.trans (congrArg some (by kernel_rfl))
  f284:=Tryz.func266.trans (congrArg some (by kernel_rfl))
  f285:=Tryz.func267.trans (congrArg some (by kernel_rfl))
  f286:=Tryz.func268.trans (congrArg some (by kernel_rfl))
  f287:=Tryz.func322.trans (congrArg some (by kernel_rfl))
  f316:=Tryz.func323.trans (congrArg some (by kernel_rfl))
  f317:=Tryz.func287.trans (congrArg some (by kernel_rfl))
  f318:=Tryz.func288.trans (congrArg some (by kernel_rfl))
  f319:=Tryz.func289.trans (congrArg some (by kernel_rfl))
  f320:=Tryz.func290.trans (congrArg some (by kernel_rfl))
  f321:=Tryz.func325.trans (congrArg some (by kernel_rfl))
  f322:=Tryz.func326.trans (congrArg some (by kernel_rfl))
  f337:=Tryz.func303.trans (congrArg some (by kernel_rfl))
  f338:=Tryz.func304.trans (congrArg some (by kernel_rfl))
  t0:=Tryz.underlying0
  a0:=Tryz.isAgg0
  z0:=Tryz.sizeOf0
  v0:=Tryz.zeroValue0
  t2:=Tryz.underlying2
  a2:=Tryz.isAgg2
  z2:=Tryz.sizeOf2
  v2:=Tryz.zeroValue2
  t3:=Tryz.underlying3
  a3:=Tryz.isAgg3
  z3:=Tryz.sizeOf3
  v3:=Tryz.zeroValue3
  t4:=Tryz.underlying4
  a4:=Tryz.isAgg4
  z4:=Tryz.sizeOf4
  v4:=Tryz.zeroValue4
  t5:=Tryz.underlying5
  a5:=Tryz.isAgg5
  z5:=Tryz.sizeOf5
  v5:=Tryz.zeroValue5
  t9:=Tryz.underlying9
  a9:=Tryz.isAgg9
  z9:=Tryz.sizeOf9
  v9:=Tryz.zeroValue9
  t20:=Tryz.underlying20
  a20:=Tryz.isAgg20
  z20:=Tryz.sizeOf20
  v20:=Tryz.zeroValue20
  t21:=Tryz.underlying21
  a21:=Tryz.isAgg21
  z21:=Tryz.sizeOf21
  v21:=Tryz.zeroValue21
  t37:=Tryz.underlying115
  a37:=Tryz.isAgg115
  z37:=Tryz.sizeOf115
  v37:=Tryz.zeroValue115
  t46:=Tryz.underlying174
  a46:=Tryz.isAgg174
  z46:=Tryz.sizeOf174
  v46:=Tryz.zeroValue174
  t51:=Tryz.underlying259
  a51:=Tryz.isAgg259
  z51:=Tryz.sizeOf259
  v51:=Tryz.zeroValue259
  t53:=Tryz.underlying261
  a53:=Tryz.isAgg261
  z53:=Tryz.sizeOf261
  v53:=Tryz.zeroValue261
  t75:=Tryz.underlying119
  a75:=Tryz.isAgg119
  z75:=Tryz.sizeOf119
  v75:=Tryz.zeroValue119
  t76:=Tryz.underlying120
  a76:=Tryz.isAgg120
  z76:=Tryz.sizeOf120
  v76:=Tryz.zeroValue120
  t85:=Tryz.underlying354
  a85:=Tryz.isAgg354
  z85:=Tryz.sizeOf354
  v85:=Tryz.zeroValue354
  t127:=Tryz.underlying196
  a127:=Tryz.isAgg196
  z127:=Tryz.sizeOf196
  v127:=Tryz.zeroValue196
  t143:=Tryz.underlying367
  a143:=Tryz.isAgg367
  z143:=Tryz.sizeOf367
  v143:=Tryz.zeroValue367
  t145:=Tryz.underlying369
  a145:=Tryz.isAgg369
  z145:=Tryz.sizeOf369
  v145:=Tryz.zeroValue369
  t167:=Tryz.underlying353
  a167:=Tryz.isAgg353
  z167:=Tryz.sizeOf353
  v167:=Tryz.zeroValue353
  t168:=Tryz.underlying356
  a168:=Tryz.isAgg356
  z168:=Tryz.sizeOf356
  v168:=Tryz.zeroValue356
  t171:=Tryz.underlying309
  a171:=Tryz.isAgg309
  z171:=Tryz.sizeOf309
  v171:=Tryz.zeroValue309
  t173:=Tryz.underlying311
  a173:=Tryz.isAgg311
  z173:=Tryz.sizeOf311
  v173:=Tryz.zeroValue311
  t175:=Tryz.underlying359
  a175:=Tryz.isAgg359
  z175:=Tryz.sizeOf359
  v175:=Tryz.zeroValue359
  t210:=Tryz.underlying363
  a210:=Tryz.isAgg363
  z210:=Tryz.sizeOf363
  v210:=Tryz.zeroValue363
  t212:=Tryz.underlying331
  a212:=Tryz.isAgg331
  z212:=Tryz.sizeOf331
  v212:=Tryz.zeroValue331
  t213:=Tryz.underlying332
  a213:=Tryz.isAgg332
  z213:=Tryz.sizeOf332
  t232:=Tryz.underlying346
  a232:=Tryz.isAgg346
  z232:=Tryz.sizeOf346
  v232:=Tryz.zeroValue346
  t233:=Tryz.underlying347
  a233:=Tryz.isAgg347
  z233:=Tryz.sizeOf347
  v233:=Tryz.zeroValue347
  g15:=by kernel_rfl
  g16:=by kernel_rfl
  g17:=by kernel_rfl
  g18:=by kernel_rfl
  g19:=by kernel_rfl
  t80:=Tryz.underlying126
  a80:=Tryz.isAgg126
  z80:=Tryz.sizeOf126
  v80:=Tryz.zeroValue126
  i0:=by kernel_rfl
  i2:=by kernel_rfl
  i3:=by kernel_rfl
  i4:=by kernel_rfl
  i5:=by kernel_rfl
  i9:=by kernel_rfl
  i20:=by kernel_rfl
  i21:=by kernel_rfl
  i37:=by kernel_rfl
  i46:=by kernel_rfl
  i51:=by kernel_rfl
  i53:=by kernel_rfl
  i75:=by kernel_rfl
  i76:=by kernel_rfl
  i80:=by kernel_rfl
  i85:=by kernel_rfl
  i127:=by kernel_rfl
  i143:=by kernel_rfl
  i145:=by kernel_rfl
  i167:=by kernel_rfl
  i168:=by kernel_rfl
  i171:=by kernel_rfl
  i173:=by kernel_rfl
  i175:=by kernel_rfl
  i210:=by kernel_rfl
  i212:=by kernel_rfl
  i232:=by kernel_rfl
  i233:=by kernel_rfl
  m15:=by kernel_rfl
  m16:=by kernel_rfl
  m17:=by kernel_rfl
  m18:=by kernel_rfl
  m19:=by kernel_rfl
  c0:=by kernel_rfl
  c2:=by kernel_rfl
  c3:=by kernel_rfl
  c4:=by kernel_rfl
  c5:=by kernel_rfl
  c9:=by kernel_rfl
  c20:=by kernel_rfl
  c21:=by kernel_rfl
  c37:=by kernel_rfl
  c46:=by kernel_rfl
  c51:=by kernel_rfl
  c53:=by kernel_rfl
  c75:=by kernel_rfl
  c76:=by kernel_rfl
  c80:=by kernel_rfl
  c85:=by kernel_rfl
  c127:=by kernel_rfl
  c143:=by kernel_rfl
  c145:=by kernel_rfl
  c167:=by kernel_rfl
  c168:=by kernel_rfl
  c171:=by kernel_rfl
  c173:=by kernel_rfl
  c175:=by kernel_rfl
  c210:=by kernel_rfl
  c212:=by kernel_rfl
  c213:=by kernel_rfl
  c232:=by kernel_rfl
  c233:=by kernel_rfl}
open Go.RowKit in
theorem Tryz.strconv_Atoi_ok(s:ByteArray)(hmax:s.size≤9223372036854775806)(v:Int)(h:Lib.atoiAll s.data.toList= .ok v)(w:World):
    Calls Tryz.prog 302 #[.string s] w fun e w'=>e= .returned (.tuple #[.int .i64 v,.nilIface])∧(w'=w∨ ∃t,w'=Lib.bytesWorld w 5 t):=Any.strconv_Atoi_ok Tryz.laysC172 s hmax v h w
open Go.RowKit in
theorem Tryz.strconv_Atoi_range(s:ByteArray)(hlim:s.size≤281474976710656)(h:Lib.atoiAll s.data.toList= .range)(ev:Value)(w:World)(hv:w.cell? ⟨7,0,none⟩=some ev)(hev:ev= .nilIface∨ ∃te pe,ev= .iface te pe):
    Calls Tryz.prog 302 #[.string s] w fun e w'=> ∃N,e= .returned (.tuple #[.int .i64 (Lib.atoiSat s.data.toList),.iface 356 (.pointer (some ⟨N,0,none⟩))])∧w.heap.size≤N∧w'.heap[N]? =some (.cells #[.string ⟨#[65,116,111,105]⟩,.string s,ev] 363 (0,0))∧Below w.heap.size w w':=Any.strconv_Atoi_range Tryz.laysC172 s hlim h ev w hv hev
def Tryz.lays145_ren:Go.Shelf.Ren:=⟨fun|145=>301|220=>312|219=>300|217=>308|225=>309|224=>310|267=>311|266=>315|314=>316|n=>n,fun|9=>9|4=>4|59=>342|3=>3|5=>5|46=>174|146=>334|51=>259|n=>n,fun|1=>0|n=>n⟩
theorem Tryz.lays145:Go.Proofs.Lays.n145 Tryz.prog Tryz.lays145_ren:={
  mixed:=by kernel_rfl
  f145:=Tryz.func301.trans (congrArg some (by kernel_rfl))
  f217:=Tryz.func308.trans (congrArg some (by kernel_rfl))
  f219:=Tryz.func300.trans (congrArg some (by kernel_rfl))
  f220:=Tryz.func312.trans (congrArg some (by kernel_rfl))
  f224:=Tryz.func310.trans (congrArg some (by kernel_rfl))
  f225:=Tryz.func309.trans (congrArg some (by kernel_rfl))
  f266:=Tryz.func315.trans (congrArg some (by kernel_rfl))
  f267:=Tryz.func311.trans (congrArg some (by kernel_rfl))
  f314:=Tryz.func316.trans (congrArg some (by kernel_rfl))
  t3:=Tryz.underlying3
  a3:=Tryz.isAgg3
  z3:=Tryz.sizeOf3
  v3:=Tryz.zeroValue3
  t4:=Tryz.underlying4
  a4:=Tryz.isAgg4
  z4:=Tryz.sizeOf4
  v4:=Tryz.zeroValue4
  t5:=Tryz.underlying5
  a5:=Tryz.isAgg5
  z5:=Tryz.sizeOf5
  v5:=Tryz.zeroValue5
  t9:=Tryz.underlying9
  a9:=Tryz.isAgg9
  z9:=Tryz.sizeOf9
  v9:=Tryz.zeroValue9
  t46:=Tryz.underlying174
  a46:=Tryz.isAgg174
  z46:=Tryz.sizeOf174
  v46:=Tryz.zeroValue174
  t51:=Tryz.underlying259
  a51:=Tryz.isAgg259
  z51:=Tryz.sizeOf259
  v51:=Tryz.zeroValue259
  t59:=Tryz.underlying342
  a59:=Tryz.isAgg342
  z59:=Tryz.sizeOf342
  v59:=Tryz.zeroValue342
  t146:=Tryz.underlying334
  a146:=Tryz.isAgg334
  z146:=Tryz.sizeOf334
  v146:=Tryz.zeroValue334
  g1:=by kernel_rfl}
open Go.RowKit Go.Lib in
theorem Tryz.strings_Cut(s sep:ByteArray)(m:Int)(w:World)(hs:s.size<4294967281)(hm:w.cell? ⟨0,0,none⟩=some (.int .i64 m)):
    Calls Tryz.prog 301 #[.string s,.string sep] w fun e w'=>e= .returned (.tuple #[.string ⟨(Lib.cut s.data.toList sep.data.toList).1.toArray⟩,.string ⟨(Lib.cut s.data.toList sep.data.toList).2.1.toArray⟩,.bool (Lib.cut s.data.toList sep.data.toList).2.2])∧ ∃n,w'=w.drewN n:=Any.strings_Cut Tryz.lays145 s sep m w hs hm
def Tryz.laysM220_ren:Go.Shelf.Ren:=⟨fun|220=>312|219=>300|217=>308|225=>309|224=>310|267=>311|266=>315|314=>316|n=>n,fun|9=>9|4=>4|3=>3|5=>5|46=>174|146=>334|51=>259|n=>n,fun|1=>0|n=>n⟩
theorem Tryz.laysM220:Go.Proofs.LaysM.n220 Tryz.prog Tryz.laysM220_ren:={
  mixed:=by kernel_rfl
  f217:=Tryz.func308.trans (congrArg some (by kernel_rfl))
  f219:=Tryz.func300.trans (congrArg some (by kernel_rfl))
  f220:=Tryz.func312.trans (congrArg some (by kernel_rfl))
  f224:=Tryz.func310.trans (congrArg some (by kernel_rfl))
  f225:=Tryz.func309.trans (congrArg some (by kernel_rfl))
  f266:=Tryz.func315.trans (congrArg some (by kernel_rfl))
  f267:=Tryz.func311.trans (congrArg some (by kernel_rfl))
  f314:=Tryz.func316.trans (congrArg some (by kernel_rfl))
  t3:=Tryz.underlying3
  a3:=Tryz.isAgg3
  z3:=Tryz.sizeOf3
  v3:=Tryz.zeroValue3
  t4:=Tryz.underlying4
  a4:=Tryz.isAgg4
  z4:=Tryz.sizeOf4
  v4:=Tryz.zeroValue4
  t5:=Tryz.underlying5
  a5:=Tryz.isAgg5
  z5:=Tryz.sizeOf5
  v5:=Tryz.zeroValue5
  t9:=Tryz.underlying9
  a9:=Tryz.isAgg9
  z9:=Tryz.sizeOf9
  v9:=Tryz.zeroValue9
  t46:=Tryz.underlying174
  a46:=Tryz.isAgg174
  z46:=Tryz.sizeOf174
  v46:=Tryz.zeroValue174
  t51:=Tryz.underlying259
  a51:=Tryz.isAgg259
  z51:=Tryz.sizeOf259
  v51:=Tryz.zeroValue259
  t146:=Tryz.underlying334
  a146:=Tryz.isAgg334
  z146:=Tryz.sizeOf334
  v146:=Tryz.zeroValue334
  g1:=by kernel_rfl
  i3:=by kernel_rfl
  i4:=by kernel_rfl
  i5:=by kernel_rfl
  i9:=by kernel_rfl
  i46:=by kernel_rfl
  i51:=by kernel_rfl
  i146:=by kernel_rfl
  m1:=by kernel_rfl
  s1_3:=fun w h=>Go.Proofs.cell_of_shapedOpen_int (zero:=#[.int .i64 0]) (t:=3) h (of_decide_eq_true (by kernel_rfl)) (by kernel_rfl) rfl (by kernel_rfl) (by kernel_rfl) Tryz.underlying3}
def Tryz.lays189_ren:Go.Shelf.Ren:=⟨fun|189=>35|125=>105|257=>104|128=>212|129=>213|294=>203|295=>204|296=>205|297=>206|298=>207|299=>208|216=>209|300=>210|301=>211|328=>253|329=>254|330=>255|331=>256|332=>257|215=>184|343=>278|n=>n,fun|28=>43|3=>3|46=>174|0=>0|51=>259|53=>261|4=>4|183=>253|182=>252|131=>204|5=>5|9=>9|218=>301|222=>225|228=>323|229=>175|n=>n,fun|n=>n⟩
theorem Tryz.lays189:Go.Proofs.Lays.n189 Tryz.prog Tryz.lays189_ren:={
  mixed:=by kernel_rfl
  f125:=Tryz.func105.trans (congrArg some (by kernel_rfl))
  f128:=Tryz.func212.trans (congrArg some (by kernel_rfl))
  f129:=Tryz.func213.trans (congrArg some (by kernel_rfl))
  f189:=Tryz.func35.trans (congrArg some (by kernel_rfl))
  f215:=Tryz.func184.trans (congrArg some (by kernel_rfl))
  f216:=Tryz.func209.trans (congrArg some (by kernel_rfl))
  f257:=Tryz.func104.trans (congrArg some (by kernel_rfl))
  f294:=Tryz.func203.trans (congrArg some (by kernel_rfl))
  f295:=Tryz.func204.trans (congrArg some (by kernel_rfl))
  f296:=Tryz.func205.trans (congrArg some (by kernel_rfl))
  f297:=Tryz.func206.trans (congrArg some (by kernel_rfl))
  f298:=Tryz.func207.trans (congrArg some (by kernel_rfl))
  f299:=Tryz.func208.trans (congrArg some (by kernel_rfl))
  f300:=Tryz.func210.trans (congrArg some (by kernel_rfl))
  f301:=Tryz.func211.trans (congrArg some (by kernel_rfl))
  f328:=Tryz.func253.trans (congrArg some (by kernel_rfl))
  f329:=Tryz.func254.trans (congrArg some (by kernel_rfl))
  f330:=Tryz.func255.trans (congrArg some (by kernel_rfl))
  f331:=Tryz.func256.trans (congrArg some (by kernel_rfl))
  f332:=Tryz.func257.trans (congrArg some (by kernel_rfl))
  f343:=Tryz.func278.trans (congrArg some (by kernel_rfl))
  t0:=Tryz.underlying0
  a0:=Tryz.isAgg0
  z0:=Tryz.sizeOf0
  v0:=Tryz.zeroValue0
  t3:=Tryz.underlying3
  a3:=Tryz.isAgg3
  z3:=Tryz.sizeOf3
  v3:=Tryz.zeroValue3
  t4:=Tryz.underlying4
  a4:=Tryz.isAgg4
  z4:=Tryz.sizeOf4
  v4:=Tryz.zeroValue4
  t5:=Tryz.underlying5
  a5:=Tryz.isAgg5
  z5:=Tryz.sizeOf5
  v5:=Tryz.zeroValue5
  t9:=Tryz.underlying9
  a9:=Tryz.isAgg9
  z9:=Tryz.sizeOf9
  v9:=Tryz.zeroValue9
  t28:=Tryz.underlying43
  a28:=Tryz.isAgg43
  z28:=Tryz.sizeOf43
  v28:=Tryz.zeroValue43
  t46:=Tryz.underlying174
  a46:=Tryz.isAgg174
  z46:=Tryz.sizeOf174
  v46:=Tryz.zeroValue174
  t51:=Tryz.underlying259
  a51:=Tryz.isAgg259
  z51:=Tryz.sizeOf259
  v51:=Tryz.zeroValue259
  t53:=Tryz.underlying261
  a53:=Tryz.isAgg261
  z53:=Tryz.sizeOf261
  v53:=Tryz.zeroValue261
  t131:=Tryz.underlying204
  a131:=Tryz.isAgg204
  z131:=Tryz.sizeOf204
  v131:=Tryz.zeroValue204
  t182:=Tryz.underlying252
  a182:=Tryz.isAgg252
  z182:=Tryz.sizeOf252
  v182:=Tryz.zeroValue252
  t183:=Tryz.underlying253
  a183:=Tryz.isAgg253
  z183:=Tryz.sizeOf253
  v183:=Tryz.zeroValue253
  t218:=Tryz.underlying301
  a218:=Tryz.isAgg301
  z218:=Tryz.sizeOf301
  v218:=Tryz.zeroValue301
  t222:=Tryz.underlying225
  a222:=Tryz.isAgg225
  z222:=Tryz.sizeOf225
  v222:=Tryz.zeroValue225
  t228:=Tryz.underlying323
  a228:=Tryz.isAgg323
  z228:=Tryz.sizeOf323
  v228:=Tryz.zeroValue323
  t229:=Tryz.underlying175
  a229:=Tryz.isAgg175
  z229:=Tryz.sizeOf175
  v229:=Tryz.zeroValue175}
open Go.Sort Go.RowKit in
theorem Tryz.slices_Sort_int(blk off cap:Nat)(zs:List Int)(w:World)(hH:Holds (Value.int .i64) w blk off zs.toArray)(hblk:blk<w.heap.size)(hsz:zs.length<4611686018427387904):
    Calls Tryz.prog 35 #[.slice (some ⟨blk,off,none⟩) zs.length cap] w fun e w'=>
      e= .returned (.tuple #[])∧ ∃n os,w'=grow (putRow (Value.int .i64) (Sort.ahead w n) blk off (zs.mergeSort fun x y=>decide (x≤y)).toArray) os:=Any.slices_Sort_int Tryz.lays189 blk off cap zs w hH hblk hsz
def Tryz.lays99_ren:Go.Shelf.Ren:=⟨fun|99=>217|206=>259|n=>n,fun|9=>9|4=>4|3=>3|n=>n,fun|n=>n⟩
theorem Tryz.lays99:Go.Proofs.Lays.n99 Tryz.prog Tryz.lays99_ren:={
  mixed:=by kernel_rfl
  f99:=Tryz.func217.trans (congrArg some (by kernel_rfl))
  f206:=Tryz.func259.trans (congrArg some (by kernel_rfl))
  t3:=Tryz.underlying3
  a3:=Tryz.isAgg3
  z3:=Tryz.sizeOf3
  v3:=Tryz.zeroValue3
  t4:=Tryz.underlying4
  a4:=Tryz.isAgg4
  z4:=Tryz.sizeOf4
  v4:=Tryz.zeroValue4
  t9:=Tryz.underlying9
  a9:=Tryz.isAgg9
  z9:=Tryz.sizeOf9
  v9:=Tryz.zeroValue9}
open Go.RowKit Go.Lib in
theorem Tryz.strings_HasPrefix(s p:ByteArray)(w:World):
    Calls Tryz.prog 217 #[.string s,.string p] w fun e w'=>e= .returned (.bool (Lib.hasPrefix s.data.toList p.data.toList))∧w'=w:=Any.strings_HasPrefix Tryz.lays99 s p w
def Tryz.lays146_ren:Go.Shelf.Ren:=⟨fun|146=>216|221=>258|268=>279|138=>280|143=>281|195=>297|197=>298|218=>299|219=>300|260=>307|217=>308|225=>309|224=>310|267=>311|266=>315|314=>316|n=>n,fun|9=>9|31=>263|3=>3|4=>4|0=>0|105=>338|21=>21|5=>5|46=>174|119=>348|139=>351|138=>350|146=>334|51=>259|n=>n,fun|1=>0|3=>4|4=>5|n=>n⟩
theorem Tryz.lays146:Go.Proofs.Lays.n146 Tryz.prog Tryz.lays146_ren:={
  mixed:=by kernel_rfl
  f138:=Tryz.func280.trans (congrArg some (by kernel_rfl))
  f143:=Tryz.func281.trans (congrArg some (by kernel_rfl))
  f146:=Tryz.func216.trans (congrArg some (by kernel_rfl))
  f195:=Tryz.func297.trans (congrArg some (by kernel_rfl))
  f197:=Tryz.func298.trans (congrArg some (by kernel_rfl))
  f217:=Tryz.func308.trans (congrArg some (by kernel_rfl))
  f218:=Tryz.func299.trans (congrArg some (by kernel_rfl))
  f219:=Tryz.func300.trans (congrArg some (by kernel_rfl))
  f221:=Tryz.func258.trans (congrArg some (by kernel_rfl))
  f224:=Tryz.func310.trans (congrArg some (by kernel_rfl))
  f225:=Tryz.func309.trans (congrArg some (by kernel_rfl))
  f260:=Tryz.func307.trans (congrArg some (by kernel_rfl))
  f266:=Tryz.func315.trans (congrArg some (by kernel_rfl))
  f267:=Tryz.func311.trans (congrArg some (by kernel_rfl))
  f268:=Tryz.func279.trans (congrArg some (by kernel_rfl))
  f314:=Tryz.func316.trans (congrArg some (by kernel_rfl))
  t0:=Tryz.underlying0
  a0:=Tryz.isAgg0
  z0:=Tryz.sizeOf0
  v0:=Tryz.zeroValue0
  t3:=Tryz.underlying3
  a3:=Tryz.isAgg3
  z3:=Tryz.sizeOf3
  v3:=Tryz.zeroValue3
  t4:=Tryz.underlying4
  a4:=Tryz.isAgg4
  z4:=Tryz.sizeOf4
  v4:=Tryz.zeroValue4
  t5:=Tryz.underlying5
  a5:=Tryz.isAgg5
  z5:=Tryz.sizeOf5
  v5:=Tryz.zeroValue5
  t9:=Tryz.underlying9
  a9:=Tryz.isAgg9
  z9:=Tryz.sizeOf9
  v9:=Tryz.zeroValue9
  t21:=Tryz.underlying21
  a21:=Tryz.isAgg21
  z21:=Tryz.sizeOf21
  v21:=Tryz.zeroValue21
  t31:=Tryz.underlying263
  a31:=Tryz.isAgg263
  z31:=Tryz.sizeOf263
  v31:=Tryz.zeroValue263
  t46:=Tryz.underlying174
  a46:=Tryz.isAgg174
  z46:=Tryz.sizeOf174
  v46:=Tryz.zeroValue174
  t51:=Tryz.underlying259
  a51:=Tryz.isAgg259
  z51:=Tryz.sizeOf259
  v51:=Tryz.zeroValue259
  t105:=Tryz.underlying338
  a105:=Tryz.isAgg338
  z105:=Tryz.sizeOf338
  v105:=Tryz.zeroValue338
  t119:=Tryz.underlying348
  a119:=Tryz.isAgg348
  z119:=Tryz.sizeOf348
  t138:=Tryz.underlying350
  a138:=Tryz.isAgg350
  z138:=Tryz.sizeOf350
  v138:=Tryz.zeroValue350
  t139:=Tryz.underlying351
  a139:=Tryz.isAgg351
  z139:=Tryz.sizeOf351
  v139:=Tryz.zeroValue351
  t146:=Tryz.underlying334
  a146:=Tryz.isAgg334
  z146:=Tryz.sizeOf334
  v146:=Tryz.zeroValue334
  g1:=by kernel_rfl
  g3:=by kernel_rfl
  g4:=by kernel_rfl}
open Go.RowKit Go.Lib in
theorem Tryz.strings_Split(s sep:ByteArray)(m:Int)(w:World)(hs:s.size<4294967281)(hm:w.cell? ⟨0,0,none⟩=some (.int .i64 m))(h1:1≤sep.size):
    Calls Tryz.prog 216 #[.string s,.string sep] w fun e w'=>
      e= .returned (.slice (some ⟨w.heap.size,0,none⟩) (Lib.countB s sep+1) (Lib.countB s sep+1))∧w'=w.alloc (.cells ((Lib.splitB sep 0 (Lib.countB s sep) s).map Value.string).toArray 9):=Any.strings_Split Tryz.lays146 (by kernel_rfl) s sep m w hs hm h1
def Tryz.laysNm220_ren:Go.Shelf.Ren:=⟨fun|20=>36|n=>n,fun|22=>43|3=>3|4=>4|0=>0|n=>n,fun|n=>n⟩
theorem Tryz.laysNm220:Go.Proofs.Lays2.n20 Tryz.prog Tryz.laysNm220_ren:={
  mixed:=by kernel_rfl
  f20:=Tryz.func36.trans (congrArg some (by kernel_rfl))
  t0:=Tryz.underlying0
  a0:=Tryz.isAgg0
  z0:=Tryz.sizeOf0
  v0:=Tryz.zeroValue0
  t3:=Tryz.underlying3
  a3:=Tryz.isAgg3
  z3:=Tryz.sizeOf3
  v3:=Tryz.zeroValue3
  t4:=Tryz.underlying4
  a4:=Tryz.isAgg4
  z4:=Tryz.sizeOf4
  v4:=Tryz.zeroValue4
  t22:=Tryz.underlying43
  a22:=Tryz.isAgg43
  z22:=Tryz.sizeOf43
  v22:=Tryz.zeroValue43
  i3:=by kernel_rfl}
open Go.RowKit Go.Lib Go.Sort in
theorem Tryz.slices_Compact_int(blk off cap:Nat)(zs:List Int)(w:World)(hH:Holds (Value.int .i64) w blk off zs.toArray)(hsz:zs.length≤9223372036854775807)(hcap:zs.length≤cap):
    Calls Tryz.prog 36 #[.slice (some ⟨blk,off,none⟩) zs.length cap] w fun e w'=>e= .returned (.slice (some ⟨blk,off,none⟩) (Lib.compact zs).length cap)∧ ∃q,w'=putRow (Value.int .i64) (Sort.ahead w q) blk off (Lib.compact zs++List.replicate (zs.length-(Lib.compact zs).length) 0).toArray:=Any.slices_Compact_int Tryz.laysNm220 blk off cap zs w hH hsz hcap
open Go.RowKit Go.Lib Go.Sort in
theorem Tryz.slices_Compact_int_empty(a:Option Addr)(cap:Nat)(w:World):
    Calls Tryz.prog 36 #[.slice a 0 cap] w fun e w'=>e= .returned (.slice a 0 cap)∧w'=w:=Any.slices_Compact_int_empty Tryz.laysNm220 a cap w
open Go.RowKit Go.Sort in
theorem Tryz.slices_Sort_int_none(p:Option Addr)(cap:Nat)(w:World):
    Calls Tryz.prog 35 #[.slice p 0 cap] w fun e w'=>e= .returned (.tuple #[])∧w'=w:=Any.slices_Sort_int_none Tryz.lays189 p cap w
end Go.Proofs
