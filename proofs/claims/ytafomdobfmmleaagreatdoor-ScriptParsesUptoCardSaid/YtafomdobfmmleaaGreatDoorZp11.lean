/- Lemmas and contracts, part 11. -/
import Derived.Test.YtafomdobfmmleaaGreatDoorZp10
import Derived.Shelf.Strings.Builder1
import Derived.Shelf.Strings.Builder2
import Derived.Shelf.Strings.OnBuilder
import Derived.Shelf.Strings.BuilderF
import Derived.Shelf.Strings.BuilderK
import Derived.Shelf.Strings.Builder2Cap
import Derived.Shelf.Strconv.Atoi
import Derived.Shelf.Strconv.Itoa0
import Derived.Shelf.Strconv.Itoa1
import Derived.Shelf.LaysM
import Derived.Shelf.Strconv.Itoa2
import Derived.Shelf.Strconv.Itoa3
import Derived.Shelf.Strconv.AtoiErrFast
import Derived.Shelf.Strconv.ParseIntEmpty
import Derived.Shelf.Strconv.AtoiFail
import Derived.Shelf.Strconv.Clone
import Derived.Shelf.Strconv.SyntaxError
import Derived.Shelf.LaysC
import Derived.Shelf.Strconv.ToError
import Derived.Shelf.Strconv.Lower
import Derived.Shelf.Strconv.ParseUint10
import Derived.Shelf.Strconv.ParseUint10Empty
import Derived.Shelf.Strconv.ParseUint10Any
import Derived.Shelf.Strconv.ParseInt10
import Derived.Shelf.Strconv.AtoiLong
import Derived.Shelf.Strconv.AtoiInnerAll
import Derived.Shelf.Strconv.RangeError
import Derived.Shelf.Strconv.ToErrorRange
import Derived.Shelf.Strconv.AtoiAll
import Derived.Shelf.Strconv.ErrVarAll
import Derived.Shelf.Strings.Search1
import Derived.Shelf.Strings.Search2
import Derived.Shelf.Strings.Search3
import Derived.Shelf.Strings.Cut
import Derived.Shelf.Strings.Count
import Derived.Shelf.Strings.Shaped
import Derived.Shelf.Strings.Split
import Derived.Shelf.Strings.SplitShaped
import Derived.Shelf.Unicode.Decode
import Derived.Shelf.Strings.RuneCount
import Derived.Shelf.Strings.Explode
import Derived.Shelf.Unicode.DecodeSlow
import Derived.Shelf.Strings.BuilderCap
import Derived.Test.YtafomdobfmmleaaGreatDoorProg
namespace Go.Proofs.YtafomdobfmmleaaGreatDoor
set_option linter.unusedVariables false
open Go.RowKit
open Go.Proofs.Tryz
end Go.Proofs.YtafomdobfmmleaaGreatDoor
namespace Go.Proofs
open Go.Shelf
def Tryz.NS:Go.Shelf.Ren:=⟨fun|169=>58|n=>n,fun|70=>112|9=>9|0=>0|72=>114|37=>26|127=>161|3=>3|5=>5|n=>n,fun|n=>n⟩
theorem Tryz.ack:Go.Proofs.Lays.n169 prog Tryz.NS:={
 mixed:=by kernel_rfl
 f169:=func58.trans (congrArg some (by kernel_rfl))
 t0:=underlying0
 a0:=Tryz.isAgg0
 z0:=Tryz.sizeOf0
 v0:=Tryz.zeroValue0
 t3:=underlying3
 a3:=Tryz.isAgg3
 z3:=Tryz.sizeOf3
 v3:=Tryz.zeroValue3
 t9:=underlying9
 a9:=Tryz.isAgg9
 z9:=Tryz.sizeOf9
 v9:=Tryz.zeroValue9
 t37:=underlying26
 a37:=Tryz.isAgg26
 z37:=Tryz.sizeOf26
 v37:=Tryz.zeroValue26
 t70:=underlying112
 a70:=Tryz.isAgg112
 z70:=Tryz.sizeOf112
 v70:=Tryz.zeroValue112
 t72:=underlying114
 a72:=Tryz.isAgg114
 z72:=Tryz.sizeOf114
 v72:=Tryz.zeroValue114
 t127:=underlying161
 a127:=Tryz.isAgg161
 z127:=Tryz.sizeOf161
 v127:=Tryz.zeroValue161}
theorem Tryz.Ua:Builder.Extra prog Tryz.NS:={
 sizeBuilder:=by kernel_rfl
 liesBuilder:=by kernel_rfl
 t5:=underlying5
 a5:=Tryz.isAgg5
 z5:=Tryz.sizeOf5
 v5:=Tryz.zeroValue5
 infoByte:=by kernel_rfl
 cellsByte:=by kernel_rfl
 sizeByte:=by kernel_rfl
 neB5:=by decide}
open Go.RowKit in
theorem Tryz.Builder_String (B b:Nat) (l:List UInt8) (w:World) (h:Lib.IsBuilder 114 5 B b (Lib.byteCells l) w) (h0:l≠[]):
 Calls prog 58 #[.pointer (some ⟨b,0,none⟩)] w fun e w'=>e=.returned (.string ⟨l.toArray⟩)/\Below B w w':=Any.Builder_String Tryz.ack Tryz.Ua B b l w h h0
def Tryz.NT:Go.Shelf.Ren:=⟨fun|156=>28|165=>60|166=>57|169=>58|240=>98|241=>99|276=>138|277=>139|n=>n,fun|31=>78|9=>9|3=>3|4=>4|0=>0|20=>20|72=>114|76=>117|70=>112|37=>26|75=>116|127=>161|164=>196|5=>5|80=>85|n=>n,fun|n=>n⟩
theorem Tryz.Kf:Go.Proofs.Lays.n156 prog Tryz.NT:={
 mixed:=by kernel_rfl
 f156:=func28.trans (congrArg some (by kernel_rfl))
 f165:=func60.trans (congrArg some (by kernel_rfl))
 f166:=func57.trans (congrArg some (by kernel_rfl))
 f169:=func58.trans (congrArg some (by kernel_rfl))
 f240:=func98.trans (congrArg some (by kernel_rfl))
 f241:=func99.trans (congrArg some (by kernel_rfl))
 f276:=func138.trans (congrArg some (by kernel_rfl))
 f277:=func139.trans (congrArg some (by kernel_rfl))
 t0:=underlying0
 a0:=Tryz.isAgg0
 z0:=Tryz.sizeOf0
 v0:=Tryz.zeroValue0
 t3:=underlying3
 a3:=Tryz.isAgg3
 z3:=Tryz.sizeOf3
 v3:=Tryz.zeroValue3
 t4:=underlying4
 a4:=Tryz.isAgg4
 z4:=Tryz.sizeOf4
 v4:=Tryz.zeroValue4
 t9:=underlying9
 a9:=Tryz.isAgg9
 z9:=Tryz.sizeOf9
 v9:=Tryz.zeroValue9
 t20:=underlying20
 a20:=Tryz.isAgg20
 z20:=Tryz.sizeOf20
 v20:=Tryz.zeroValue20
 t31:=underlying78
 a31:=Tryz.isAgg78
 z31:=Tryz.sizeOf78
 v31:=Tryz.zeroValue78
 t37:=underlying26
 a37:=Tryz.isAgg26
 z37:=Tryz.sizeOf26
 v37:=Tryz.zeroValue26
 t70:=underlying112
 a70:=Tryz.isAgg112
 z70:=Tryz.sizeOf112
 v70:=Tryz.zeroValue112
 t72:=underlying114
 a72:=Tryz.isAgg114
 z72:=Tryz.sizeOf114
 v72:=Tryz.zeroValue114
 t75:=underlying116
 a75:=Tryz.isAgg116
 z75:=Tryz.sizeOf116
 v75:=Tryz.zeroValue116
 t76:=underlying117
 a76:=Tryz.isAgg117
 z76:=Tryz.sizeOf117
 v76:=Tryz.zeroValue117
 t127:=underlying161
 a127:=Tryz.isAgg161
 z127:=Tryz.sizeOf161
 v127:=Tryz.zeroValue161
 t164:=underlying196
 a164:=Tryz.isAgg196
 z164:=Tryz.sizeOf196
 v164:=Tryz.zeroValue196}
theorem Tryz.Io:Builder.Extra prog Tryz.NT:={
 sizeBuilder:=by kernel_rfl
 liesBuilder:=by kernel_rfl
 t5:=underlying5
 a5:=Tryz.isAgg5
 z5:=Tryz.sizeOf5
 v5:=Tryz.zeroValue5
 infoByte:=by kernel_rfl
 cellsByte:=by kernel_rfl
 sizeByte:=by kernel_rfl
 neB5:=by decide}
open Go.RowKit in
theorem Tryz.strings_Join_none (a:Option Addr) (c:Nat) (sep:ByteArray) (w:World):
 Calls prog 28 #[.slice a 0 c,.string sep] w fun e w'=>e=.returned (.string ⟨#[]⟩)/\w'=w:=Any.strings_Join_none Tryz.Kf Tryz.Io a c sep w
open Go.RowKit in
theorem Tryz.strings_Join (bk o c:Nat) (xs:List ByteArray) (sep:ByteArray) (w:World) (KI:∀(j:Nat) x,xs[j]?=some x->w.cell? ⟨bk,o+j,none⟩=some (.string x)) (TD:bk<w.heap.size) (hN:xs.length<=140737488355328) (Ce:xs.length<=c) (hlen:(Lib.join (xs.map (·.data.toList)) sep.data.toList).length<=140737488355328):
 Calls prog 28 #[.slice (some ⟨bk,o,none⟩) xs.length c,.string sep] w fun e w'=>e=.returned (.string ⟨(Lib.join (xs.map (·.data.toList)) sep.data.toList).toArray⟩)/\Below w.heap.size w w':=Any.strings_Join Tryz.Kf Tryz.Io bk o c xs sep w KI TD hN Ce hlen
def Tryz.Vn:Go.Shelf.Ren:=⟨fun|171=>61|243=>100|246=>140|283=>195|284=>196|285=>197|286=>198|129=>254|317=>253|318=>255|319=>256|320=>257|337=>292|338=>293|n=>n,fun|3=>3|9=>9|2=>2|4=>4|171=>252|0=>0|53=>125|37=>26|5=>5|173=>255|212=>308|51=>304|20=>20|213=>309|46=>91|232=>362|233=>363|n=>n,fun|17=>3|18=>6|19=>7|n=>n⟩
theorem Tryz.Z9:Go.Proofs.LaysM.n171 prog Tryz.Vn:={
 mixed:=by kernel_rfl
 f129:=func254.trans (congrArg some (by kernel_rfl))
 f171:=func61.trans (congrArg some (by kernel_rfl))
 f243:=func100.trans (congrArg some (by kernel_rfl))
 f246:=func140.trans (congrArg some (by kernel_rfl))
 f283:=func195.trans (congrArg some (by kernel_rfl))
 f284:=func196.trans (congrArg some (by kernel_rfl))
 f285:=func197.trans (congrArg some (by kernel_rfl))
 f286:=func198.trans (congrArg some (by kernel_rfl))
 f317:=func253.trans (congrArg some (by kernel_rfl))
 f318:=func255.trans (congrArg some (by kernel_rfl))
 f319:=func256.trans (congrArg some (by kernel_rfl))
 f320:=func257.trans (congrArg some (by kernel_rfl))
 f337:=func292.trans (congrArg some (by kernel_rfl))
 f338:=func293.trans (congrArg some (by kernel_rfl))
 t0:=underlying0
 a0:=Tryz.isAgg0
 z0:=Tryz.sizeOf0
 v0:=Tryz.zeroValue0
 t2:=underlying2
 a2:=Tryz.isAgg2
 z2:=Tryz.sizeOf2
 v2:=Tryz.zeroValue2
 t3:=underlying3
 a3:=Tryz.isAgg3
 z3:=Tryz.sizeOf3
 v3:=Tryz.zeroValue3
 t4:=underlying4
 a4:=Tryz.isAgg4
 z4:=Tryz.sizeOf4
 v4:=Tryz.zeroValue4
 t5:=underlying5
 a5:=Tryz.isAgg5
 z5:=Tryz.sizeOf5
 v5:=Tryz.zeroValue5
 t9:=underlying9
 a9:=Tryz.isAgg9
 z9:=Tryz.sizeOf9
 v9:=Tryz.zeroValue9
 t20:=underlying20
 a20:=Tryz.isAgg20
 z20:=Tryz.sizeOf20
 v20:=Tryz.zeroValue20
 t37:=underlying26
 a37:=Tryz.isAgg26
 z37:=Tryz.sizeOf26
 v37:=Tryz.zeroValue26
 t46:=underlying91
 a46:=Tryz.isAgg91
 z46:=Tryz.sizeOf91
 v46:=Tryz.zeroValue91
 t51:=underlying304
 a51:=Tryz.isAgg304
 z51:=Tryz.sizeOf304
 v51:=Tryz.zeroValue304
 t53:=underlying125
 a53:=Tryz.isAgg125
 z53:=Tryz.sizeOf125
 v53:=Tryz.zeroValue125
 t171:=underlying252
 a171:=Tryz.isAgg252
 z171:=Tryz.sizeOf252
 v171:=Tryz.zeroValue252
 t173:=underlying255
 a173:=Tryz.isAgg255
 z173:=Tryz.sizeOf255
 v173:=Tryz.zeroValue255
 t212:=underlying308
 a212:=Tryz.isAgg308
 z212:=Tryz.sizeOf308
 v212:=Tryz.zeroValue308
 t213:=underlying309
 a213:=Tryz.isAgg309
 z213:=Tryz.sizeOf309
 t232:=underlying362
 a232:=Tryz.isAgg362
 z232:=Tryz.sizeOf362
 v232:=Tryz.zeroValue362
 t233:=underlying363
 a233:=Tryz.isAgg363
 z233:=Tryz.sizeOf363
 v233:=Tryz.zeroValue363
 g17:=by kernel_rfl
 g18:=by kernel_rfl
 g19:=by kernel_rfl
 i0:=by kernel_rfl
 i2:=by kernel_rfl
 i3:=by kernel_rfl
 i4:=by kernel_rfl
 i5:=by kernel_rfl
 i9:=by kernel_rfl
 i20:=by kernel_rfl
 i37:=by kernel_rfl
 i46:=by kernel_rfl
 i51:=by kernel_rfl
 i53:=by kernel_rfl
 i171:=by kernel_rfl
 i173:=by kernel_rfl
 i212:=by kernel_rfl
 i232:=by kernel_rfl
 i233:=by kernel_rfl
 m17:=by kernel_rfl
 m18:=by kernel_rfl
 m19:=by kernel_rfl}
open Go.RowKit Go.Sort Go.Lib in
theorem Tryz.strconv_Itoa (n:Int) (h0:-9223372036854775808<=n) (h1:n<=9223372036854775807) (w:World) (afI:Lib.TabIs prog w "internal/strconv.uint64pow10" .u64 Lib.pow10Tab):
 Calls prog 61 #[.int .i64 n] w fun e w'=>e=.returned (.string ⟨(Lib.itoa n).toArray⟩)/\∃k os,w'=grow (w.drewN k) os:=Any.strconv_Itoa Tryz.Z9 n h0 h1 w afI
def Tryz.Vo:Go.Shelf.Ren:=⟨fun|172=>65|244=>105|245=>106|247=>145|279=>146|280=>147|281=>148|282=>149|287=>200|316=>201|171=>61|205=>202|321=>258|322=>259|243=>100|246=>140|283=>195|284=>196|285=>197|286=>198|129=>254|317=>253|318=>255|319=>256|320=>257|337=>292|338=>293|n=>n,fun|9=>9|3=>3|75=>116|76=>117|4=>4|5=>5|167=>204|37=>26|0=>0|85=>205|2=>2|168=>207|53=>125|175=>257|46=>91|210=>261|127=>161|145=>317|143=>315|21=>21|171=>252|173=>255|212=>308|51=>304|20=>20|213=>309|232=>362|233=>363|80=>85|n=>n,fun|15=>1|16=>2|17=>3|18=>6|19=>7|n=>n⟩
theorem Tryz.Jx:Go.Proofs.LaysC.n172 prog Tryz.Vo:={
 mixed:=by kernel_rfl
 f129:=func254.trans (congrArg some (by kernel_rfl))
 f171:=func61.trans (congrArg some (by kernel_rfl))
 f172:=func65.trans (congrArg some (by kernel_rfl))
 f205:=func202.trans (congrArg some (by kernel_rfl))
 f243:=func100.trans (congrArg some (by kernel_rfl))
 f244:=func105.trans (congrArg some (by kernel_rfl))
 f245:=func106.trans (congrArg some (by kernel_rfl))
 f246:=func140.trans (congrArg some (by kernel_rfl))
 f247:=func145.trans (congrArg some (by kernel_rfl))
 f279:=func146.trans (congrArg some (by kernel_rfl))
 f280:=func147.trans (congrArg some (by kernel_rfl))
 f281:=func148.trans (congrArg some (by kernel_rfl))
 f282:=func149.trans (congrArg some (by kernel_rfl))
 f283:=func195.trans (congrArg some (by kernel_rfl))
 f284:=func196.trans (congrArg some (by kernel_rfl))
 f285:=func197.trans (congrArg some (by kernel_rfl))
 f286:=func198.trans (congrArg some (by kernel_rfl))
 f287:=func200.trans (congrArg some (by kernel_rfl))
 f316:=func201.trans (congrArg some (by kernel_rfl))
 f317:=func253.trans (congrArg some (by kernel_rfl))
 f318:=func255.trans (congrArg some (by kernel_rfl))
 f319:=func256.trans (congrArg some (by kernel_rfl))
 f320:=func257.trans (congrArg some (by kernel_rfl))
 f321:=func258.trans (congrArg some (by kernel_rfl))
 f322:=func259.trans (congrArg some (by kernel_rfl))
 f337:=func292.trans (congrArg some (by kernel_rfl))
 f338:=func293.trans (congrArg some (by kernel_rfl))
 t0:=underlying0
 a0:=Tryz.isAgg0
 z0:=Tryz.sizeOf0
 v0:=Tryz.zeroValue0
 t2:=underlying2
 a2:=Tryz.isAgg2
 z2:=Tryz.sizeOf2
 v2:=Tryz.zeroValue2
 t3:=underlying3
 a3:=Tryz.isAgg3
 z3:=Tryz.sizeOf3
 v3:=Tryz.zeroValue3
 t4:=underlying4
 a4:=Tryz.isAgg4
 z4:=Tryz.sizeOf4
 v4:=Tryz.zeroValue4
 t5:=underlying5
 a5:=Tryz.isAgg5
 z5:=Tryz.sizeOf5
 v5:=Tryz.zeroValue5
 t9:=underlying9
 a9:=Tryz.isAgg9
 z9:=Tryz.sizeOf9
 v9:=Tryz.zeroValue9
 t20:=underlying20
 a20:=Tryz.isAgg20
 z20:=Tryz.sizeOf20
 v20:=Tryz.zeroValue20
 t21:=underlying21
 a21:=Tryz.isAgg21
 z21:=Tryz.sizeOf21
 v21:=Tryz.zeroValue21
 t37:=underlying26
 a37:=Tryz.isAgg26
 z37:=Tryz.sizeOf26
 v37:=Tryz.zeroValue26
 t46:=underlying91
 a46:=Tryz.isAgg91
 z46:=Tryz.sizeOf91
 v46:=Tryz.zeroValue91
 t51:=underlying304
 a51:=Tryz.isAgg304
 z51:=Tryz.sizeOf304
 v51:=Tryz.zeroValue304
 t53:=underlying125
 a53:=Tryz.isAgg125
 z53:=Tryz.sizeOf125
 v53:=Tryz.zeroValue125
 t75:=underlying116
 a75:=Tryz.isAgg116
 z75:=Tryz.sizeOf116
 v75:=Tryz.zeroValue116
 t76:=underlying117
 a76:=Tryz.isAgg117
 z76:=Tryz.sizeOf117
 v76:=Tryz.zeroValue117
 t85:=underlying205
 a85:=Tryz.isAgg205
 z85:=Tryz.sizeOf205
 v85:=Tryz.zeroValue205
 t127:=underlying161
 a127:=Tryz.isAgg161
 z127:=Tryz.sizeOf161
 v127:=Tryz.zeroValue161
 t143:=underlying315
 a143:=Tryz.isAgg315
 z143:=Tryz.sizeOf315
 v143:=Tryz.zeroValue315
 t145:=underlying317
 a145:=Tryz.isAgg317
 z145:=Tryz.sizeOf317
 v145:=Tryz.zeroValue317
 t167:=underlying204
 a167:=Tryz.isAgg204
 z167:=Tryz.sizeOf204
 v167:=Tryz.zeroValue204
 t168:=underlying207
 a168:=Tryz.isAgg207
 z168:=Tryz.sizeOf207
 v168:=Tryz.zeroValue207
 t171:=underlying252
 a171:=Tryz.isAgg252
 z171:=Tryz.sizeOf252
 v171:=Tryz.zeroValue252
 t173:=underlying255
 a173:=Tryz.isAgg255
 z173:=Tryz.sizeOf255
 v173:=Tryz.zeroValue255
 t175:=underlying257
 a175:=Tryz.isAgg257
 z175:=Tryz.sizeOf257
 v175:=Tryz.zeroValue257
 t210:=underlying261
 a210:=Tryz.isAgg261
 z210:=Tryz.sizeOf261
 v210:=Tryz.zeroValue261
 t212:=underlying308
 a212:=Tryz.isAgg308
 z212:=Tryz.sizeOf308
 v212:=Tryz.zeroValue308
 t213:=underlying309
 a213:=Tryz.isAgg309
 z213:=Tryz.sizeOf309
 t232:=underlying362
 a232:=Tryz.isAgg362
 z232:=Tryz.sizeOf362
 v232:=Tryz.zeroValue362
 t233:=underlying363
 a233:=Tryz.isAgg363
 z233:=Tryz.sizeOf363
 v233:=Tryz.zeroValue363
 g15:=by kernel_rfl
 g16:=by kernel_rfl
 g17:=by kernel_rfl
 g18:=by kernel_rfl
 g19:=by kernel_rfl
 t80:=underlying85
 a80:=Tryz.isAgg85
 z80:=Tryz.sizeOf85
 v80:=Tryz.zeroValue85
 i0:=by kernel_rfl
 i2:=by kernel_rfl
 i3:=by kernel_rfl
 i4:=by kernel_rfl
 i5:=by kernel_rfl
 i9:=by kernel_rfl
 i20:=by kernel_rfl
 i21:=by kernel_rfl
 i37:=by kernel_rfl
 i46:=by kernel_rfl
 i51:=by kernel_rfl
 i53:=by kernel_rfl
 i75:=by kernel_rfl
 i76:=by kernel_rfl
 i80:=by kernel_rfl
 i85:=by kernel_rfl
 i127:=by kernel_rfl
 i143:=by kernel_rfl
 i145:=by kernel_rfl
 i167:=by kernel_rfl
 i168:=by kernel_rfl
 i171:=by kernel_rfl
 i173:=by kernel_rfl
 i175:=by kernel_rfl
 i210:=by kernel_rfl
 i212:=by kernel_rfl
 i232:=by kernel_rfl
 i233:=by kernel_rfl
 m15:=by kernel_rfl
 m16:=by kernel_rfl
 m17:=by kernel_rfl
 m18:=by kernel_rfl
 m19:=by kernel_rfl
 c0:=by kernel_rfl
 c2:=by kernel_rfl
 c3:=by kernel_rfl
 c4:=by kernel_rfl
 c5:=by kernel_rfl
 c9:=by kernel_rfl
 c20:=by kernel_rfl
 c21:=by kernel_rfl
 c37:=by kernel_rfl
 c46:=by kernel_rfl
 c51:=by kernel_rfl
 c53:=by kernel_rfl
 c75:=by kernel_rfl
 c76:=by kernel_rfl
 c80:=by kernel_rfl
 c85:=by kernel_rfl
 c127:=by kernel_rfl
 c143:=by kernel_rfl
 c145:=by kernel_rfl
 c167:=by kernel_rfl
 c168:=by kernel_rfl
 c171:=by kernel_rfl
 c173:=by kernel_rfl
 c175:=by kernel_rfl
 c210:=by kernel_rfl
 c212:=by kernel_rfl
 c213:=by kernel_rfl
 c232:=by kernel_rfl
 c233:=by kernel_rfl}
def Tryz.ah0:Go.Shelf.Ren:=⟨fun|145=>55|220=>97|219=>137|217=>191|225=>192|224=>193|267=>194|266=>251|314=>252|n=>n,fun|9=>9|4=>4|59=>109|3=>3|5=>5|46=>91|146=>305|51=>304|n=>n,fun|1=>0|n=>n⟩
theorem Tryz.ail:Go.Proofs.Lays.n145 prog Tryz.ah0:={
 mixed:=by kernel_rfl
 f145:=func55.trans (congrArg some (by kernel_rfl))
 f217:=func191.trans (congrArg some (by kernel_rfl))
 f219:=func137.trans (congrArg some (by kernel_rfl))
 f220:=func97.trans (congrArg some (by kernel_rfl))
 f224:=func193.trans (congrArg some (by kernel_rfl))
 f225:=func192.trans (congrArg some (by kernel_rfl))
 f266:=func251.trans (congrArg some (by kernel_rfl))
 f267:=func194.trans (congrArg some (by kernel_rfl))
 f314:=func252.trans (congrArg some (by kernel_rfl))
 t3:=underlying3
 a3:=Tryz.isAgg3
 z3:=Tryz.sizeOf3
 v3:=Tryz.zeroValue3
 t4:=underlying4
 a4:=Tryz.isAgg4
 z4:=Tryz.sizeOf4
 v4:=Tryz.zeroValue4
 t5:=underlying5
 a5:=Tryz.isAgg5
 z5:=Tryz.sizeOf5
 v5:=Tryz.zeroValue5
 t9:=underlying9
 a9:=Tryz.isAgg9
 z9:=Tryz.sizeOf9
 v9:=Tryz.zeroValue9
 t46:=underlying91
 a46:=Tryz.isAgg91
 z46:=Tryz.sizeOf91
 v46:=Tryz.zeroValue91
 t51:=underlying304
 a51:=Tryz.isAgg304
 z51:=Tryz.sizeOf304
 v51:=Tryz.zeroValue304
 t59:=underlying109
 a59:=Tryz.isAgg109
 z59:=Tryz.sizeOf109
 v59:=Tryz.zeroValue109
 t146:=underlying305
 a146:=Tryz.isAgg305
 z146:=Tryz.sizeOf305
 v146:=Tryz.zeroValue305
 g1:=by kernel_rfl}
open Go.RowKit Go.Lib in
theorem Tryz.strings_Cut (s sep:ByteArray) (m:Int) (w:World) (hs:s.size<4294967281) (hm:w.cell? ⟨0,0,none⟩=some (.int .i64 m)):
 Calls prog 55 #[.string s,.string sep] w fun e w'=>e=.returned (.tuple #[.string ⟨(Lib.cut s.data.toList sep.data.toList).1.toArray⟩,.string ⟨(Lib.cut s.data.toList sep.data.toList).2.1.toArray⟩,.bool (Lib.cut s.data.toList sep.data.toList).2.2])/\∃n,w'=w.drewN n:=Any.strings_Cut Tryz.ail s sep m w hs hm
def Tryz.V4:Go.Shelf.Ren:=⟨fun|146=>34|221=>64|268=>102|138=>103|143=>104|195=>142|197=>143|218=>144|219=>137|260=>199|217=>191|225=>192|224=>193|267=>194|266=>251|314=>252|n=>n,fun|9=>9|31=>78|3=>3|4=>4|0=>0|105=>201|21=>21|5=>5|46=>91|119=>311|139=>314|138=>313|146=>305|51=>304|n=>n,fun|1=>0|3=>4|4=>5|n=>n⟩
theorem Tryz.acm:Go.Proofs.Lays.n146 prog Tryz.V4:={
 mixed:=by kernel_rfl
 f138:=func103.trans (congrArg some (by kernel_rfl))
 f143:=func104.trans (congrArg some (by kernel_rfl))
 f146:=func34.trans (congrArg some (by kernel_rfl))
 f195:=func142.trans (congrArg some (by kernel_rfl))
 f197:=func143.trans (congrArg some (by kernel_rfl))
 f217:=func191.trans (congrArg some (by kernel_rfl))
 f218:=func144.trans (congrArg some (by kernel_rfl))
 f219:=func137.trans (congrArg some (by kernel_rfl))
 f221:=func64.trans (congrArg some (by kernel_rfl))
 f224:=func193.trans (congrArg some (by kernel_rfl))
 f225:=func192.trans (congrArg some (by kernel_rfl))
 f260:=func199.trans (congrArg some (by kernel_rfl))
 f266:=func251.trans (congrArg some (by kernel_rfl))
 f267:=func194.trans (congrArg some (by kernel_rfl))
 f268:=func102.trans (congrArg some (by kernel_rfl))
 f314:=func252.trans (congrArg some (by kernel_rfl))
 t0:=underlying0
 a0:=Tryz.isAgg0
 z0:=Tryz.sizeOf0
 v0:=Tryz.zeroValue0
 t3:=underlying3
 a3:=Tryz.isAgg3
 z3:=Tryz.sizeOf3
 v3:=Tryz.zeroValue3
 t4:=underlying4
 a4:=Tryz.isAgg4
 z4:=Tryz.sizeOf4
 v4:=Tryz.zeroValue4
 t5:=underlying5
 a5:=Tryz.isAgg5
 z5:=Tryz.sizeOf5
 v5:=Tryz.zeroValue5
 t9:=underlying9
 a9:=Tryz.isAgg9
 z9:=Tryz.sizeOf9
 v9:=Tryz.zeroValue9
 t21:=underlying21
 a21:=Tryz.isAgg21
 z21:=Tryz.sizeOf21
 v21:=Tryz.zeroValue21
 t31:=underlying78
 a31:=Tryz.isAgg78
 z31:=Tryz.sizeOf78
 v31:=Tryz.zeroValue78
 t46:=underlying91
 a46:=Tryz.isAgg91
 z46:=Tryz.sizeOf91
 v46:=Tryz.zeroValue91
 t51:=underlying304
 a51:=Tryz.isAgg304
 z51:=Tryz.sizeOf304
 v51:=Tryz.zeroValue304
 t105:=underlying201
 a105:=Tryz.isAgg201
 z105:=Tryz.sizeOf201
 v105:=Tryz.zeroValue201
 t119:=underlying311
 a119:=Tryz.isAgg311
 z119:=Tryz.sizeOf311
 t138:=underlying313
 a138:=Tryz.isAgg313
 z138:=Tryz.sizeOf313
 v138:=Tryz.zeroValue313
 t139:=underlying314
 a139:=Tryz.isAgg314
 z139:=Tryz.sizeOf314
 v139:=Tryz.zeroValue314
 t146:=underlying305
 a146:=Tryz.isAgg305
 z146:=Tryz.sizeOf305
 v146:=Tryz.zeroValue305
 g1:=by kernel_rfl
 g3:=by kernel_rfl
 g4:=by kernel_rfl}
open Go.RowKit Go.Lib in
theorem Tryz.strings_Split (s sep:ByteArray) (m:Int) (w:World) (hs:s.size<4294967281) (hm:w.cell? ⟨0,0,none⟩=some (.int .i64 m)) (h1:1<=sep.size):
 Calls prog 34 #[.string s,.string sep] w fun e w'=>
  e=.returned (.slice (some ⟨w.heap.size,0,none⟩) (Lib.countB s sep+1) (Lib.countB s sep+1))/\w'=w.alloc (.cells ((Lib.splitB sep 0 (Lib.countB s sep) s).map Value.string).toArray 9):=Any.strings_Split Tryz.acm (by kernel_rfl) s sep m w hs hm h1
def Tryz.Vp:Go.Shelf.Ren:=⟨fun|146=>34|221=>64|268=>102|138=>103|143=>104|195=>142|197=>143|218=>144|219=>137|260=>199|217=>191|225=>192|224=>193|267=>194|266=>251|314=>252|n=>n,fun|9=>9|31=>78|3=>3|4=>4|0=>0|105=>201|21=>21|5=>5|46=>91|119=>311|139=>314|138=>313|146=>305|51=>304|n=>n,fun|1=>0|3=>4|4=>5|n=>n⟩
theorem Tryz.ZE:Go.Proofs.LaysM.n146 prog Tryz.Vp:={
 mixed:=by kernel_rfl
 f138:=func103.trans (congrArg some (by kernel_rfl))
 f143:=func104.trans (congrArg some (by kernel_rfl))
 f146:=func34.trans (congrArg some (by kernel_rfl))
 f195:=func142.trans (congrArg some (by kernel_rfl))
 f197:=func143.trans (congrArg some (by kernel_rfl))
 f217:=func191.trans (congrArg some (by kernel_rfl))
 f218:=func144.trans (congrArg some (by kernel_rfl))
 f219:=func137.trans (congrArg some (by kernel_rfl))
 f221:=func64.trans (congrArg some (by kernel_rfl))
 f224:=func193.trans (congrArg some (by kernel_rfl))
 f225:=func192.trans (congrArg some (by kernel_rfl))
 f260:=func199.trans (congrArg some (by kernel_rfl))
 f266:=func251.trans (congrArg some (by kernel_rfl))
 f267:=func194.trans (congrArg some (by kernel_rfl))
 f268:=func102.trans (congrArg some (by kernel_rfl))
 f314:=func252.trans (congrArg some (by kernel_rfl))
 t0:=underlying0
 a0:=Tryz.isAgg0
 z0:=Tryz.sizeOf0
 v0:=Tryz.zeroValue0
 t3:=underlying3
 a3:=Tryz.isAgg3
 z3:=Tryz.sizeOf3
 v3:=Tryz.zeroValue3
 t4:=underlying4
 a4:=Tryz.isAgg4
 z4:=Tryz.sizeOf4
 v4:=Tryz.zeroValue4
 t5:=underlying5
 a5:=Tryz.isAgg5
 z5:=Tryz.sizeOf5
 v5:=Tryz.zeroValue5
 t9:=underlying9
 a9:=Tryz.isAgg9
 z9:=Tryz.sizeOf9
 v9:=Tryz.zeroValue9
 t21:=underlying21
 a21:=Tryz.isAgg21
 z21:=Tryz.sizeOf21
 v21:=Tryz.zeroValue21
 t31:=underlying78
 a31:=Tryz.isAgg78
 z31:=Tryz.sizeOf78
 v31:=Tryz.zeroValue78
 t46:=underlying91
 a46:=Tryz.isAgg91
 z46:=Tryz.sizeOf91
 v46:=Tryz.zeroValue91
 t51:=underlying304
 a51:=Tryz.isAgg304
 z51:=Tryz.sizeOf304
 v51:=Tryz.zeroValue304
 t105:=underlying201
 a105:=Tryz.isAgg201
 z105:=Tryz.sizeOf201
 v105:=Tryz.zeroValue201
 t119:=underlying311
 a119:=Tryz.isAgg311
 z119:=Tryz.sizeOf311
 t138:=underlying313
 a138:=Tryz.isAgg313
 z138:=Tryz.sizeOf313
 v138:=Tryz.zeroValue313
 t139:=underlying314
 a139:=Tryz.isAgg314
 z139:=Tryz.sizeOf314
 v139:=Tryz.zeroValue314
 t146:=underlying305
 a146:=Tryz.isAgg305
 z146:=Tryz.sizeOf305
 v146:=Tryz.zeroValue305
 g1:=by kernel_rfl
 g3:=by kernel_rfl
 g4:=by kernel_rfl
 i0:=by kernel_rfl
 i3:=by kernel_rfl
 i4:=by kernel_rfl
 i5:=by kernel_rfl
 i9:=by kernel_rfl
 i21:=by kernel_rfl
 i31:=by kernel_rfl
 i46:=by kernel_rfl
 i51:=by kernel_rfl
 i105:=by kernel_rfl
 i138:=by kernel_rfl
 i139:=by kernel_rfl
 i146:=by kernel_rfl
 m1:=by kernel_rfl
 s1_3:=fun w h=>Go.Proofs.cell_of_shapedOpen_int (zero:=#[.int .i64 0]) (t:=3) h (of_decide_eq_true (by kernel_rfl)) (by kernel_rfl) rfl (by kernel_rfl) (by kernel_rfl) underlying3
 m3:=by kernel_rfl
 m4:=by kernel_rfl}
end Go.Proofs
namespace Go.Proofs.YtafomdobfmmleaaGreatDoor
open Go.RowKit
open Go.Proofs.Tryz
def enc (n:Nat):List UInt8:=if h:n<128 then[UInt8.ofNat n] else UInt8.ofNat (n%128+128)::enc (n/128)
 termination_by n
 decreasing_by omega
theorem sN {n:Nat} (h:n<128):enc n=[UInt8.ofNat n]:=by rw[enc,dif_pos h]
theorem BK {n:Nat} (h:¬n<128):enc n=UInt8.ofNat (n%128+128)::enc (n/128):=by rw[enc,dif_neg h]
theorem Qy (n:Nat):0<(enc n).length:=by
 by_cases h:n<128
 ·rw[sN h];simp
 ·rw[BK h];simp
theorem acR (k:Nat):∀n,n<128^(k+1)->(enc n).length<=k+1:=by
 induction k with
 |zero=>intro n h;rw[sN (by simpa using h)];simp
 |succ k ih=>
  intro n h
  by_cases hn:n<128
  ·rw[sN hn];simp
  ·rw[BK hn]
   have:=ih (n/128) (by rw[Nat.div_lt_iff_lt_mul (by omega)];rw[Nat.pow_succ] at h;exact h)
   simp;omega
theorem qA {n:Nat} (h:n<18446744073709551616):(enc n).length<=10:=acR 9 n (Nat.lt_of_lt_of_le h (by decide))
theorem Tq (m:Nat):bits BinOp.or IntKind.u8 ((m:Int)%256) 128=((m%128+128:Nat):Int):=by
 have h:∀k:Fin 256,bits BinOp.or IntKind.u8 ((k.val:Int)) 128=((k.val%128+128:Nat):Int):=by decide+kernel
 have:=h ⟨m%256,Nat.mod_lt _ (by omega)⟩
 simp only at this
 rw[show((m:Int)%256)=((m%256:Nat):Int) by omega,this]
 congr 1;omega
def jG (p:List UInt8):Array Value:=(fm p++List.replicate (10-p.length) (Value.int IntKind.u8 0)).toArray
theorem Po {p:List UInt8} (h:p.length<=10):(jG p).size=10:=by simp[jG,r8];omega
theorem Qz {p:List UInt8} (h:p.length<10) (k:Nat) (hk:k<256):(jG p).setIfInBounds p.length (.int .u8 (k:Int))=jG (p++[UInt8.ofNat k]):=by
 apply Array.ext'
 simp only[jG,Array.toList_setIfInBounds,List.length_append,List.length_singleton]
 rw[List.set_append_right _ _ (by rw[r8];omega),r8,Nat.sub_self]
 obtain⟨j,hj⟩:∃j,10-p.length=j+1:=⟨10-p.length-1,by omega⟩
 rw[hj,show 10-(p.length+1)=j by omega,List.replicate_succ,List.set_cons_zero,Bc]
 simp only[List.append_assoc]
 congr 1
 simp[fm]
 omega
theorem QA {p:List UInt8} (h:p.length<=10):∃x0 x1 x2 x3 x4 x5 x6 x7 x8 x9:Int,jG p=#[.int .u8 x0,.int .u8 x1,.int .u8 x2,.int .u8 x3,.int .u8 x4,.int .u8 x5,.int .u8 x6,.int .u8 x7,.int .u8 x8,.int .u8 x9]:=by
 have hs:=Po h
 have mS:∀v∈(jG p).toList,∃x:Int,v=.int .u8 x:=by
  intro v hv
  simp only[jG,List.mem_append,fm,List.mem_map,List.mem_replicate] at hv
  rcases hv with⟨b,_,rfl⟩|⟨_,rfl⟩
  ·exact⟨_,rfl⟩
  ·exact⟨_,rfl⟩
 obtain⟨l,hl⟩:∃l,(jG p).toList=l:=⟨_,rfl⟩
 have e:jG p=l.toArray:=by rw[<-hl]
 rw[hl] at mS
 have aff:l.length=10:=by rw[<-hl];simpa using hs
 match l,aff with
 |[a0,a1,a2,a3,a4,a5,a6,a7,a8,a9],_=>
  obtain⟨x0,rfl⟩:=mS a0 (by simp)
  obtain⟨x1,rfl⟩:=mS a1 (by simp)
  obtain⟨x2,rfl⟩:=mS a2 (by simp)
  obtain⟨x3,rfl⟩:=mS a3 (by simp)
  obtain⟨x4,rfl⟩:=mS a4 (by simp)
  obtain⟨x5,rfl⟩:=mS a5 (by simp)
  obtain⟨x6,rfl⟩:=mS a6 (by simp)
  obtain⟨x7,rfl⟩:=mS a7 (by simp)
  obtain⟨x8,rfl⟩:=mS a8 (by simp)
  obtain⟨x9,rfl⟩:=mS a9 (by simp)
  exact⟨x0,x1,x2,x3,x4,x5,x6,x7,x8,x9,e⟩
theorem abq {n m:Nat} {p:List UInt8} (hp:m*128^p.length<=n):m<=n:=
 Nat.le_trans (Nat.le_mul_of_pos_right m (Nat.one_le_pow _ _ (by omega))) hp
theorem XO {n m:Nat} {p:List UInt8} (h:n<18446744073709551616) (hp:m*128^p.length<=n) (hm:127<m):p.length<9:=by
 rcases Nat.lt_or_ge p.length 9 with h|h
 ·exact h
 ·have h1:=Nat.pow_le_pow_right (show 0<128 by omega) h
  have h2:128*128^p.length<=m*128^p.length:=Nat.mul_le_mul_right _ (by omega)
  have uW:(128:Nat)^9=9223372036854775808:=by decide
  omega
set_option maxRecDepth 20000 in
set_option maxHeartbeats 20000000 in
theorem abr (w:World) (n:Nat) (hn:n<18446744073709551616):Calls prog 159 #[.int .u64 (n:Int)] w fun e w'=>e=.returned (.tuple #[.agg (jG (enc n)),.int .i64 ((enc n).length:Int)])/\B w w':=by
 have HN:=Lib.hid hn
 have hz:jG []=#[.int .u8 0,.int .u8 0,.int .u8 0,.int .u8 0,.int .u8 0,.int .u8 0,.int .u8 0,.int .u8 0,.int .u8 0,.int .u8 0]:=rfl
 have k1:dR ((w.alloc (.cells (jG []) 222)).alloc (.cells (jG []) 222)) w.heap.size 222 (jG []):=(dR.new w _ _).alloc _
 have k2:dR ((w.alloc (.cells (jG []) 222)).alloc (.cells (jG []) 222)) (w.heap.size+1) 222 (jG []):=by simpa using dR.new (w.alloc (.cells (jG []) 222)) 222 (jG [])
 have k3:B w ((w.alloc (.cells (jG []) 222)).alloc (.cells (jG []) 222)):=(B.j9 _ _).trans (B.j9 _ _)
 rw[hz] at k1 k2 k3
 clear hz hn
 go_enter func159,ntmps159
 go_wp2_with fail
 rw[<-show jG []=#[Value.int IntKind.u8 0,.int .u8 0,.int .u8 0,.int .u8 0,.int .u8 0,.int .u8 0,.int .u8 0,.int .u8 0,.int .u8 0,.int .u8 0] from rfl] at k1 k2 k3
 go_loopw [0,5] (fun x k wr=>∃(m q:Nat) (p:List UInt8),x=.int .u64 (m:Int)/\k=.int .i64 (q:Int)/\Hid (p.length=q)/\Hid (enc n=p++enc m)/\q<10/\Hid (m*128^q<=n)/\Hid (dR wr w.heap.size 222 (jG []))/\Hid (dR wr (w.heap.size+1) 222 (jG p))/\Hid (B w wr)) (fun x _ _=>(intOf x).toNat)
 case atStart=>exact⟨n,0,[],rfl,rfl,rfl,rfl,by omega,by show n*128^0<=n;omega,k1,k2,k3⟩
 case round=>
  obtain⟨m,q,p,rfl,rfl,HL,HE,hq,HP,H1,H2,H3⟩:=hrel
  clear k1 k2 k3
  have hmn:=Lib.hid (abq (p:=p) (by rw[HL.out];exact HP.out))
  have eE:=Lib.hid (Po (p:=p) (by rw[HL.out];omega))
  have c3:=H2.out.frozen q
  obtain⟨cv,c2⟩:∃cv,wr.cell? ⟨w.heap.size+1,q,none⟩=some cv:=by
   rw[H2.out.cell]
   exact⟨(jG p)[q]'(by rw[eE.out];omega),Array.getElem?_eq_getElem _⟩
  have LN:(q:Int)<10:=by omega
  by_cases hm:127<m
  ·have iK:=Lib.hid (XO (p:=p) HN.out (by rw[HL.out];exact HP.out) hm)
   go_wp2_with fail
   go_roundw
   case rel=>
    have hq9:q<9:=by have:=iK.out;have:=HL.out;omega
    refine⟨m/128,q+1,p++[UInt8.ofNat (m%128+128)],by go_num,by go_num,?_,?_,by omega,?_,H1.out.S6 (by simp) _,?_,H3.out.setCell (by simp) _⟩
    ·show(p++[_]).length=q+1
     rw[List.length_append,HL.out];rfl
    ·show enc n=_
     rw[HE.out,BK (by omega),List.append_assoc];rfl
    ·show m/128*128^(q+1)<=n
     rw[Nat.pow_succ,Nat.mul_comm (128^q) 128,<-Nat.mul_assoc]
     exact Nat.le_trans (Nat.mul_le_mul_right _ (Nat.div_mul_le_self m 128)) HP.out
    ·show dR _ _ _ _
     rw[Tq]
     have:=H2.out.GX q (.int .u8 ((m%128+128:Nat):Int))
     have e:=Qz (p:=p) (by rw[HL.out];omega) (m%128+128) (by omega)
     rw[HL.out] at e
     rwa [e] at this
   case measure=>simp[intOf];omega
  ·have LO:=Qz (p:=p) (by rw[HL.out];omega) m (by omega)
   rw[HL.out] at LO
   obtain⟨x0,x1,x2,x3,x4,x5,x6,x7,x8,x9,hx⟩:=QA (p:=p++[UInt8.ofNat m]) (by simp;rw[HL.out];omega)
   have HX:=Lib.hid hx
   have S7:=Lib.hid (show enc n=p++[UInt8.ofNat m] by rw[HE.out,sN (by omega)])
   have HT:=Lib.hid (show dR (wr.setCell ⟨w.heap.size+1,q,none⟩ (.int .u8 (m:Int))) (w.heap.size+1) 222 #[.int .u8 x0,.int .u8 x1,.int .u8 x2,.int .u8 x3,.int .u8 x4,.int .u8 x5,.int .u8 x6,.int .u8 x7,.int .u8 x8,.int .u8 x9] from by
    have:=H2.out.GX q (.int .u8 (m:Int));rwa [LO,hx] at this)
   have HZ:=Lib.hid (show dR (wr.setCell ⟨w.heap.size+1,q,none⟩ (.int .u8 (m:Int))) w.heap.size 222 #[.int .u8 0,.int .u8 0,.int .u8 0,.int .u8 0,.int .u8 0,.int .u8 0,.int .u8 0,.int .u8 0,.int .u8 0,.int .u8 0] from H1.out.S6 (by simp) _)
   have HB:=Lib.hid (show B w (wr.setCell ⟨w.heap.size+1,q,none⟩ (.int .u8 (m:Int))) from H3.out.setCell (by simp) _)
   have ad9:(m:Int)%256=m:=by omega
   clear LO hx
   go_wp2_with (refine wpList_load_row rfl 222 (.tmp 4) rfl (w.heap.size+1) rfl 222 #[.int .u8 x0,.int .u8 x1,.int .u8 x2,.int .u8 x3,.int .u8 x4,.int .u8 x5,.int .u8 x6,.int .u8 x7,.int .u8 x8,.int .u8 x9] (0,0) _ HT.out underlying222 rfl (by kernel_rfl) ?_;have cz:=fun i=>HZ.out.cell i;have fz:=fun i=>HZ.out.frozen i;have HS:=Lib.hid HB.out;generalize wr.setCell ⟨w.heap.size+1,q,none⟩ (.int .u8 (m:Int))=wz at*)
   refine bodyPost_ret (v:=.tuple #[.agg #[.int .u8 x0,.int .u8 x1,.int .u8 x2,.int .u8 x3,.int .u8 x4,.int .u8 x5,.int .u8 x6,.int .u8 x7,.int .u8 x8,.int .u8 x9],.int .i64 ((q:Int)+1)]) (by simp[results,Tryz.results159,go_sem,cz]) rfl ⟨?_,?_⟩
   ·rw[<-HX.out,<-S7.out]
    have e:((q:Int)+1)=((enc n).length:Int):=by rw[S7.out,List.length_append,HL.out];simp
    rw[e]
   ·repeat (refine Below.setCell ?_ (by simp) _)
    exact HB.out
def R5:Value->Value|.slice A n _=>.slice A n n|v=>v
set_option maxHeartbeats 20000000 in
theorem abt {w:World} {v:Value} {bs:List UInt8} (h:Bs w v bs):Calls prog 160 #[v] w fun e w'=>e=.returned (R5 v)/\w=w':=by
 obtain⟨⟨A,cap,rfl,hn,hc,hm,hr⟩,hl⟩:=h
 have Hr:bs.length<=9223372036854775807:=by unfold maxLen at hm;omega
 have hci:(bs.length:Int)<=(cap:Int):=by omega
 cases A with
 |none=>
  obtain⟨rfl,rfl⟩:=hn rfl
  clear hr hn hc hm hl
  go_enter func160,ntmps160
  go_wp2
  go_ret
  exact⟨rfl,rfl⟩
 |some ad=>
  clear hr hn hm hl
  go_enter func160,ntmps160
  go_wp2
  go_ret
  exact⟨rfl,rfl⟩
theorem VK {P:Program} {t ty:TypeId} {w:World} {v u:Value} {bs news:List UInt8} (ht:P.underlying t=some (.slice 5)) (Hs:(P.info? 5).map (fun i=>(i.zero,i.size,i.bytes))=some (some (.int .u8 0),1,1))
 (hv:Bs w v bs) (hu:Rd w u news.length 1 (fm news)) (hm:0<news.length) (lF:bs.length+news.length<=aL):
 ∃v' w',(Builtin.append_ #[t,t] ty #[R5 v,u]).run P w=.ok v' w'/\w'.ownsRow w.heap.size 5 1 v' (bs++news).length (fm (bs++news))/\B w w':=by
 obtain⟨⟨A,cap,rfl,hn,hc,hmx,hr⟩,hl⟩:=hv
 have mT:bs.length+news.length<=maxLen:=by unfold aL at lF;unfold maxLen;omega
 have eJ:(bs.length+news.length)*1<=140737488355328:=by unfold aL at lF;omega
 cases A with
 |none=>
  obtain⟨rfl,rfl⟩:=hn rfl
  obtain⟨v',w',h1,h2,h3,h4⟩:=I3 (P:=P) (t:=t) (ty:=ty) ht Hs rfl Nat.zero_lt_one (Ks w w.heap.size 5 1) hu (wO _) (by simpa using mT) (by simpa using eJ) (Nat.le_refl _)
  exact⟨v',w',h1,by simpa using h2,B.grown (Below.refl _ _) h3 (fun k hk=>by simp[Value.ownBlock] at hk)⟩
 |some ad=>
  obtain⟨i,hi,xL,hs,wE⟩:=info_parts Hs
  obtain⟨Gu,A',c',rfl,mw,Ar,As⟩:=hu
  cases A' with
  |none=>have:=(mw rfl).1;omega
  |some S8=>
   obtain⟨v',w',h1,h2,h3⟩:=run_append_arg_grows (P:=P) w t ty 5 i (.int .u8 0) 1 1 ht hi xL hs wE rfl Nat.zero_lt_one ad bs.length bs.length (fm bs) (by rw[r8];omega) (hr ad rfl).2 S8 news.length c' (fm news) (by rw[r8];omega) (As S8 rfl).2 (by omega) mT eJ
   exact⟨v',w',h1,by rw[List.length_append,Bc];exact h2,B.grown (Below.refl _ _) h3 (fun k hk=>by cases hk)⟩
theorem acS {w:World} {g:Nat} {p:List UInt8} (hp:p.length<=10) (h:dR w g 222 (jG p)):Rd w (.slice (some ⟨g,0,none⟩) p.length 10) p.length 1 (fm p):=by
 refine⟨by rw[r8];omega,_,10,rfl,fun e=>(by cases e),hp,fun ad kB=>?_⟩
 cases kB
 refine⟨fun _=>h.lt,fun j x hx=>?_⟩
 have ea:(⟨g,0,none⟩:Addr).add j=⟨g,j,none⟩:=by unfold Addr.add;split<;>simp_all
 rw[ea,h.cell,<-hx]
 have hj:j<(fm p).length:=by
  rcases Nat.lt_or_ge j (fm p).length with h|h
  ·exact h
  ·rw[List.getElem?_eq_none h] at hx;cases hx
 simp only[jG,List.getElem?_toArray]
 rw[List.getElem?_append_left hj]
set_option maxRecDepth 20000 in
set_option maxHeartbeats 20000000 in
theorem Pp {w:World} {v:Value} {bs:List UInt8} (h:Bs w v bs) (n:Nat) (hn:n<18446744073709551616) (hl:bs.length+10<=aL):Calls prog 112 #[v,.int .u64 (n:Int)] w (qL w (bs++enc n)):=by
 have H:=Lib.hid h
 have HF:=Lib.hid (abr w n hn)
 have HE:=Lib.hid (qA hn)
 have HL:=Lib.hid hl
 obtain⟨x0,x1,x2,x3,x4,x5,x6,x7,x8,x9,hx⟩:=QA (p:=enc n) (qA hn)
 have HX:=Lib.hid hx
 have hq:(enc n).length<=10:=qA hn
 have LN:((enc n).length:Int)<=10:=by omega
 clear h hn hl hx
 go_enter func112,ntmps112
 go_wp2_with (go_at_call 159;refine HF.out.mono ?_;rintro e w1 ⟨rfl,mT⟩;rw[HX.out])
 have eJ:=mT.trans (B.j9 w1 (.cells #[.int .u8 x0,.int .u8 x1,.int .u8 x2,.int .u8 x3,.int .u8 x4,.int .u8 x5,.int .u8 x6,.int .u8 x7,.int .u8 x8,.int .u8 x9] 222))
 have hk:dR (w1.alloc (.cells #[.int .u8 x0,.int .u8 x1,.int .u8 x2,.int .u8 x3,.int .u8 x4,.int .u8 x5,.int .u8 x6,.int .u8 x7,.int .u8 x8,.int .u8 x9] 222)) w1.heap.size 222 #[.int .u8 x0,.int .u8 x1,.int .u8 x2,.int .u8 x3,.int .u8 x4,.int .u8 x5,.int .u8 x6,.int .u8 x7,.int .u8 x8,.int .u8 x9]:=dR.new w1 _ _
 generalize w1.alloc (.cells #[.int .u8 x0,.int .u8 x1,.int .u8 x2,.int .u8 x3,.int .u8 x4,.int .u8 x5,.int .u8 x6,.int .u8 x7,.int .u8 x8,.int .u8 x9] 222)=w2 at*
 have dc:dR w2.drew w1.heap.size 222 (jG (enc n)):=by rw[HX.out];exact hk
 obtain⟨v',w3,lJ,h2,h3⟩:=VK (P:=prog) (t:=26) (ty:=26) underlying26 Ah (H.out.later (eJ.trans (Below.refl _ _).drew)) (acS HE.out dc) (Qy n) (by have:=HE.out;have:=HL.out;omega)
 have HC:=Lib.hid (abt (H.out.later (eJ.trans (Below.refl _ _).drew)))
 have HB:=Lib.hid (eJ.trans ((Below.refl _ _).drew.trans h3))
 have qU:=eJ.size
 have HO:=Lib.hid (Zw h2 (show w.heap.size<=w2.drew.heap.size from qU))
 clear hk dc h2 h3 mT eJ qU
 go_region_law (first
  |(refine XP rfl 160 #[.tmp 12] #[26] rfl Tryz.call160 HC.out rfl ?_;rintro e wn ⟨rfl,rfl⟩;refine⟨_,rfl,?_⟩)
  |(refine Uc rfl (.tmp 13) (.tmp 15) 26 rfl rfl rfl lJ ?_))
 all_goals go_wp2_with fail;go_ret;exact⟨v',rfl,HO.out,HB.out⟩
theorem qL.mk {w w':World} {bs:List UInt8} {v:Value} {n:Nat} {xs:List Value} (h:w'.ownsRow w.heap.size 5 1 v n xs) (hn:n=bs.length) (hx:xs=fm bs) (hb:B w w'):qL w bs (.returned v) w':=by
 subst hn hx;exact⟨v,rfl,h,hb⟩
theorem qL.app {w w1 w2:World} {z xs:List UInt8} {A1 A2:Option Addr} {c1 c2:Nat} (r1:w1.ownsRow w.heap.size 5 1 (.slice A1 z.length c1) z.length (fm z)) (hb:B w w1)
 (r2:w2.ownsRow w.heap.size 5 1 (.slice A2 (z.length+xs.length) c2) (z.length+xs.length) (fm z++fm xs)) (x2:w1.grownBy w2 (Value.slice A1 z.length c1).ownBlock):qL w (z++xs) (.returned (.slice A2 (z.length+xs.length) c2)) w2:=
 qL.mk r2 (by simp) (by rw[Bc]) (B.grown hb x2 (fun k hk=>Gh r1 hk))
theorem Rd.byte (w:World) (b:UInt8) (y:Int) (h:(b.toNat:Int)=y):Rd (w.alloc (.cells #[.int .u8 y] 5)) (.slice (some ⟨w.heap.size,0,none⟩) 1 1) 1 1 (fm [b]):=by
 subst h
 exact Rd.lit w #[.int .u8 (b.toNat:Int)] 5 1 rfl
theorem S9 (k:Nat) (h:k<256):((UInt8.ofNat k).toNat:Int)=(k:Int):=by rw[UInt8.toNat_ofNat'];congr 1;omega
theorem Gi {x:Int} (h:0<=x/\x<18446744073709551616):IntKind.u64.wrap x=x:=by
 simp[IntKind.wrap,IntKind.signed,IntKind.bits];omega
theorem Pd {w:World} {v:Value} {bs:List UInt8} (h:Bs w v bs) (n:Nat) (hn:n<18446744073709551616) (hl:bs.length+10<=aL):Calls prog 73 #[v,.int .u64 (n:Int)] w (qL w (bs++enc n)):=by
 have H:=Lib.hid h
 have HE:=Lib.hid (qA hn)
 have HL:=Lib.hid hl
 have HN:=Lib.hid hn
 have g1:0+bs.length<=maxLen:=by unfold aL at hl;unfold maxLen;omega
 have g2:(0+bs.length)*1<=140737488355328:=by unfold aL at hl;omega
 have o1:=wO bs
 clear h hn hl
 go_enter func73,ntmps73
 go_wp2_with (at_builtin;refine CO (v:=.slice none 0 0) (base:=w.heap.size) rfl (.tmp 6) (.tmp 7) 26 rfl underlying26 Ah rfl Nat.zero_lt_one rfl rfl (Ks _ _ 5 1) H.out.rd o1 g1 g2 (Nat.le_refl _) ?_;intro A1 c1 w1 r1 x1 y1;simp only[Nat.zero_add,List.nil_append] at r1 y1;have Ta:B w w1:=B.grown (Below.refl _ _) x1 (fun k hk=>by simp[Value.ownBlock] at hk))
 have R1:=Lib.hid r1
 have Cr:=Lib.hid Ta
 clear r1 x1 y1 Ta
 go_loopw [1,5] (fun x v wr=>∃(m k:Nat) (z:List UInt8) (A:Option Addr) (c:Nat),x=.int .u64 (m:Int)/\v=.slice A k c/\Hid (z.length=k)/\Hid (m<=n)/\Hid (bs++enc n=z++enc m)/\Hid (wr.ownsRow w.heap.size 5 1 (.slice A k c) k (fm z))/\Hid (B w wr)) (fun x _ _=>(intOf x).toNat)
 case atStart=>exact⟨n,bs.length,bs,A1,c1,rfl,by simp,rfl,Nat.le_refl _,rfl,R1.out,Cr.out⟩
 case round=>
  obtain⟨m,k,z,A,c,rfl,rfl,HZ,HM,LP,HR,HB⟩:=hrel
  have hk:k+1<=bs.length+10:=by
   have h1:=congrArg List.length LP.out
   simp only[List.length_append] at h1
   have:=Qy m;have:=HE.out;have:=HZ.out;omega
  have g3:k+1<=maxLen:=by have:=HL.out;unfold aL at this;unfold maxLen;omega
  have g4:(k+1)*1<=140737488355328:=by have:=HL.out;unfold aL at this;omega
  have kC:=Lib.hid HB.out.size
  by_cases hm:128<=m
  ·have LQ:(128:Int)<=m:=by omega
   have hw:IntKind.u64.wrap ((m:Int)/128)=(m:Int)/128:=Gi (by have:=HN.out;have:=HM.out;omega)
   have o2:=wO [UInt8.ofNat (m%128+128)]
   have fH:=Lib.hid (show((UInt8.ofNat (m%128+128)).toNat:Int)=(m:Int)%128+128 by rw[S9 _ (by omega)];omega)
   go_wp2_with (at_builtin;refine CO rfl (.tmp 11) (.tmp 16) 26 rfl underlying26 Ah rfl Nat.zero_lt_one rfl rfl (I4 HR.out (B.j9 _ _)) (Rd.byte wr (UInt8.ofNat (m%128+128)) _ fH.out) o2 g3 g4 (Nat.le_trans kC.out (B.j9 _ _).size) ?_;intro A2 c2 w2 r2 x2 y2;have R2:=Lib.hid r2;have X2:=Lib.hid x2;clear r2 x2 y2)
   go_roundw
   case rel=>
    refine⟨m/128,k+1,z++[UInt8.ofNat (m%128+128)],A2,c2,by go_num,rfl,?_,Nat.le_trans (Nat.div_le_self _ _) HM.out,?_,?_,?_⟩
    ·show(z++[_]).length=k+1
     rw[List.length_append,HZ.out];rfl
    ·show bs++enc n=_
     rw[LP.out,BK (by omega),List.append_assoc];rfl
    ·show World.ownsRow _ _ _ _ _ _ _
     rw[Bc];exact R2.out
    ·exact B.grown (HB.out.trans (B.j9 _ _)) X2.out (fun g hg=>Gh HR.out hg)
   case measure=>simp[intOf];omega
  ·have LQ:¬(128:Int)<=m:=by omega
   have ad9:(m:Int)%256=m:=by omega
   have o2:=wO [UInt8.ofNat m]
   have fH:=Lib.hid (show((UInt8.ofNat m).toNat:Int)=(m:Int) by rw[S9 _ (by omega)])
   have Tb:=Lib.hid (show bs++enc n=z++[UInt8.ofNat m] by rw[LP.out,sN (by omega)])
   clear hm
   go_wp2_with (at_builtin;refine CO rfl (.tmp 20) (.tmp 23) 26 rfl underlying26 Ah rfl Nat.zero_lt_one rfl rfl (I4 HR.out (B.j9 _ _)) (Rd.byte wr (UInt8.ofNat m) _ fH.out) o2 g3 g4 (Nat.le_trans kC.out (B.j9 _ _).size) ?_;intro A2 c2 w2 r2 x2 y2;have R2:=Lib.hid r2;have X2:=Lib.hid x2;clear r2 x2 y2)
   go_ret
   exact qL.mk R2.out (by rw[Tb.out,List.length_append,HZ.out];rfl) (by rw[Tb.out,Bc]) (B.grown (HB.out.trans (B.j9 _ _)) X2.out (fun g hg=>Gh HR.out hg))
def B8 (bs xs:List UInt8):List UInt8:=bs++enc xs.length++xs
set_option maxHeartbeats 20000000 in
theorem Wt {w:World} {v u:Value} {bs xs:List UInt8} (h:Bs w v bs) (k:Bs w u xs) (hl:(bs++xs).length+10<=aL):Calls prog 154 #[v,u] w (qL w (B8 bs xs)):=by
 have nC:xs.length<18446744073709551616:=by have:=k.len;unfold aL at this;omega
 have xM:bs.length+10+xs.length<=aL:=by simp at hl;omega
 have HP:=Lib.hid (Pp h xs.length nC (by omega))
 have kN:=qA nC
 have HK:=Lib.hid k
 obtain⟨z,hz⟩:∃z,z=bs++enc xs.length:=⟨_,rfl⟩
 have LR:z.length<=bs.length+10:=by rw[hz,List.length_append];omega
 rw[<-hz] at HP
 have g1:z.length+xs.length<=maxLen:=by unfold aL at xM;unfold maxLen;omega
 have g2:(z.length+xs.length)*1<=140737488355328:=by unfold aL at xM;omega
 have o1:=wO xs
 have HZ:=Lib.hid (show B8 bs xs=z++xs by rw[hz];rfl)
 have Tr:(xs.length:Int)<=140737488355328:=by have:=k.len;unfold aL at this;omega
 rw[HZ.out]
 obtain⟨B0,cp,rfl⟩:=HK.out.rd.slice
 clear h k hl xM kN hz LR nC
 go_enter func154,ntmps154
 go_wp2_with (first
  |(go_at_call 112;(with_reducible refine HP.out.mono ?_);rintro e w1 ⟨v1,rfl,r1,mT⟩;obtain⟨A1,c1,rfl⟩:=I5 r1;have Li:=mT.size)
  |(at_builtin;refine CO rfl (.tmp 9) (.tmp 10) 26 rfl underlying26 Ah rfl Nat.zero_lt_one rfl rfl r1 (HK.out.later mT).rd o1 g1 g2 Li ?_;intro A2 c2 w2 r2 x2 y2))
 go_ret
 exact qL.app r1 mT r2 x2
set_option maxHeartbeats 20000000 in
theorem Wh {w:World} {v u:Value} {bs xs:List UInt8} (h:Bs w v bs) (k:Bs w u xs) (hl:(bs++xs).length+10<=aL):Calls prog 114 #[v,u] w (qL w (B8 bs xs)):=by
 have nC:xs.length<18446744073709551616:=by have:=k.len;unfold aL at this;omega
 have xM:bs.length+10+xs.length<=aL:=by simp at hl;omega
 have HP:=Lib.hid (Pd h xs.length nC (by omega))
 have kN:=qA nC
 have HK:=Lib.hid k
 obtain⟨z,hz⟩:∃z,z=bs++enc xs.length:=⟨_,rfl⟩
 have LR:z.length<=bs.length+10:=by rw[hz,List.length_append];omega
 rw[<-hz] at HP
 have g1:z.length+xs.length<=maxLen:=by unfold aL at xM;unfold maxLen;omega
 have g2:(z.length+xs.length)*1<=140737488355328:=by unfold aL at xM;omega
 have o1:=wO xs
 have HZ:=Lib.hid (show B8 bs xs=z++xs by rw[hz];rfl)
 have Tr:(xs.length:Int)<=140737488355328:=by have:=k.len;unfold aL at this;omega
 rw[HZ.out]
 obtain⟨B0,cp,rfl⟩:=HK.out.rd.slice
 clear h k hl xM kN hz LR nC
 go_enter func114,ntmps114
 go_wp2_with (first
  |(go_at_call 73;(with_reducible refine HP.out.mono ?_);rintro e w1 ⟨v1,rfl,r1,mT⟩;obtain⟨A1,c1,rfl⟩:=I5 r1;have Li:=mT.size)
  |(at_builtin;refine CO rfl (.tmp 9) (.tmp 10) 26 rfl underlying26 Ah rfl Nat.zero_lt_one rfl rfl r1 (HK.out.later mT).rd o1 g1 g2 Li ?_;intro A2 c2 w2 r2 x2 y2))
 go_ret
 exact qL.app r1 mT r2 x2
section
open Go.RowKit Go.Deep
def eH (most:Nat):Nat->Nat->List UInt8->Nat×List UInt8×Int
 |_,_,[]=>(0,[],10)
 |i,acc,c::r=>
  if i=9/\1<c.toNat then(0,[],11)
  else if 127<c.toNat then eH most (i+1) (acc+c.toNat%128*128^i) r
  else if(0<i/\c.toNat=0)\/most<acc+c.toNat*128^i then(0,[],11)
  else(acc+c.toNat*128^i,r,0)
end
section
set_option maxHeartbeats 20000000 in
theorem abu {w:World} {v:Value} {bs:List UInt8} (h:Bs w v bs):Calls prog 171 #[v] w (I2 w bs):=by
 rcases h.isNil with⟨rfl,rfl⟩|⟨ad,cap,rfl⟩
 ·have q:∀w,(binOp .eql 26 (.slice none 0 0) (.slice none 0 0)).run prog w=.ok (.bool true) w:=fun w=>by kernel_rfl
  have E:=Lib.hid (show I2 w [] (.returned (.slice none 0 0)) w from⟨_,rfl,Ks w _ _ _,Below.refl _ _⟩)
  clear h
  go_enter func171,ntmps171
  go_wp2
  go_ret
  exact E.out
 ·have q:∀w,(binOp .eql 26 (.slice (some ad) bs.length cap) (.slice none 0 0)).run prog w=.ok (.bool false) w:=fun w=>by kernel_rfl
  have hb:B w (w.alloc (.cells #[] 5)):=B.j9 _ _
  have ho:(w.alloc (.cells #[] 5)).ownsRow w.heap.size 5 1 (.slice (some ⟨w.heap.size,0,none⟩) 0 0) ([]:List UInt8).length (fm []):=⟨rfl,.inr ⟨_,0,#[],rfl,Nat.le_refl _,heap_alloc_new w _,Nat.le_refl _,by unfold maxLen;omega,rfl,rfl⟩⟩
  obtain⟨v',w',lJ,h2,h3,h4⟩:=XQ (P:=prog) (t:=26) (ty:=47) underlying26 Ah ho (h.later hb) (by have:=h.len;simpa using this) (by simp)
  have E:=Lib.hid (show I2 w bs (.returned v') w' from⟨_,rfl,h2,hb.grown h3 (fun k hk=>by simp[Value.ownBlock] at hk;omega)⟩)
  clear h ho h2 h3 h4 hb
  go_enter func171,ntmps171
  go_wp2_with (at_builtin;refine No rfl (.tmp 5) (.tmp 6) 26 rfl rfl rfl lJ ?_)
  go_ret
  exact E.out
section
variable {W w:World} {p:Nat} {bs:List UInt8} {e:Int} {L:List gi}
end
end
section
theorem afg (y:Nat) (h:y<256):bits BinOp.and IntKind.u8 (y:Int) 127=((y%128:Nat):Int):=by
 have h':∀k:Fin 256,bits BinOp.and IntKind.u8 ((k.val:Int)) 127=((k.val%128:Nat):Int):=by decide+kernel
 exact h' ⟨y,h⟩
theorem afh (a e:Nat) (ha:a<18446744073709551616) (he:e<18446744073709551616):bits BinOp.or IntKind.u64 (a:Int) (e:Int)=((a ||| e:Nat):Int):=by
 have hlt:a ||| e<2^64:=Nat.or_lt_two_pow (by omega) (by omega)
 have e0:bits BinOp.or IntKind.u64 (a:Int) (e:Int)=IntKind.u64.wrap (((BitVec.ofInt 64 (a:Int) ||| BitVec.ofInt 64 (e:Int)).toNat:Nat):Int):=rfl
 have e1:(BitVec.ofInt 64 (a:Int))=BitVec.ofNat 64 a:=by simp
 have e2:(BitVec.ofInt 64 (e:Int))=BitVec.ofNat 64 e:=by simp
 rw[e0,e1,e2,BitVec.toNat_or,BitVec.toNat_ofNat,BitVec.toNat_ofNat,Nat.mod_eq_of_lt (show a<2^64 by omega),Nat.mod_eq_of_lt (show e<2^64 by omega)]
 exact Gi (by omega)
theorem abv (acc q y:Nat) (hy:y<256) (hq:q<=9) (ha:acc<128^q):∃d e s:Nat,IntKind.u64.wrap (bits BinOp.and IntKind.u8 (y:Int) 127)=(d:Int)/\IntKind.u64.wrap ((d:Int)*2^(7*q))=(e:Int)/\bits BinOp.or IntKind.u64 (acc:Int) (e:Int)=(s:Int)/\
 ((q<9\/y<=1)->s=acc+y%128*128^q):=by
 have T5:128^q<=9223372036854775808:=Nat.le_trans (Nat.pow_le_pow_right (by omega) hq) (by decide)
 have LS:(2:Nat)^(7*q)=128^q:=by rw[Nat.pow_mul]
 refine⟨y%128,y%128*128^q%18446744073709551616,acc ||| (y%128*128^q%18446744073709551616),?_,?_,?_,?_⟩
 ·rw[afg y hy,Gi (by omega)]
 ·have:((y%128:Nat):Int)*2^(7*q)=((y%128*128^q:Nat):Int):=by rw[<-LS];push_cast;rfl
  rw[this]
  simp[IntKind.wrap,IntKind.signed,IntKind.bits]
 ·exact afh _ _ (by omega) (Nat.mod_lt _ (by omega))
 ·intro h
  have hlt:y%128*128^q<18446744073709551616:=by
   rcases h with h|h
   ·have h8:128^q<=72057594037927936:=Nat.le_trans (Nat.pow_le_pow_right (by omega) (show q<=8 by omega)) (by decide)
    have:=Nat.mul_le_mul (show y%128<=127 by omega) h8
    omega
   ·have:=Nat.mul_le_mul (show y%128<=1 by omega) T5
    omega
  have LU:acc<2^(7*q):=by rw[LS];exact ha
  rw[Nat.mod_eq_of_lt hlt,<-LS,Nat.or_comm,Nat.mul_comm,<-Nat.two_pow_add_eq_or_of_lt LU,Nat.add_comm]
theorem Kt {acc q d:Nat} (ha:acc<128^q) (hd:d<128):acc+d*128^q<128^(q+1):=by
 rw[Nat.pow_succ]
 have:=Nat.mul_le_mul_right (128^q) (show d<=127 by omega)
 omega
theorem IJ {most i acc:Nat} {c:UInt8} {r:List UInt8} (h:127<c.toNat) (h9:i≠9):eH most i acc (c::r)=eH most (i+1) (acc+c.toNat%128*128^i) r:=by
 rw[eH,if_neg (by omega),if_pos h]
theorem IK {most i acc:Nat} {c:UInt8} {r:List UInt8} (h9:i=9) (h:1<c.toNat):eH most i acc (c::r)=(0,[],11):=by
 rw[eH,if_pos ⟨h9,h⟩]
theorem XR {most i acc:Nat} {c:UInt8} {r:List UInt8} (h:c.toNat<=127) (hb:(0<i/\c.toNat=0)\/most<acc+c.toNat*128^i):eH most i acc (c::r)=(0,[],11):=by
 rw[eH]
 split
 ·rfl
 ·split
  ·omega
  ·rfl
theorem N0 {most i acc:Nat} {c:UInt8} {r:List UInt8} (h:c.toNat<=127) (h9:¬(i=9/\1<c.toNat)) (hb:¬((0<i/\c.toNat=0)\/most<acc+c.toNat*128^i)):eH most i acc (c::r)=(acc+c.toNat*128^i,r,0):=by
 rw[eH,if_neg h9,if_neg (by omega),if_neg hb]
section
variable {W w:World} {p:Nat} {bs:List UInt8} {e:Int} {L:List gi}
end
end
section
section
variable {W w:World} {p:Nat} {bs:List UInt8} {e:Int} {L:List gi}
theorem Pq (most:Nat):∀(bs:List UInt8) (i acc:Nat),(eH most i acc bs).1<=most
 |[],_,_=>Nat.zero_le _
 |c::r,i,acc=>by
  unfold eH
  split
  ·exact Nat.zero_le _
  ·split
   ·exact Pq most r _ _
   ·split
    ·exact Nat.zero_le _
    ·rename_i h;show acc+c.toNat*128^i<=most;omega
end
end
section
theorem Ow (most:Nat):∀(bs:List UInt8) (i acc:Nat),(eH most i acc bs).2.1.length<=bs.length/\((eH most i acc bs).2.2=0->(eH most i acc bs).2.1.length<bs.length)
 |[],_,_=>⟨by simp[eH],by simp[eH]⟩
 |c::r,i,acc=>by
  have ih:=Ow most r (i+1) (acc+c.toNat%128*128^i)
  unfold eH
  split
  ·simp
  ·split
   ·exact⟨by simp;omega,fun h=>by have:=ih.2 h;simp;omega⟩
   ·split
    ·simp
    ·simp
section
variable {W w:World} {p:Nat} {bs:List UInt8} {e:Int} {L:List gi}
end
end
section
section
variable {W w:World} {p:Nat} {bs:List UInt8} {e:Int} {L:List gi}
end
end
section
section
variable {W w:World} {p:Nat} {bs:List UInt8} {e:Int} {L:List gi}
end
end
section
section
variable {W w:World} {p:Nat} {bs:List UInt8} {e:Int} {L:List gi}
end
end
section
section
variable {W w:World} {p:Nat} {bs:List UInt8} {e:Int} {L:List gi}
end
end
theorem ofNat_toNat (c:UInt8):UInt8.ofNat c.toNat=c:=by simp
theorem Pt (most:Nat):∀(bs:List UInt8) (i acc v:Nat) (rest:List UInt8),eH most i acc bs=(v,rest,0)->∃d,v=acc+d*128^i/\bs=enc d++rest/\(0<i->0<d)
 |[],i,acc,v,rest,h=>by simp[eH] at h
 |c::r,i,acc,v,rest,h=>by
  have hc:=c.toNat_lt
  unfold eH at h
  split at h
  ·simp at h
  ·split at h
   ·rename_i h2
    obtain⟨d,h3,h4,h5⟩:=Pt most r _ _ v rest h
    have hd:=h5 (by omega)
    refine⟨c.toNat%128+128*d,?_,?_,fun _=>by omega⟩
    ·rw[h3,Nat.pow_succ,Nat.add_mul]
     have:d*(128^i*128)=128*d*128^i:=by rw[Nat.mul_comm (128^i) 128,<-Nat.mul_assoc,Nat.mul_comm d 128]
     omega
    ·rw[BK (by omega),show(c.toNat%128+128*d)%128+128=c.toNat by omega,show(c.toNat%128+128*d)/128=d by omega,ofNat_toNat,h4]
     rfl
   ·split at h
    ·simp at h
    ·rename_i h1 h2 h3
     simp only[Prod.mk.injEq] at h
     refine⟨c.toNat,h.1.symm,?_,fun hi=>by omega⟩
     rw[sN (by omega),ofNat_toNat,h.2.1]
     rfl
theorem abx (most:Nat):∀(d i acc:Nat) (rest:List UInt8),i<=9->d*128^i<18446744073709551616->(0<i->0<d)->acc+d*128^i<=most->eH most i acc (enc d++rest)=(acc+d*128^i,rest,0):=by
 intro d
 induction d using Nat.strongRecOn with
 |ind d ih=>
  intro i acc rest hi hb h0 hm
  have e9:(128:Nat)^9=9223372036854775808:=by decide
  by_cases hd:d<128
  ·rw[sN hd]
   have hc:(UInt8.ofNat d).toNat=d:=by rw[UInt8.toNat_ofNat'];omega
   have h9:¬(i=9/\1<(UInt8.ofNat d).toNat):=by
    rw[hc]
    rintro⟨rfl,h⟩
    have:=Nat.mul_le_mul_right (128^9) h
    omega
   show eH most i acc (UInt8.ofNat d::rest)=_
   rw[N0 (by rw[hc];omega) h9 (by rw[hc];rintro(h|h)<;>omega),hc]
  ·rw[BK hd]
   have hc:(UInt8.ofNat (d%128+128)).toNat=d%128+128:=by rw[UInt8.toNat_ofNat'];omega
   have h9:i≠9:=by
    rintro rfl
    have:=Nat.mul_le_mul_right (128^9) (show 128<=d by omega)
    omega
   show eH most i acc (UInt8.ofNat (d%128+128)::(enc (d/128)++rest))=_
   have hs:d%128*128^i+d/128*128^(i+1)=d*128^i:=by
    rw[Nat.pow_succ,Nat.mul_comm (128^i) 128,<-Nat.mul_assoc,<-Nat.add_mul]
    congr 1;omega
   rw[IJ (by rw[hc];omega) h9,hc,show(d%128+128)%128=d%128 by omega,ih (d/128) (by omega) (i+1) _ rest (by omega) (by omega) (fun _=>by omega) (by omega)]
   rw[Nat.add_assoc,hs]
end Go.Proofs.YtafomdobfmmleaaGreatDoor
