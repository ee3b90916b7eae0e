/- Lemmas and contracts, part 17. -/
import Derived.Test.YtafomdobfmmleaaGreatDoorZl16
import Derived.Shelf.Strings.Builder1
import Derived.Shelf.Strings.Builder2
import Derived.Shelf.Strings.OnBuilder
import Derived.Shelf.Strings.BuilderF
import Derived.Shelf.Strings.BuilderK
import Derived.Shelf.Strings.Builder2Cap
import Derived.Shelf.Strconv.Atoi
import Derived.Shelf.Strconv.Itoa0
import Derived.Shelf.Strconv.Itoa1
import Derived.Shelf.LaysM
import Derived.Shelf.Strconv.Itoa2
import Derived.Shelf.Strconv.Itoa3
import Derived.Shelf.Strconv.AtoiErrFast
import Derived.Shelf.Strconv.ParseIntEmpty
import Derived.Shelf.Strconv.AtoiFail
import Derived.Shelf.Strconv.Clone
import Derived.Shelf.Strconv.SyntaxError
import Derived.Shelf.LaysC
import Derived.Shelf.Strconv.ToError
import Derived.Shelf.Strconv.Lower
import Derived.Shelf.Strconv.ParseUint10
import Derived.Shelf.Strconv.ParseUint10Empty
import Derived.Shelf.Strconv.ParseUint10Any
import Derived.Shelf.Strconv.ParseInt10
import Derived.Shelf.Strconv.AtoiLong
import Derived.Shelf.Strconv.AtoiInnerAll
import Derived.Shelf.Strconv.RangeError
import Derived.Shelf.Strconv.ToErrorRange
import Derived.Shelf.Strconv.AtoiAll
import Derived.Shelf.Strconv.ErrVarAll
import Derived.Shelf.Strings.Search1
import Derived.Shelf.Strings.Search2
import Derived.Shelf.Strings.Search3
import Derived.Shelf.Strings.Cut
import Derived.Shelf.Strings.Count
import Derived.Shelf.Strings.Shaped
import Derived.Shelf.Strings.Split
import Derived.Shelf.Strings.SplitShaped
import Derived.Shelf.Unicode.Decode
import Derived.Shelf.Strings.RuneCount
import Derived.Shelf.Strings.Explode
import Derived.Shelf.Unicode.DecodeSlow
import Derived.Shelf.Strings.BuilderCap
import Derived.Test.YtafomdobfmmleaaGreatDoorProg
import Derived.Deep.RegionLaw
namespace Go.Proofs.YtafomdobfmmleaaGreatDoor
set_option linter.unusedVariables false
open Go.Proofs.Tryz
end Go.Proofs.YtafomdobfmmleaaGreatDoor
namespace Go.Proofs
open Go.Shelf
def Tryz.NS:Go.Shelf.Ren:=⟨fun|169=>58|n=>n,fun|70=>112|9=>9|0=>0|72=>114|37=>26|127=>161|3=>3|5=>5|n=>n,fun|n=>n⟩
theorem Tryz.ack:Go.Proofs.Lays.n169 prog Tryz.NS:={
 mixed:=by kernel_rfl
 f169:=func58.trans (congrArg some (by kernel_rfl))
 t0:=underlying0
 a0:=Tryz.isAgg0
 z0:=Tryz.sizeOf0
 v0:=Tryz.zeroValue0
 t3:=underlying3
 a3:=Tryz.isAgg3
 z3:=Tryz.sizeOf3
 v3:=Tryz.zeroValue3
 t9:=underlying9
 a9:=Tryz.isAgg9
 z9:=Tryz.sizeOf9
 v9:=Tryz.zeroValue9
 t37:=underlying26
 a37:=Tryz.isAgg26
 z37:=Tryz.sizeOf26
 v37:=Tryz.zeroValue26
 t70:=underlying112
 a70:=Tryz.isAgg112
 z70:=Tryz.sizeOf112
 v70:=Tryz.zeroValue112
 t72:=underlying114
 a72:=Tryz.isAgg114
 z72:=Tryz.sizeOf114
 v72:=Tryz.zeroValue114
 t127:=underlying161
 a127:=Tryz.isAgg161
 z127:=Tryz.sizeOf161
 v127:=Tryz.zeroValue161}
theorem Tryz.Ua:Builder.Extra prog Tryz.NS:={
 sizeBuilder:=by kernel_rfl
 liesBuilder:=by kernel_rfl
 t5:=underlying5
 a5:=Tryz.isAgg5
 z5:=Tryz.sizeOf5
 v5:=Tryz.zeroValue5
 infoByte:=by kernel_rfl
 cellsByte:=by kernel_rfl
 sizeByte:=by kernel_rfl
 neB5:=by decide}
open Go.RowKit in
theorem Tryz.Builder_String (B b:Nat) (l:List UInt8) (w:World) (h:Lib.IsBuilder 114 5 B b (Lib.byteCells l) w) (h0:l≠[]):
 Calls prog 58 #[.pointer (some ⟨b,0,none⟩)] w fun e w'=>e=.returned (.string ⟨l.toArray⟩)/\Below B w w':=Any.Builder_String Tryz.ack Tryz.Ua B b l w h h0
def Tryz.NT:Go.Shelf.Ren:=⟨fun|156=>28|165=>60|166=>57|169=>58|240=>98|241=>99|276=>138|277=>139|n=>n,fun|31=>78|9=>9|3=>3|4=>4|0=>0|20=>20|72=>114|76=>117|70=>112|37=>26|75=>116|127=>161|164=>196|5=>5|80=>85|n=>n,fun|n=>n⟩
theorem Tryz.Kf:Go.Proofs.Lays.n156 prog Tryz.NT:={
 mixed:=by kernel_rfl
 f156:=func28.trans (congrArg some (by kernel_rfl))
 f165:=func60.trans (congrArg some (by kernel_rfl))
 f166:=func57.trans (congrArg some (by kernel_rfl))
 f169:=func58.trans (congrArg some (by kernel_rfl))
 f240:=func98.trans (congrArg some (by kernel_rfl))
 f241:=func99.trans (congrArg some (by kernel_rfl))
 f276:=func138.trans (congrArg some (by kernel_rfl))
 f277:=func139.trans (congrArg some (by kernel_rfl))
 t0:=underlying0
 a0:=Tryz.isAgg0
 z0:=Tryz.sizeOf0
 v0:=Tryz.zeroValue0
 t3:=underlying3
 a3:=Tryz.isAgg3
 z3:=Tryz.sizeOf3
 v3:=Tryz.zeroValue3
 t4:=underlying4
 a4:=Tryz.isAgg4
 z4:=Tryz.sizeOf4
 v4:=Tryz.zeroValue4
 t9:=underlying9
 a9:=Tryz.isAgg9
 z9:=Tryz.sizeOf9
 v9:=Tryz.zeroValue9
 t20:=underlying20
 a20:=Tryz.isAgg20
 z20:=Tryz.sizeOf20
 v20:=Tryz.zeroValue20
 t31:=underlying78
 a31:=Tryz.isAgg78
 z31:=Tryz.sizeOf78
 v31:=Tryz.zeroValue78
 t37:=underlying26
 a37:=Tryz.isAgg26
 z37:=Tryz.sizeOf26
 v37:=Tryz.zeroValue26
 t70:=underlying112
 a70:=Tryz.isAgg112
 z70:=Tryz.sizeOf112
 v70:=Tryz.zeroValue112
 t72:=underlying114
 a72:=Tryz.isAgg114
 z72:=Tryz.sizeOf114
 v72:=Tryz.zeroValue114
 t75:=underlying116
 a75:=Tryz.isAgg116
 z75:=Tryz.sizeOf116
 v75:=Tryz.zeroValue116
 t76:=underlying117
 a76:=Tryz.isAgg117
 z76:=Tryz.sizeOf117
 v76:=Tryz.zeroValue117
 t127:=underlying161
 a127:=Tryz.isAgg161
 z127:=Tryz.sizeOf161
 v127:=Tryz.zeroValue161
 t164:=underlying196
 a164:=Tryz.isAgg196
 z164:=Tryz.sizeOf196
 v164:=Tryz.zeroValue196}
theorem Tryz.Io:Builder.Extra prog Tryz.NT:={
 sizeBuilder:=by kernel_rfl
 liesBuilder:=by kernel_rfl
 t5:=underlying5
 a5:=Tryz.isAgg5
 z5:=Tryz.sizeOf5
 v5:=Tryz.zeroValue5
 infoByte:=by kernel_rfl
 cellsByte:=by kernel_rfl
 sizeByte:=by kernel_rfl
 neB5:=by decide}
open Go.RowKit in
theorem Tryz.strings_Join_none (a:Option Addr) (c:Nat) (sep:ByteArray) (w:World):
 Calls prog 28 #[.slice a 0 c,.string sep] w fun e w'=>e=.returned (.string ⟨#[]⟩)/\w'=w:=Any.strings_Join_none Tryz.Kf Tryz.Io a c sep w
open Go.RowKit in
theorem Tryz.strings_Join (bk o c:Nat) (xs:List ByteArray) (sep:ByteArray) (w:World) (KI:∀(j:Nat) x,xs[j]?=some x->w.cell? ⟨bk,o+j,none⟩=some (.string x)) (TD:bk<w.heap.size) (hN:xs.length<=140737488355328) (Ce:xs.length<=c) (hlen:(Lib.join (xs.map (·.data.toList)) sep.data.toList).length<=140737488355328):
 Calls prog 28 #[.slice (some ⟨bk,o,none⟩) xs.length c,.string sep] w fun e w'=>e=.returned (.string ⟨(Lib.join (xs.map (·.data.toList)) sep.data.toList).toArray⟩)/\Below w.heap.size w w':=Any.strings_Join Tryz.Kf Tryz.Io bk o c xs sep w KI TD hN Ce hlen
def Tryz.Vn:Go.Shelf.Ren:=⟨fun|171=>61|243=>100|246=>140|283=>195|284=>196|285=>197|286=>198|129=>254|317=>253|318=>255|319=>256|320=>257|337=>292|338=>293|n=>n,fun|3=>3|9=>9|2=>2|4=>4|171=>252|0=>0|53=>125|37=>26|5=>5|173=>255|212=>308|51=>304|20=>20|213=>309|46=>91|232=>362|233=>363|n=>n,fun|17=>3|18=>6|19=>7|n=>n⟩
theorem Tryz.Z9:Go.Proofs.LaysM.n171 prog Tryz.Vn:={
 mixed:=by kernel_rfl
 f129:=func254.trans (congrArg some (by kernel_rfl))
 f171:=func61.trans (congrArg some (by kernel_rfl))
 f243:=func100.trans (congrArg some (by kernel_rfl))
 f246:=func140.trans (congrArg some (by kernel_rfl))
 f283:=func195.trans (congrArg some (by kernel_rfl))
 f284:=func196.trans (congrArg some (by kernel_rfl))
 f285:=func197.trans (congrArg some (by kernel_rfl))
 f286:=func198.trans (congrArg some (by kernel_rfl))
 f317:=func253.trans (congrArg some (by kernel_rfl))
 f318:=func255.trans (congrArg some (by kernel_rfl))
 f319:=func256.trans (congrArg some (by kernel_rfl))
 f320:=func257.trans (congrArg some (by kernel_rfl))
 f337:=func292.trans (congrArg some (by kernel_rfl))
 f338:=func293.trans (congrArg some (by kernel_rfl))
 t0:=underlying0
 a0:=Tryz.isAgg0
 z0:=Tryz.sizeOf0
 v0:=Tryz.zeroValue0
 t2:=underlying2
 a2:=Tryz.isAgg2
 z2:=Tryz.sizeOf2
 v2:=Tryz.zeroValue2
 t3:=underlying3
 a3:=Tryz.isAgg3
 z3:=Tryz.sizeOf3
 v3:=Tryz.zeroValue3
 t4:=underlying4
 a4:=Tryz.isAgg4
 z4:=Tryz.sizeOf4
 v4:=Tryz.zeroValue4
 t5:=underlying5
 a5:=Tryz.isAgg5
 z5:=Tryz.sizeOf5
 v5:=Tryz.zeroValue5
 t9:=underlying9
 a9:=Tryz.isAgg9
 z9:=Tryz.sizeOf9
 v9:=Tryz.zeroValue9
 t20:=underlying20
 a20:=Tryz.isAgg20
 z20:=Tryz.sizeOf20
 v20:=Tryz.zeroValue20
 t37:=underlying26
 a37:=Tryz.isAgg26
 z37:=Tryz.sizeOf26
 v37:=Tryz.zeroValue26
 t46:=underlying91
 a46:=Tryz.isAgg91
 z46:=Tryz.sizeOf91
 v46:=Tryz.zeroValue91
 t51:=underlying304
 a51:=Tryz.isAgg304
 z51:=Tryz.sizeOf304
 v51:=Tryz.zeroValue304
 t53:=underlying125
 a53:=Tryz.isAgg125
 z53:=Tryz.sizeOf125
 v53:=Tryz.zeroValue125
 t171:=underlying252
 a171:=Tryz.isAgg252
 z171:=Tryz.sizeOf252
 v171:=Tryz.zeroValue252
 t173:=underlying255
 a173:=Tryz.isAgg255
 z173:=Tryz.sizeOf255
 v173:=Tryz.zeroValue255
 t212:=underlying308
 a212:=Tryz.isAgg308
 z212:=Tryz.sizeOf308
 v212:=Tryz.zeroValue308
 t213:=underlying309
 a213:=Tryz.isAgg309
 z213:=Tryz.sizeOf309
 t232:=underlying362
 a232:=Tryz.isAgg362
 z232:=Tryz.sizeOf362
 v232:=Tryz.zeroValue362
 t233:=underlying363
 a233:=Tryz.isAgg363
 z233:=Tryz.sizeOf363
 v233:=Tryz.zeroValue363
 g17:=by kernel_rfl
 g18:=by kernel_rfl
 g19:=by kernel_rfl
 i0:=by kernel_rfl
 i2:=by kernel_rfl
 i3:=by kernel_rfl
 i4:=by kernel_rfl
 i5:=by kernel_rfl
 i9:=by kernel_rfl
 i20:=by kernel_rfl
 i37:=by kernel_rfl
 i46:=by kernel_rfl
 i51:=by kernel_rfl
 i53:=by kernel_rfl
 i171:=by kernel_rfl
 i173:=by kernel_rfl
 i212:=by kernel_rfl
 i232:=by kernel_rfl
 i233:=by kernel_rfl
 m17:=by kernel_rfl
 m18:=by kernel_rfl
 m19:=by kernel_rfl}
open Go.RowKit Go.Sort Go.Lib in
theorem Tryz.strconv_Itoa (n:Int) (h0:-9223372036854775808<=n) (h1:n<=9223372036854775807) (w:World) (afI:Lib.TabIs prog w "internal/strconv.uint64pow10" .u64 Lib.pow10Tab):
 Calls prog 61 #[.int .i64 n] w fun e w'=>e=.returned (.string ⟨(Lib.itoa n).toArray⟩)/\∃k os,w'=grow (w.drewN k) os:=Any.strconv_Itoa Tryz.Z9 n h0 h1 w afI
def Tryz.Vo:Go.Shelf.Ren:=⟨fun|172=>65|244=>105|245=>106|247=>145|279=>146|280=>147|281=>148|282=>149|287=>200|316=>201|171=>61|205=>202|321=>258|322=>259|243=>100|246=>140|283=>195|284=>196|285=>197|286=>198|129=>254|317=>253|318=>255|319=>256|320=>257|337=>292|338=>293|n=>n,fun|9=>9|3=>3|75=>116|76=>117|4=>4|5=>5|167=>204|37=>26|0=>0|85=>205|2=>2|168=>207|53=>125|175=>257|46=>91|210=>261|127=>161|145=>317|143=>315|21=>21|171=>252|173=>255|212=>308|51=>304|20=>20|213=>309|232=>362|233=>363|80=>85|n=>n,fun|15=>1|16=>2|17=>3|18=>6|19=>7|n=>n⟩
theorem Tryz.Jx:Go.Proofs.LaysC.n172 prog Tryz.Vo:={
 mixed:=by kernel_rfl
 f129:=func254.trans (congrArg some (by kernel_rfl))
 f171:=func61.trans (congrArg some (by kernel_rfl))
 f172:=func65.trans (congrArg some (by kernel_rfl))
 f205:=func202.trans (congrArg some (by kernel_rfl))
 f243:=func100.trans (congrArg some (by kernel_rfl))
 f244:=func105.trans (congrArg some (by kernel_rfl))
 f245:=func106.trans (congrArg some (by kernel_rfl))
 f246:=func140.trans (congrArg some (by kernel_rfl))
 f247:=func145.trans (congrArg some (by kernel_rfl))
 f279:=func146.trans (congrArg some (by kernel_rfl))
 f280:=func147.trans (congrArg some (by kernel_rfl))
 f281:=func148.trans (congrArg some (by kernel_rfl))
 f282:=func149.trans (congrArg some (by kernel_rfl))
 f283:=func195.trans (congrArg some (by kernel_rfl))
 f284:=func196.trans (congrArg some (by kernel_rfl))
 f285:=func197.trans (congrArg some (by kernel_rfl))
 f286:=func198.trans (congrArg some (by kernel_rfl))
 f287:=func200.trans (congrArg some (by kernel_rfl))
 f316:=func201.trans (congrArg some (by kernel_rfl))
 f317:=func253.trans (congrArg some (by kernel_rfl))
 f318:=func255.trans (congrArg some (by kernel_rfl))
 f319:=func256.trans (congrArg some (by kernel_rfl))
 f320:=func257.trans (congrArg some (by kernel_rfl))
 f321:=func258.trans (congrArg some (by kernel_rfl))
 f322:=func259.trans (congrArg some (by kernel_rfl))
 f337:=func292.trans (congrArg some (by kernel_rfl))
 f338:=func293.trans (congrArg some (by kernel_rfl))
 t0:=underlying0
 a0:=Tryz.isAgg0
 z0:=Tryz.sizeOf0
 v0:=Tryz.zeroValue0
 t2:=underlying2
 a2:=Tryz.isAgg2
 z2:=Tryz.sizeOf2
 v2:=Tryz.zeroValue2
 t3:=underlying3
 a3:=Tryz.isAgg3
 z3:=Tryz.sizeOf3
 v3:=Tryz.zeroValue3
 t4:=underlying4
 a4:=Tryz.isAgg4
 z4:=Tryz.sizeOf4
 v4:=Tryz.zeroValue4
 t5:=underlying5
 a5:=Tryz.isAgg5
 z5:=Tryz.sizeOf5
 v5:=Tryz.zeroValue5
 t9:=underlying9
 a9:=Tryz.isAgg9
 z9:=Tryz.sizeOf9
 v9:=Tryz.zeroValue9
 t20:=underlying20
 a20:=Tryz.isAgg20
 z20:=Tryz.sizeOf20
 v20:=Tryz.zeroValue20
 t21:=underlying21
 a21:=Tryz.isAgg21
 z21:=Tryz.sizeOf21
 v21:=Tryz.zeroValue21
 t37:=underlying26
 a37:=Tryz.isAgg26
 z37:=Tryz.sizeOf26
 v37:=Tryz.zeroValue26
 t46:=underlying91
 a46:=Tryz.isAgg91
 z46:=Tryz.sizeOf91
 v46:=Tryz.zeroValue91
 t51:=underlying304
 a51:=Tryz.isAgg304
 z51:=Tryz.sizeOf304
 v51:=Tryz.zeroValue304
 t53:=underlying125
 a53:=Tryz.isAgg125
 z53:=Tryz.sizeOf125
 v53:=Tryz.zeroValue125
 t75:=underlying116
 a75:=Tryz.isAgg116
 z75:=Tryz.sizeOf116
 v75:=Tryz.zeroValue116
 t76:=underlying117
 a76:=Tryz.isAgg117
 z76:=Tryz.sizeOf117
 v76:=Tryz.zeroValue117
 t85:=underlying205
 a85:=Tryz.isAgg205
 z85:=Tryz.sizeOf205
 v85:=Tryz.zeroValue205
 t127:=underlying161
 a127:=Tryz.isAgg161
 z127:=Tryz.sizeOf161
 v127:=Tryz.zeroValue161
 t143:=underlying315
 a143:=Tryz.isAgg315
 z143:=Tryz.sizeOf315
 v143:=Tryz.zeroValue315
 t145:=underlying317
 a145:=Tryz.isAgg317
 z145:=Tryz.sizeOf317
 v145:=Tryz.zeroValue317
 t167:=underlying204
 a167:=Tryz.isAgg204
 z167:=Tryz.sizeOf204
 v167:=Tryz.zeroValue204
 t168:=underlying207
 a168:=Tryz.isAgg207
 z168:=Tryz.sizeOf207
 v168:=Tryz.zeroValue207
 t171:=underlying252
 a171:=Tryz.isAgg252
 z171:=Tryz.sizeOf252
 v171:=Tryz.zeroValue252
 t173:=underlying255
 a173:=Tryz.isAgg255
 z173:=Tryz.sizeOf255
 v173:=Tryz.zeroValue255
 t175:=underlying257
 a175:=Tryz.isAgg257
 z175:=Tryz.sizeOf257
 v175:=Tryz.zeroValue257
 t210:=underlying261
 a210:=Tryz.isAgg261
 z210:=Tryz.sizeOf261
 v210:=Tryz.zeroValue261
 t212:=underlying308
 a212:=Tryz.isAgg308
 z212:=Tryz.sizeOf308
 v212:=Tryz.zeroValue308
 t213:=underlying309
 a213:=Tryz.isAgg309
 z213:=Tryz.sizeOf309
 t232:=underlying362
 a232:=Tryz.isAgg362
 z232:=Tryz.sizeOf362
 v232:=Tryz.zeroValue362
 t233:=underlying363
 a233:=Tryz.isAgg363
 z233:=Tryz.sizeOf363
 v233:=Tryz.zeroValue363
 g15:=by kernel_rfl
 g16:=by kernel_rfl
 g17:=by kernel_rfl
 g18:=by kernel_rfl
 g19:=by kernel_rfl
 t80:=underlying85
 a80:=Tryz.isAgg85
 z80:=Tryz.sizeOf85
 v80:=Tryz.zeroValue85
 i0:=by kernel_rfl
 i2:=by kernel_rfl
 i3:=by kernel_rfl
 i4:=by kernel_rfl
 i5:=by kernel_rfl
 i9:=by kernel_rfl
 i20:=by kernel_rfl
 i21:=by kernel_rfl
 i37:=by kernel_rfl
 i46:=by kernel_rfl
 i51:=by kernel_rfl
 i53:=by kernel_rfl
 i75:=by kernel_rfl
 i76:=by kernel_rfl
 i80:=by kernel_rfl
 i85:=by kernel_rfl
 i127:=by kernel_rfl
 i143:=by kernel_rfl
 i145:=by kernel_rfl
 i167:=by kernel_rfl
 i168:=by kernel_rfl
 i171:=by kernel_rfl
 i173:=by kernel_rfl
 i175:=by kernel_rfl
 i210:=by kernel_rfl
 i212:=by kernel_rfl
 i232:=by kernel_rfl
 i233:=by kernel_rfl
 m15:=by kernel_rfl
 m16:=by kernel_rfl
 m17:=by kernel_rfl
 m18:=by kernel_rfl
 m19:=by kernel_rfl
 c0:=by kernel_rfl
 c2:=by kernel_rfl
 c3:=by kernel_rfl
 c4:=by kernel_rfl
 c5:=by kernel_rfl
 c9:=by kernel_rfl
 c20:=by kernel_rfl
 c21:=by kernel_rfl
 c37:=by kernel_rfl
 c46:=by kernel_rfl
 c51:=by kernel_rfl
 c53:=by kernel_rfl
 c75:=by kernel_rfl
 c76:=by kernel_rfl
 c80:=by kernel_rfl
 c85:=by kernel_rfl
 c127:=by kernel_rfl
 c143:=by kernel_rfl
 c145:=by kernel_rfl
 c167:=by kernel_rfl
 c168:=by kernel_rfl
 c171:=by kernel_rfl
 c173:=by kernel_rfl
 c175:=by kernel_rfl
 c210:=by kernel_rfl
 c212:=by kernel_rfl
 c213:=by kernel_rfl
 c232:=by kernel_rfl
 c233:=by kernel_rfl}
def Tryz.V4:Go.Shelf.Ren:=⟨fun|146=>34|221=>64|268=>102|138=>103|143=>104|195=>142|197=>143|218=>144|219=>137|260=>199|217=>191|225=>192|224=>193|267=>194|266=>251|314=>252|n=>n,fun|9=>9|31=>78|3=>3|4=>4|0=>0|105=>201|21=>21|5=>5|46=>91|119=>311|139=>314|138=>313|146=>305|51=>304|n=>n,fun|1=>0|3=>4|4=>5|n=>n⟩
theorem Tryz.acm:Go.Proofs.Lays.n146 prog Tryz.V4:={
 mixed:=by kernel_rfl
 f138:=func103.trans (congrArg some (by kernel_rfl))
 f143:=func104.trans (congrArg some (by kernel_rfl))
 f146:=func34.trans (congrArg some (by kernel_rfl))
 f195:=func142.trans (congrArg some (by kernel_rfl))
 f197:=func143.trans (congrArg some (by kernel_rfl))
 f217:=func191.trans (congrArg some (by kernel_rfl))
 f218:=func144.trans (congrArg some (by kernel_rfl))
 f219:=func137.trans (congrArg some (by kernel_rfl))
 f221:=func64.trans (congrArg some (by kernel_rfl))
 f224:=func193.trans (congrArg some (by kernel_rfl))
 f225:=func192.trans (congrArg some (by kernel_rfl))
 f260:=func199.trans (congrArg some (by kernel_rfl))
 f266:=func251.trans (congrArg some (by kernel_rfl))
 f267:=func194.trans (congrArg some (by kernel_rfl))
 f268:=func102.trans (congrArg some (by kernel_rfl))
 f314:=func252.trans (congrArg some (by kernel_rfl))
 t0:=underlying0
 a0:=Tryz.isAgg0
 z0:=Tryz.sizeOf0
 v0:=Tryz.zeroValue0
 t3:=underlying3
 a3:=Tryz.isAgg3
 z3:=Tryz.sizeOf3
 v3:=Tryz.zeroValue3
 t4:=underlying4
 a4:=Tryz.isAgg4
 z4:=Tryz.sizeOf4
 v4:=Tryz.zeroValue4
 t5:=underlying5
 a5:=Tryz.isAgg5
 z5:=Tryz.sizeOf5
 v5:=Tryz.zeroValue5
 t9:=underlying9
 a9:=Tryz.isAgg9
 z9:=Tryz.sizeOf9
 v9:=Tryz.zeroValue9
 t21:=underlying21
 a21:=Tryz.isAgg21
 z21:=Tryz.sizeOf21
 v21:=Tryz.zeroValue21
 t31:=underlying78
 a31:=Tryz.isAgg78
 z31:=Tryz.sizeOf78
 v31:=Tryz.zeroValue78
 t46:=underlying91
 a46:=Tryz.isAgg91
 z46:=Tryz.sizeOf91
 v46:=Tryz.zeroValue91
 t51:=underlying304
 a51:=Tryz.isAgg304
 z51:=Tryz.sizeOf304
 v51:=Tryz.zeroValue304
 t105:=underlying201
 a105:=Tryz.isAgg201
 z105:=Tryz.sizeOf201
 v105:=Tryz.zeroValue201
 t119:=underlying311
 a119:=Tryz.isAgg311
 z119:=Tryz.sizeOf311
 t138:=underlying313
 a138:=Tryz.isAgg313
 z138:=Tryz.sizeOf313
 v138:=Tryz.zeroValue313
 t139:=underlying314
 a139:=Tryz.isAgg314
 z139:=Tryz.sizeOf314
 v139:=Tryz.zeroValue314
 t146:=underlying305
 a146:=Tryz.isAgg305
 z146:=Tryz.sizeOf305
 v146:=Tryz.zeroValue305
 g1:=by kernel_rfl
 g3:=by kernel_rfl
 g4:=by kernel_rfl}
open Go.RowKit Go.Lib in
theorem Tryz.strings_Split (s sep:ByteArray) (m:Int) (w:World) (hs:s.size<4294967281) (hm:w.cell? ⟨0,0,none⟩=some (.int .i64 m)) (h1:1<=sep.size):
 Calls prog 34 #[.string s,.string sep] w fun e w'=>
  e=.returned (.slice (some ⟨w.heap.size,0,none⟩) (Lib.countB s sep+1) (Lib.countB s sep+1))/\w'=w.alloc (.cells ((Lib.splitB sep 0 (Lib.countB s sep) s).map Value.string).toArray 9):=Any.strings_Split Tryz.acm (by kernel_rfl) s sep m w hs hm h1
def Tryz.Vp:Go.Shelf.Ren:=⟨fun|146=>34|221=>64|268=>102|138=>103|143=>104|195=>142|197=>143|218=>144|219=>137|260=>199|217=>191|225=>192|224=>193|267=>194|266=>251|314=>252|n=>n,fun|9=>9|31=>78|3=>3|4=>4|0=>0|105=>201|21=>21|5=>5|46=>91|119=>311|139=>314|138=>313|146=>305|51=>304|n=>n,fun|1=>0|3=>4|4=>5|n=>n⟩
theorem Tryz.ZE:Go.Proofs.LaysM.n146 prog Tryz.Vp:={
 mixed:=by kernel_rfl
 f138:=func103.trans (congrArg some (by kernel_rfl))
 f143:=func104.trans (congrArg some (by kernel_rfl))
 f146:=func34.trans (congrArg some (by kernel_rfl))
 f195:=func142.trans (congrArg some (by kernel_rfl))
 f197:=func143.trans (congrArg some (by kernel_rfl))
 f217:=func191.trans (congrArg some (by kernel_rfl))
 f218:=func144.trans (congrArg some (by kernel_rfl))
 f219:=func137.trans (congrArg some (by kernel_rfl))
 f221:=func64.trans (congrArg some (by kernel_rfl))
 f224:=func193.trans (congrArg some (by kernel_rfl))
 f225:=func192.trans (congrArg some (by kernel_rfl))
 f260:=func199.trans (congrArg some (by kernel_rfl))
 f266:=func251.trans (congrArg some (by kernel_rfl))
 f267:=func194.trans (congrArg some (by kernel_rfl))
 f268:=func102.trans (congrArg some (by kernel_rfl))
 f314:=func252.trans (congrArg some (by kernel_rfl))
 t0:=underlying0
 a0:=Tryz.isAgg0
 z0:=Tryz.sizeOf0
 v0:=Tryz.zeroValue0
 t3:=underlying3
 a3:=Tryz.isAgg3
 z3:=Tryz.sizeOf3
 v3:=Tryz.zeroValue3
 t4:=underlying4
 a4:=Tryz.isAgg4
 z4:=Tryz.sizeOf4
 v4:=Tryz.zeroValue4
 t5:=underlying5
 a5:=Tryz.isAgg5
 z5:=Tryz.sizeOf5
 v5:=Tryz.zeroValue5
 t9:=underlying9
 a9:=Tryz.isAgg9
 z9:=Tryz.sizeOf9
 v9:=Tryz.zeroValue9
 t21:=underlying21
 a21:=Tryz.isAgg21
 z21:=Tryz.sizeOf21
 v21:=Tryz.zeroValue21
 t31:=underlying78
 a31:=Tryz.isAgg78
 z31:=Tryz.sizeOf78
 v31:=Tryz.zeroValue78
 t46:=underlying91
 a46:=Tryz.isAgg91
 z46:=Tryz.sizeOf91
 v46:=Tryz.zeroValue91
 t51:=underlying304
 a51:=Tryz.isAgg304
 z51:=Tryz.sizeOf304
 v51:=Tryz.zeroValue304
 t105:=underlying201
 a105:=Tryz.isAgg201
 z105:=Tryz.sizeOf201
 v105:=Tryz.zeroValue201
 t119:=underlying311
 a119:=Tryz.isAgg311
 z119:=Tryz.sizeOf311
 t138:=underlying313
 a138:=Tryz.isAgg313
 z138:=Tryz.sizeOf313
 v138:=Tryz.zeroValue313
 t139:=underlying314
 a139:=Tryz.isAgg314
 z139:=Tryz.sizeOf314
 v139:=Tryz.zeroValue314
 t146:=underlying305
 a146:=Tryz.isAgg305
 z146:=Tryz.sizeOf305
 v146:=Tryz.zeroValue305
 g1:=by kernel_rfl
 g3:=by kernel_rfl
 g4:=by kernel_rfl
 i0:=by kernel_rfl
 i3:=by kernel_rfl
 i4:=by kernel_rfl
 i5:=by kernel_rfl
 i9:=by kernel_rfl
 i21:=by kernel_rfl
 i31:=by kernel_rfl
 i46:=by kernel_rfl
 i51:=by kernel_rfl
 i105:=by kernel_rfl
 i138:=by kernel_rfl
 i139:=by kernel_rfl
 i146:=by kernel_rfl
 m1:=by kernel_rfl
 s1_3:=fun w h=>Go.Proofs.cell_of_shapedOpen_int (zero:=#[.int .i64 0]) (t:=3) h (of_decide_eq_true (by kernel_rfl)) (by kernel_rfl) rfl (by kernel_rfl) (by kernel_rfl) underlying3
 m3:=by kernel_rfl
 m4:=by kernel_rfl}
end Go.Proofs
namespace Go.Proofs.YtafomdobfmmleaaGreatDoor
open Go.Proofs.Tryz
section
open Go.RowKit Go.Deep
def qT (w:World):Prop:=∀w',B w w'->Lib.TabIs prog w' "internal/strconv.uint64pow10" .u64 Lib.pow10Tab
theorem qT.later {w w':World} (h:qT w) (hb:B w w'):qT w':=fun w2 h2=>h w2 (hb.trans h2)
theorem Ru (w:World) (k:Nat) (os:Array Obj):B w (Sort.grow (w.drewN k) os):=
 ⟨rfl,rfl,rfl,by show w.heap.size<=(w.heap++os).size;rw[Array.size_append];omega,fun j hj=>by show(w.heap++os)[j]?=w.heap[j]?;exact Array.getElem?_append_left hj⟩
theorem BW {w:World} {n:Int} (h:qT w) (hn:-9223372036854775808<=n/\n<=9223372036854775807):Calls prog 29 #[.int .i64 n] w fun e w'=>e=.returned (.string (aA (Lib.itoa n)))/\B w w':=by
 have HC:=Lib.hid (Tryz.strconv_Itoa n hn.1 hn.2 w (h w (Below.refl _ _)))
 go_enter func29,ntmps29
 go_wp2_with (first
  |(go_at_call 61;(with_reducible refine qC HC.out ?_);rintro e wn ⟨rfl,k,os,rfl⟩))
 go_ret
 exact⟨rfl,Ru _ _ _⟩
def uP (l:List (List UInt8)):List Value:=l.map fun x=>.string (aA x)
def yM (v:Value) (l:List (List UInt8)):gi:=afD 9 1 v l.length (uP l)
section
variable {W w:World} {L:List gi} {v:Value} {l:List (List UInt8)}
theorem JI (l:List (List UInt8)):(uP l).length=l.length:=by simp[uP]
theorem X6 (l:List (List UInt8)):(uP l).toArray.toList.take (l.length*1)=uP l:=by
 rw[show(uP l).toArray.toList=uP l from by simp]
 exact List.take_of_length_le (by rw[JI];omega)
theorem yM.new (h:St W w L) (l:List (List UInt8)) (hl:l.length<=maxLen) {cs:Array Value} (hc:cs=(uP l).toArray) {n:Nat} (hn:n=l.length):St W (w.alloc (.cells cs 9)) (yM (.slice (some ⟨w.heap.size,0,none⟩) n n) l::L):=by
 subst hc hn
 exact h.add (B.j9 _ _) (A:=yM (.slice (some ⟨w.heap.size,0,none⟩) l.length l.length) l) (own:=fun x=>x=w.heap.size)
  ⟨⟨by rw[JI];omega,.inr ⟨_,l.length,(uP l).toArray,rfl,Nat.zero_le _,heap_alloc_new w _,Nat.le_refl _,hl,by simp[JI],X6 l⟩⟩,fun g hg=>by simpa[Value.ownBlock] using hg.symm⟩ (fun x e=>by omega)
theorem yM.cells (h:St W w (yM v l::L)):∃A c,v=.slice A l.length c/\l.length<=c/\(0<l.length->∃g,A=some ⟨g,0,none⟩/\g<w.heap.size/\∀j x,l[j]?=some x->w.cell? ⟨g,0+j,none⟩=some (.string (aA x))):=by
 obtain⟨own,hr,ho⟩:=h.get
 obtain⟨⟨hlen,Mf⟩,Tj⟩:=hr
 rcases Mf with⟨rfl,hn⟩|⟨g,cap,cur,rfl,_,hg,Ce,_,eE,Ey⟩
 ·exact⟨none,0,by rw[hn],by omega,fun h0=>by omega⟩
 ·refine⟨_,_,rfl,Ce,fun _=>⟨g,rfl,(Array.getElem?_eq_some_iff.1 hg).1,fun j x hj=>?_⟩⟩
  rw[Nat.zero_add,cell_of_row w g j cur _ _ hg]
  have hx:(uP l)[j]?=some (.string (aA x)):=by simp[uP,hj]
  rw[<-Ey] at hx
  rw[List.getElem?_take] at hx
  split at hx
  ·simpa using hx
  ·cases hx
end
theorem join_eq:∀l:List (List UInt8),Lib.join l [32]=kW l
 |[]=>rfl
 |[x]=>by rw[Lib.join_one];rfl
 |x::y::r=>by
  have:=join_eq (y::r)
  unfold Lib.join at this ⊢
  rw[show kW (x::y::r)=x++32::kW (y::r) from rfl,<-this]
  simp[List.intercalate]
theorem adx {W w:World} {L:List gi} {v:Value} {l:List (List UInt8)} (h:St W w (yM v l::L)) (hl:(kW l).length<=140737488355328) (hn:l.length<=140737488355328) {s:ByteArray} (hs:s=aA [32]):
 Calls prog 28 #[v,.string s] w fun e w'=>e=.returned (.string (aA (kW l)))/\B w w':=by
 subst hs
 obtain⟨A,c,rfl,hc,hr⟩:=yM.cells h
 by_cases h0:0<l.length
 ·obtain⟨g,rfl,hg,fH⟩:=hr h0
  have hj:(l.map aA).map (fun x=>x.data.toList)=l:=by
   rw[List.map_map]
   conv=>rhs;rw[<-List.map_id l]
   refine List.map_congr_left fun x _=>?_
   simp[aA]
  have:=Tryz.strings_Join g 0 c (l.map aA) (aA [32]) w (fun j x hx=>by
   rw[List.getElem?_map] at hx
   obtain⟨y,hy,rfl⟩:=Option.map_eq_some_iff.1 hx
   exact fH j y hy) hg (by simpa using hn) (by simpa using hc) (by rw[hj];rw[show(aA [32]).data.toList=[32] from rfl,join_eq];exact hl)
  rw[hj,show(aA [32]).data.toList=[32] from rfl,join_eq] at this
  simpa[aA] using this
 ·have hz:l=[]:=List.eq_nil_of_length_eq_zero (by omega)
  subst hz
  refine(Tryz.strings_Join_none A c (aA [32]) w).mono ?_
  rintro e w' ⟨rfl,rfl⟩
  exact⟨rfl,Below.refl _ _⟩
end
end Go.Proofs.YtafomdobfmmleaaGreatDoor
