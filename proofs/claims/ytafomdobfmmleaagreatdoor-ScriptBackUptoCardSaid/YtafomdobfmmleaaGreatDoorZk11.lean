/- Lemmas and contracts, part 11. -/
import Derived.Test.YtafomdobfmmleaaGreatDoorZk10
import Derived.Shelf.Strings.Builder1
import Derived.Shelf.Strings.Builder2
import Derived.Shelf.Strings.OnBuilder
import Derived.Shelf.Strings.BuilderF
import Derived.Shelf.Strings.BuilderK
import Derived.Shelf.Strings.Builder2Cap
import Derived.Shelf.Strconv.Atoi
import Derived.Shelf.Strconv.Itoa0
import Derived.Shelf.Strconv.Itoa1
import Derived.Shelf.LaysM
import Derived.Shelf.Strconv.Itoa2
import Derived.Shelf.Strconv.Itoa3
import Derived.Shelf.Strconv.AtoiErrFast
import Derived.Shelf.Strconv.ParseIntEmpty
import Derived.Shelf.Strconv.AtoiFail
import Derived.Shelf.Strconv.Clone
import Derived.Shelf.Strconv.SyntaxError
import Derived.Shelf.LaysC
import Derived.Shelf.Strconv.ToError
import Derived.Shelf.Strconv.Lower
import Derived.Shelf.Strconv.ParseUint10
import Derived.Shelf.Strconv.ParseUint10Empty
import Derived.Shelf.Strconv.ParseUint10Any
import Derived.Shelf.Strconv.ParseInt10
import Derived.Shelf.Strconv.AtoiLong
import Derived.Shelf.Strconv.AtoiInnerAll
import Derived.Shelf.Strconv.RangeError
import Derived.Shelf.Strconv.ToErrorRange
import Derived.Shelf.Strconv.AtoiAll
import Derived.Shelf.Strconv.ErrVarAll
import Derived.Shelf.Strings.Search1
import Derived.Shelf.Strings.Search2
import Derived.Shelf.Strings.Search3
import Derived.Shelf.Strings.Cut
import Derived.Shelf.Strings.Count
import Derived.Shelf.Strings.Shaped
import Derived.Shelf.Strings.Split
import Derived.Shelf.Strings.SplitShaped
import Derived.Shelf.Unicode.Decode
import Derived.Shelf.Strings.RuneCount
import Derived.Shelf.Strings.Explode
import Derived.Shelf.Unicode.DecodeSlow
import Derived.Shelf.Strings.BuilderCap
import Derived.Test.YtafomdobfmmleaaGreatDoorProg
/- Lemmas and contracts. -/
namespace Go.Proofs
open Go.Shelf
def Tryz.JB:Go.Shelf.Ren:=⟨fun|169=>58|n=>n,fun|70=>112|9=>9|0=>0|72=>114|37=>26|127=>161|3=>3|5=>5|n=>n,fun|n=>n⟩
theorem Tryz.Wx:Go.Proofs.Lays.n169 Tryz.prog Tryz.JB:={
 mixed:=by kernel_rfl
 f169:=Tryz.func58.trans (congrArg some (by kernel_rfl))
 t0:=Tryz.underlying0
 a0:=Tryz.isAgg0
 z0:=Tryz.sizeOf0
 v0:=Tryz.zeroValue0
 t3:=Tryz.underlying3
 a3:=Tryz.isAgg3
 z3:=Tryz.sizeOf3
 v3:=Tryz.zeroValue3
 t9:=Tryz.underlying9
 a9:=Tryz.isAgg9
 z9:=Tryz.sizeOf9
 v9:=Tryz.zeroValue9
 t37:=Tryz.underlying26
 a37:=Tryz.isAgg26
 z37:=Tryz.sizeOf26
 v37:=Tryz.zeroValue26
 t70:=Tryz.underlying112
 a70:=Tryz.isAgg112
 z70:=Tryz.sizeOf112
 v70:=Tryz.zeroValue112
 t72:=Tryz.underlying114
 a72:=Tryz.isAgg114
 z72:=Tryz.sizeOf114
 v72:=Tryz.zeroValue114
 t127:=Tryz.underlying161
 a127:=Tryz.isAgg161
 z127:=Tryz.sizeOf161
 v127:=Tryz.zeroValue161}
theorem Tryz.Pn:Builder.Extra Tryz.prog Tryz.JB:={
 sizeBuilder:=by kernel_rfl
 liesBuilder:=by kernel_rfl
 t5:=Tryz.underlying5
 a5:=Tryz.isAgg5
 z5:=Tryz.sizeOf5
 v5:=Tryz.zeroValue5
 infoByte:=by kernel_rfl
 cellsByte:=by kernel_rfl
 sizeByte:=by kernel_rfl
 neB5:=by decide}
open Go.RowKit in
theorem Tryz.Builder_String (B b:Nat) (l:List UInt8) (w:World) (h:Lib.IsBuilder 114 5 B b (Lib.byteCells l) w) (h0:l≠[]):
 Calls Tryz.prog 58 #[.pointer (some ⟨b,0,none⟩)] w fun e w'=>e=.returned (.string ⟨l.toArray⟩)/\Below B w w':=Any.Builder_String Tryz.Wx Tryz.Pn B b l w h h0
def Tryz.JC:Go.Shelf.Ren:=⟨fun|156=>28|165=>60|166=>57|169=>58|240=>98|241=>99|276=>138|277=>139|n=>n,fun|31=>78|9=>9|3=>3|4=>4|0=>0|20=>20|72=>114|76=>117|70=>112|37=>26|75=>116|127=>161|164=>196|5=>5|80=>85|n=>n,fun|n=>n⟩
theorem Tryz.FU:Go.Proofs.Lays.n156 Tryz.prog Tryz.JC:={
 mixed:=by kernel_rfl
 f156:=Tryz.func28.trans (congrArg some (by kernel_rfl))
 f165:=Tryz.func60.trans (congrArg some (by kernel_rfl))
 f166:=Tryz.func57.trans (congrArg some (by kernel_rfl))
 f169:=Tryz.func58.trans (congrArg some (by kernel_rfl))
 f240:=Tryz.func98.trans (congrArg some (by kernel_rfl))
 f241:=Tryz.func99.trans (congrArg some (by kernel_rfl))
 f276:=Tryz.func138.trans (congrArg some (by kernel_rfl))
 f277:=Tryz.func139.trans (congrArg some (by kernel_rfl))
 t0:=Tryz.underlying0
 a0:=Tryz.isAgg0
 z0:=Tryz.sizeOf0
 v0:=Tryz.zeroValue0
 t3:=Tryz.underlying3
 a3:=Tryz.isAgg3
 z3:=Tryz.sizeOf3
 v3:=Tryz.zeroValue3
 t4:=Tryz.underlying4
 a4:=Tryz.isAgg4
 z4:=Tryz.sizeOf4
 v4:=Tryz.zeroValue4
 t9:=Tryz.underlying9
 a9:=Tryz.isAgg9
 z9:=Tryz.sizeOf9
 v9:=Tryz.zeroValue9
 t20:=Tryz.underlying20
 a20:=Tryz.isAgg20
 z20:=Tryz.sizeOf20
 v20:=Tryz.zeroValue20
 t31:=Tryz.underlying78
 a31:=Tryz.isAgg78
 z31:=Tryz.sizeOf78
 v31:=Tryz.zeroValue78
 t37:=Tryz.underlying26
 a37:=Tryz.isAgg26
 z37:=Tryz.sizeOf26
 v37:=Tryz.zeroValue26
 t70:=Tryz.underlying112
 a70:=Tryz.isAgg112
 z70:=Tryz.sizeOf112
 v70:=Tryz.zeroValue112
 t72:=Tryz.underlying114
 a72:=Tryz.isAgg114
 z72:=Tryz.sizeOf114
 v72:=Tryz.zeroValue114
 t75:=Tryz.underlying116
 a75:=Tryz.isAgg116
 z75:=Tryz.sizeOf116
 v75:=Tryz.zeroValue116
 t76:=Tryz.underlying117
 a76:=Tryz.isAgg117
 z76:=Tryz.sizeOf117
 v76:=Tryz.zeroValue117
 t127:=Tryz.underlying161
 a127:=Tryz.isAgg161
 z127:=Tryz.sizeOf161
 v127:=Tryz.zeroValue161
 t164:=Tryz.underlying196
 a164:=Tryz.isAgg196
 z164:=Tryz.sizeOf196
 v164:=Tryz.zeroValue196}
theorem Tryz.Ed:Builder.Extra Tryz.prog Tryz.JC:={
 sizeBuilder:=by kernel_rfl
 liesBuilder:=by kernel_rfl
 t5:=Tryz.underlying5
 a5:=Tryz.isAgg5
 z5:=Tryz.sizeOf5
 v5:=Tryz.zeroValue5
 infoByte:=by kernel_rfl
 cellsByte:=by kernel_rfl
 sizeByte:=by kernel_rfl
 neB5:=by decide}
open Go.RowKit in
theorem Tryz.strings_Join_none (a:Option Addr) (c:Nat) (sep:ByteArray) (w:World):
 Calls Tryz.prog 28 #[.slice a 0 c,.string sep] w fun e w'=>e=.returned (.string ⟨#[]⟩)/\w'=w:=Any.strings_Join_none Tryz.FU Tryz.Ed a c sep w
open Go.RowKit in
theorem Tryz.strings_Join (bk o c:Nat) (xs:List ByteArray) (sep:ByteArray) (w:World) (Gk:∀(j:Nat) x,xs[j]?=some x->w.cell? ⟨bk,o+j,none⟩=some (.string x)) (OQ:bk<w.heap.size) (hN:xs.length<=140737488355328) (yM:xs.length<=c) (hlen:(Lib.join (xs.map (·.data.toList)) sep.data.toList).length<=140737488355328):
 Calls Tryz.prog 28 #[.slice (some ⟨bk,o,none⟩) xs.length c,.string sep] w fun e w'=>e=.returned (.string ⟨(Lib.join (xs.map (·.data.toList)) sep.data.toList).toArray⟩)/\Below w.heap.size w w':=Any.strings_Join Tryz.FU Tryz.Ed bk o c xs sep w Gk OQ hN yM hlen
def Tryz.QG:Go.Shelf.Ren:=⟨fun|171=>61|243=>100|246=>140|283=>195|284=>196|285=>197|286=>198|129=>254|317=>253|318=>255|319=>256|320=>257|337=>292|338=>293|n=>n,fun|3=>3|9=>9|2=>2|4=>4|171=>252|0=>0|53=>125|37=>26|5=>5|173=>255|212=>308|51=>304|20=>20|213=>309|46=>91|232=>362|233=>363|n=>n,fun|17=>3|18=>6|19=>7|n=>n⟩
theorem Tryz.UJ:Go.Proofs.LaysM.n171 Tryz.prog Tryz.QG:={
 mixed:=by kernel_rfl
 f129:=Tryz.func254.trans (congrArg some (by kernel_rfl))
 f171:=Tryz.func61.trans (congrArg some (by kernel_rfl))
 f243:=Tryz.func100.trans (congrArg some (by kernel_rfl))
 f246:=Tryz.func140.trans (congrArg some (by kernel_rfl))
 f283:=Tryz.func195.trans (congrArg some (by kernel_rfl))
 f284:=Tryz.func196.trans (congrArg some (by kernel_rfl))
 f285:=Tryz.func197.trans (congrArg some (by kernel_rfl))
 f286:=Tryz.func198.trans (congrArg some (by kernel_rfl))
 f317:=Tryz.func253.trans (congrArg some (by kernel_rfl))
 f318:=Tryz.func255.trans (congrArg some (by kernel_rfl))
 f319:=Tryz.func256.trans (congrArg some (by kernel_rfl))
 f320:=Tryz.func257.trans (congrArg some (by kernel_rfl))
 f337:=Tryz.func292.trans (congrArg some (by kernel_rfl))
 f338:=Tryz.func293.trans (congrArg some (by kernel_rfl))
 t0:=Tryz.underlying0
 a0:=Tryz.isAgg0
 z0:=Tryz.sizeOf0
 v0:=Tryz.zeroValue0
 t2:=Tryz.underlying2
 a2:=Tryz.isAgg2
 z2:=Tryz.sizeOf2
 v2:=Tryz.zeroValue2
 t3:=Tryz.underlying3
 a3:=Tryz.isAgg3
 z3:=Tryz.sizeOf3
 v3:=Tryz.zeroValue3
 t4:=Tryz.underlying4
 a4:=Tryz.isAgg4
 z4:=Tryz.sizeOf4
 v4:=Tryz.zeroValue4
 t5:=Tryz.underlying5
 a5:=Tryz.isAgg5
 z5:=Tryz.sizeOf5
 v5:=Tryz.zeroValue5
 t9:=Tryz.underlying9
 a9:=Tryz.isAgg9
 z9:=Tryz.sizeOf9
 v9:=Tryz.zeroValue9
 t20:=Tryz.underlying20
 a20:=Tryz.isAgg20
 z20:=Tryz.sizeOf20
 v20:=Tryz.zeroValue20
 t37:=Tryz.underlying26
 a37:=Tryz.isAgg26
 z37:=Tryz.sizeOf26
 v37:=Tryz.zeroValue26
 t46:=Tryz.underlying91
 a46:=Tryz.isAgg91
 z46:=Tryz.sizeOf91
 v46:=Tryz.zeroValue91
 t51:=Tryz.underlying304
 a51:=Tryz.isAgg304
 z51:=Tryz.sizeOf304
 v51:=Tryz.zeroValue304
 t53:=Tryz.underlying125
 a53:=Tryz.isAgg125
 z53:=Tryz.sizeOf125
 v53:=Tryz.zeroValue125
 t171:=Tryz.underlying252
 a171:=Tryz.isAgg252
 z171:=Tryz.sizeOf252
 v171:=Tryz.zeroValue252
 t173:=Tryz.underlying255
 a173:=Tryz.isAgg255
 z173:=Tryz.sizeOf255
 v173:=Tryz.zeroValue255
 t212:=Tryz.underlying308
 a212:=Tryz.isAgg308
 z212:=Tryz.sizeOf308
 v212:=Tryz.zeroValue308
 t213:=Tryz.underlying309
 a213:=Tryz.isAgg309
 z213:=Tryz.sizeOf309
 t232:=Tryz.underlying362
 a232:=Tryz.isAgg362
 z232:=Tryz.sizeOf362
 v232:=Tryz.zeroValue362
 t233:=Tryz.underlying363
 a233:=Tryz.isAgg363
 z233:=Tryz.sizeOf363
 v233:=Tryz.zeroValue363
 g17:=by kernel_rfl
 g18:=by kernel_rfl
 g19:=by kernel_rfl
 i0:=by kernel_rfl
 i2:=by kernel_rfl
 i3:=by kernel_rfl
 i4:=by kernel_rfl
 i5:=by kernel_rfl
 i9:=by kernel_rfl
 i20:=by kernel_rfl
 i37:=by kernel_rfl
 i46:=by kernel_rfl
 i51:=by kernel_rfl
 i53:=by kernel_rfl
 i171:=by kernel_rfl
 i173:=by kernel_rfl
 i212:=by kernel_rfl
 i232:=by kernel_rfl
 i233:=by kernel_rfl
 m17:=by kernel_rfl
 m18:=by kernel_rfl
 m19:=by kernel_rfl}
open Go.RowKit Go.Sort Go.Lib in
theorem Tryz.strconv_Itoa (n:Int) (h0:-9223372036854775808<=n) (h1:n<=9223372036854775807) (w:World) (Zs:Lib.TabIs Tryz.prog w "internal/strconv.uint64pow10" .u64 Lib.pow10Tab):
 Calls Tryz.prog 61 #[.int .i64 n] w fun e w'=>e=.returned (.string ⟨(Lib.itoa n).toArray⟩)/\∃k os,w'=grow (w.drewN k) os:=Any.strconv_Itoa Tryz.UJ n h0 h1 w Zs
def Tryz.QH:Go.Shelf.Ren:=⟨fun|172=>65|244=>105|245=>106|247=>145|279=>146|280=>147|281=>148|282=>149|287=>200|316=>201|171=>61|205=>202|321=>258|322=>259|243=>100|246=>140|283=>195|284=>196|285=>197|286=>198|129=>254|317=>253|318=>255|319=>256|320=>257|337=>292|338=>293|n=>n,fun|9=>9|3=>3|75=>116|76=>117|4=>4|5=>5|167=>204|37=>26|0=>0|85=>205|2=>2|168=>207|53=>125|175=>257|46=>91|210=>261|127=>161|145=>317|143=>315|21=>21|171=>252|173=>255|212=>308|51=>304|20=>20|213=>309|232=>362|233=>363|80=>85|n=>n,fun|15=>1|16=>2|17=>3|18=>6|19=>7|n=>n⟩
theorem Tryz.Fg:Go.Proofs.LaysC.n172 Tryz.prog Tryz.QH:={
 mixed:=by kernel_rfl
 f129:=Tryz.func254.trans (congrArg some (by kernel_rfl))
 f171:=Tryz.func61.trans (congrArg some (by kernel_rfl))
 f172:=Tryz.func65.trans (congrArg some (by kernel_rfl))
 f205:=Tryz.func202.trans (congrArg some (by kernel_rfl))
 f243:=Tryz.func100.trans (congrArg some (by kernel_rfl))
 f244:=Tryz.func105.trans (congrArg some (by kernel_rfl))
 f245:=Tryz.func106.trans (congrArg some (by kernel_rfl))
 f246:=Tryz.func140.trans (congrArg some (by kernel_rfl))
 f247:=Tryz.func145.trans (congrArg some (by kernel_rfl))
 f279:=Tryz.func146.trans (congrArg some (by kernel_rfl))
 f280:=Tryz.func147.trans (congrArg some (by kernel_rfl))
 f281:=Tryz.func148.trans (congrArg some (by kernel_rfl))
 f282:=Tryz.func149.trans (congrArg some (by kernel_rfl))
 f283:=Tryz.func195.trans (congrArg some (by kernel_rfl))
 f284:=Tryz.func196.trans (congrArg some (by kernel_rfl))
 f285:=Tryz.func197.trans (congrArg some (by kernel_rfl))
 f286:=Tryz.func198.trans (congrArg some (by kernel_rfl))
 f287:=Tryz.func200.trans (congrArg some (by kernel_rfl))
 f316:=Tryz.func201.trans (congrArg some (by kernel_rfl))
 f317:=Tryz.func253.trans (congrArg some (by kernel_rfl))
 f318:=Tryz.func255.trans (congrArg some (by kernel_rfl))
 f319:=Tryz.func256.trans (congrArg some (by kernel_rfl))
 f320:=Tryz.func257.trans (congrArg some (by kernel_rfl))
 f321:=Tryz.func258.trans (congrArg some (by kernel_rfl))
 f322:=Tryz.func259.trans (congrArg some (by kernel_rfl))
 f337:=Tryz.func292.trans (congrArg some (by kernel_rfl))
 f338:=Tryz.func293.trans (congrArg some (by kernel_rfl))
 t0:=Tryz.underlying0
 a0:=Tryz.isAgg0
 z0:=Tryz.sizeOf0
 v0:=Tryz.zeroValue0
 t2:=Tryz.underlying2
 a2:=Tryz.isAgg2
 z2:=Tryz.sizeOf2
 v2:=Tryz.zeroValue2
 t3:=Tryz.underlying3
 a3:=Tryz.isAgg3
 z3:=Tryz.sizeOf3
 v3:=Tryz.zeroValue3
 t4:=Tryz.underlying4
 a4:=Tryz.isAgg4
 z4:=Tryz.sizeOf4
 v4:=Tryz.zeroValue4
 t5:=Tryz.underlying5
 a5:=Tryz.isAgg5
 z5:=Tryz.sizeOf5
 v5:=Tryz.zeroValue5
 t9:=Tryz.underlying9
 a9:=Tryz.isAgg9
 z9:=Tryz.sizeOf9
 v9:=Tryz.zeroValue9
 t20:=Tryz.underlying20
 a20:=Tryz.isAgg20
 z20:=Tryz.sizeOf20
 v20:=Tryz.zeroValue20
 t21:=Tryz.underlying21
 a21:=Tryz.isAgg21
 z21:=Tryz.sizeOf21
 v21:=Tryz.zeroValue21
 t37:=Tryz.underlying26
 a37:=Tryz.isAgg26
 z37:=Tryz.sizeOf26
 v37:=Tryz.zeroValue26
 t46:=Tryz.underlying91
 a46:=Tryz.isAgg91
 z46:=Tryz.sizeOf91
 v46:=Tryz.zeroValue91
 t51:=Tryz.underlying304
 a51:=Tryz.isAgg304
 z51:=Tryz.sizeOf304
 v51:=Tryz.zeroValue304
 t53:=Tryz.underlying125
 a53:=Tryz.isAgg125
 z53:=Tryz.sizeOf125
 v53:=Tryz.zeroValue125
 t75:=Tryz.underlying116
 a75:=Tryz.isAgg116
 z75:=Tryz.sizeOf116
 v75:=Tryz.zeroValue116
 t76:=Tryz.underlying117
 a76:=Tryz.isAgg117
 z76:=Tryz.sizeOf117
 v76:=Tryz.zeroValue117
 t85:=Tryz.underlying205
 a85:=Tryz.isAgg205
 z85:=Tryz.sizeOf205
 v85:=Tryz.zeroValue205
 t127:=Tryz.underlying161
 a127:=Tryz.isAgg161
 z127:=Tryz.sizeOf161
 v127:=Tryz.zeroValue161
 t143:=Tryz.underlying315
 a143:=Tryz.isAgg315
 z143:=Tryz.sizeOf315
 v143:=Tryz.zeroValue315
 t145:=Tryz.underlying317
 a145:=Tryz.isAgg317
 z145:=Tryz.sizeOf317
 v145:=Tryz.zeroValue317
 t167:=Tryz.underlying204
 a167:=Tryz.isAgg204
 z167:=Tryz.sizeOf204
 v167:=Tryz.zeroValue204
 t168:=Tryz.underlying207
 a168:=Tryz.isAgg207
 z168:=Tryz.sizeOf207
 v168:=Tryz.zeroValue207
 t171:=Tryz.underlying252
 a171:=Tryz.isAgg252
 z171:=Tryz.sizeOf252
 v171:=Tryz.zeroValue252
 t173:=Tryz.underlying255
 a173:=Tryz.isAgg255
 z173:=Tryz.sizeOf255
 v173:=Tryz.zeroValue255
 t175:=Tryz.underlying257
 a175:=Tryz.isAgg257
 z175:=Tryz.sizeOf257
 v175:=Tryz.zeroValue257
 t210:=Tryz.underlying261
 a210:=Tryz.isAgg261
 z210:=Tryz.sizeOf261
 v210:=Tryz.zeroValue261
 t212:=Tryz.underlying308
 a212:=Tryz.isAgg308
 z212:=Tryz.sizeOf308
 v212:=Tryz.zeroValue308
 t213:=Tryz.underlying309
 a213:=Tryz.isAgg309
 z213:=Tryz.sizeOf309
 t232:=Tryz.underlying362
 a232:=Tryz.isAgg362
 z232:=Tryz.sizeOf362
 v232:=Tryz.zeroValue362
 t233:=Tryz.underlying363
 a233:=Tryz.isAgg363
 z233:=Tryz.sizeOf363
 v233:=Tryz.zeroValue363
 g15:=by kernel_rfl
 g16:=by kernel_rfl
 g17:=by kernel_rfl
 g18:=by kernel_rfl
 g19:=by kernel_rfl
 t80:=Tryz.underlying85
 a80:=Tryz.isAgg85
 z80:=Tryz.sizeOf85
 v80:=Tryz.zeroValue85
 i0:=by kernel_rfl
 i2:=by kernel_rfl
 i3:=by kernel_rfl
 i4:=by kernel_rfl
 i5:=by kernel_rfl
 i9:=by kernel_rfl
 i20:=by kernel_rfl
 i21:=by kernel_rfl
 i37:=by kernel_rfl
 i46:=by kernel_rfl
 i51:=by kernel_rfl
 i53:=by kernel_rfl
 i75:=by kernel_rfl
 i76:=by kernel_rfl
 i80:=by kernel_rfl
 i85:=by kernel_rfl
 i127:=by kernel_rfl
 i143:=by kernel_rfl
 i145:=by kernel_rfl
 i167:=by kernel_rfl
 i168:=by kernel_rfl
 i171:=by kernel_rfl
 i173:=by kernel_rfl
 i175:=by kernel_rfl
 i210:=by kernel_rfl
 i212:=by kernel_rfl
 i232:=by kernel_rfl
 i233:=by kernel_rfl
 m15:=by kernel_rfl
 m16:=by kernel_rfl
 m17:=by kernel_rfl
 m18:=by kernel_rfl
 m19:=by kernel_rfl
 c0:=by kernel_rfl
 c2:=by kernel_rfl
 c3:=by kernel_rfl
 c4:=by kernel_rfl
 c5:=by kernel_rfl
 c9:=by kernel_rfl
 c20:=by kernel_rfl
 c21:=by kernel_rfl
 c37:=by kernel_rfl
 c46:=by kernel_rfl
 c51:=by kernel_rfl
 c53:=by kernel_rfl
 c75:=by kernel_rfl
 c76:=by kernel_rfl
 c80:=by kernel_rfl
 c85:=by kernel_rfl
 c127:=by kernel_rfl
 c143:=by kernel_rfl
 c145:=by kernel_rfl
 c167:=by kernel_rfl
 c168:=by kernel_rfl
 c171:=by kernel_rfl
 c173:=by kernel_rfl
 c175:=by kernel_rfl
 c210:=by kernel_rfl
 c212:=by kernel_rfl
 c213:=by kernel_rfl
 c232:=by kernel_rfl
 c233:=by kernel_rfl}
def Tryz.Rk:Go.Shelf.Ren:=⟨fun|145=>55|220=>97|219=>137|217=>191|225=>192|224=>193|267=>194|266=>251|314=>252|n=>n,fun|9=>9|4=>4|59=>109|3=>3|5=>5|46=>91|146=>305|51=>304|n=>n,fun|1=>0|n=>n⟩
theorem Tryz.Wy:Go.Proofs.Lays.n145 Tryz.prog Tryz.Rk:={
 mixed:=by kernel_rfl
 f145:=Tryz.func55.trans (congrArg some (by kernel_rfl))
 f217:=Tryz.func191.trans (congrArg some (by kernel_rfl))
 f219:=Tryz.func137.trans (congrArg some (by kernel_rfl))
 f220:=Tryz.func97.trans (congrArg some (by kernel_rfl))
 f224:=Tryz.func193.trans (congrArg some (by kernel_rfl))
 f225:=Tryz.func192.trans (congrArg some (by kernel_rfl))
 f266:=Tryz.func251.trans (congrArg some (by kernel_rfl))
 f267:=Tryz.func194.trans (congrArg some (by kernel_rfl))
 f314:=Tryz.func252.trans (congrArg some (by kernel_rfl))
 t3:=Tryz.underlying3
 a3:=Tryz.isAgg3
 z3:=Tryz.sizeOf3
 v3:=Tryz.zeroValue3
 t4:=Tryz.underlying4
 a4:=Tryz.isAgg4
 z4:=Tryz.sizeOf4
 v4:=Tryz.zeroValue4
 t5:=Tryz.underlying5
 a5:=Tryz.isAgg5
 z5:=Tryz.sizeOf5
 v5:=Tryz.zeroValue5
 t9:=Tryz.underlying9
 a9:=Tryz.isAgg9
 z9:=Tryz.sizeOf9
 v9:=Tryz.zeroValue9
 t46:=Tryz.underlying91
 a46:=Tryz.isAgg91
 z46:=Tryz.sizeOf91
 v46:=Tryz.zeroValue91
 t51:=Tryz.underlying304
 a51:=Tryz.isAgg304
 z51:=Tryz.sizeOf304
 v51:=Tryz.zeroValue304
 t59:=Tryz.underlying109
 a59:=Tryz.isAgg109
 z59:=Tryz.sizeOf109
 v59:=Tryz.zeroValue109
 t146:=Tryz.underlying305
 a146:=Tryz.isAgg305
 z146:=Tryz.sizeOf305
 v146:=Tryz.zeroValue305
 g1:=by kernel_rfl}
open Go.RowKit Go.Lib in
theorem Tryz.strings_Cut (s sep:ByteArray) (m:Int) (w:World) (hs:s.size<4294967281) (hm:w.cell? ⟨0,0,none⟩=some (.int .i64 m)):
 Calls Tryz.prog 55 #[.string s,.string sep] w fun e w'=>e=.returned (.tuple #[.string ⟨(Lib.cut s.data.toList sep.data.toList).1.toArray⟩,.string ⟨(Lib.cut s.data.toList sep.data.toList).2.1.toArray⟩,.bool (Lib.cut s.data.toList sep.data.toList).2.2])/\∃n,w'=w.drewN n:=Any.strings_Cut Tryz.Wy s sep m w hs hm
def Tryz.Rl:Go.Shelf.Ren:=⟨fun|146=>34|221=>64|268=>102|138=>103|143=>104|195=>142|197=>143|218=>144|219=>137|260=>199|217=>191|225=>192|224=>193|267=>194|266=>251|314=>252|n=>n,fun|9=>9|31=>78|3=>3|4=>4|0=>0|105=>201|21=>21|5=>5|46=>91|119=>311|139=>314|138=>313|146=>305|51=>304|n=>n,fun|1=>0|3=>4|4=>5|n=>n⟩
theorem Tryz.Wz:Go.Proofs.Lays.n146 Tryz.prog Tryz.Rl:={
 mixed:=by kernel_rfl
 f138:=Tryz.func103.trans (congrArg some (by kernel_rfl))
 f143:=Tryz.func104.trans (congrArg some (by kernel_rfl))
 f146:=Tryz.func34.trans (congrArg some (by kernel_rfl))
 f195:=Tryz.func142.trans (congrArg some (by kernel_rfl))
 f197:=Tryz.func143.trans (congrArg some (by kernel_rfl))
 f217:=Tryz.func191.trans (congrArg some (by kernel_rfl))
 f218:=Tryz.func144.trans (congrArg some (by kernel_rfl))
 f219:=Tryz.func137.trans (congrArg some (by kernel_rfl))
 f221:=Tryz.func64.trans (congrArg some (by kernel_rfl))
 f224:=Tryz.func193.trans (congrArg some (by kernel_rfl))
 f225:=Tryz.func192.trans (congrArg some (by kernel_rfl))
 f260:=Tryz.func199.trans (congrArg some (by kernel_rfl))
 f266:=Tryz.func251.trans (congrArg some (by kernel_rfl))
 f267:=Tryz.func194.trans (congrArg some (by kernel_rfl))
 f268:=Tryz.func102.trans (congrArg some (by kernel_rfl))
 f314:=Tryz.func252.trans (congrArg some (by kernel_rfl))
 t0:=Tryz.underlying0
 a0:=Tryz.isAgg0
 z0:=Tryz.sizeOf0
 v0:=Tryz.zeroValue0
 t3:=Tryz.underlying3
 a3:=Tryz.isAgg3
 z3:=Tryz.sizeOf3
 v3:=Tryz.zeroValue3
 t4:=Tryz.underlying4
 a4:=Tryz.isAgg4
 z4:=Tryz.sizeOf4
 v4:=Tryz.zeroValue4
 t5:=Tryz.underlying5
 a5:=Tryz.isAgg5
 z5:=Tryz.sizeOf5
 v5:=Tryz.zeroValue5
 t9:=Tryz.underlying9
 a9:=Tryz.isAgg9
 z9:=Tryz.sizeOf9
 v9:=Tryz.zeroValue9
 t21:=Tryz.underlying21
 a21:=Tryz.isAgg21
 z21:=Tryz.sizeOf21
 v21:=Tryz.zeroValue21
 t31:=Tryz.underlying78
 a31:=Tryz.isAgg78
 z31:=Tryz.sizeOf78
 v31:=Tryz.zeroValue78
 t46:=Tryz.underlying91
 a46:=Tryz.isAgg91
 z46:=Tryz.sizeOf91
 v46:=Tryz.zeroValue91
 t51:=Tryz.underlying304
 a51:=Tryz.isAgg304
 z51:=Tryz.sizeOf304
 v51:=Tryz.zeroValue304
 t105:=Tryz.underlying201
 a105:=Tryz.isAgg201
 z105:=Tryz.sizeOf201
 v105:=Tryz.zeroValue201
 t119:=Tryz.underlying311
 a119:=Tryz.isAgg311
 z119:=Tryz.sizeOf311
 t138:=Tryz.underlying313
 a138:=Tryz.isAgg313
 z138:=Tryz.sizeOf313
 v138:=Tryz.zeroValue313
 t139:=Tryz.underlying314
 a139:=Tryz.isAgg314
 z139:=Tryz.sizeOf314
 v139:=Tryz.zeroValue314
 t146:=Tryz.underlying305
 a146:=Tryz.isAgg305
 z146:=Tryz.sizeOf305
 v146:=Tryz.zeroValue305
 g1:=by kernel_rfl
 g3:=by kernel_rfl
 g4:=by kernel_rfl}
open Go.RowKit Go.Lib in
theorem Tryz.strings_Split (s sep:ByteArray) (m:Int) (w:World) (hs:s.size<4294967281) (hm:w.cell? ⟨0,0,none⟩=some (.int .i64 m)) (h1:1<=sep.size):
 Calls Tryz.prog 34 #[.string s,.string sep] w fun e w'=>
  e=.returned (.slice (some ⟨w.heap.size,0,none⟩) (Lib.countB s sep+1) (Lib.countB s sep+1))/\w'=w.alloc (.cells ((Lib.splitB sep 0 (Lib.countB s sep) s).map Value.string).toArray 9):=Any.strings_Split Tryz.Wz (by kernel_rfl) s sep m w hs hm h1
def Tryz.QI:Go.Shelf.Ren:=⟨fun|146=>34|221=>64|268=>102|138=>103|143=>104|195=>142|197=>143|218=>144|219=>137|260=>199|217=>191|225=>192|224=>193|267=>194|266=>251|314=>252|n=>n,fun|9=>9|31=>78|3=>3|4=>4|0=>0|105=>201|21=>21|5=>5|46=>91|119=>311|139=>314|138=>313|146=>305|51=>304|n=>n,fun|1=>0|3=>4|4=>5|n=>n⟩
theorem Tryz.T5:Go.Proofs.LaysM.n146 Tryz.prog Tryz.QI:={
 mixed:=by kernel_rfl
 f138:=Tryz.func103.trans (congrArg some (by kernel_rfl))
 f143:=Tryz.func104.trans (congrArg some (by kernel_rfl))
 f146:=Tryz.func34.trans (congrArg some (by kernel_rfl))
 f195:=Tryz.func142.trans (congrArg some (by kernel_rfl))
 f197:=Tryz.func143.trans (congrArg some (by kernel_rfl))
 f217:=Tryz.func191.trans (congrArg some (by kernel_rfl))
 f218:=Tryz.func144.trans (congrArg some (by kernel_rfl))
 f219:=Tryz.func137.trans (congrArg some (by kernel_rfl))
 f221:=Tryz.func64.trans (congrArg some (by kernel_rfl))
 f224:=Tryz.func193.trans (congrArg some (by kernel_rfl))
 f225:=Tryz.func192.trans (congrArg some (by kernel_rfl))
 f260:=Tryz.func199.trans (congrArg some (by kernel_rfl))
 f266:=Tryz.func251.trans (congrArg some (by kernel_rfl))
 f267:=Tryz.func194.trans (congrArg some (by kernel_rfl))
 f268:=Tryz.func102.trans (congrArg some (by kernel_rfl))
 f314:=Tryz.func252.trans (congrArg some (by kernel_rfl))
 t0:=Tryz.underlying0
 a0:=Tryz.isAgg0
 z0:=Tryz.sizeOf0
 v0:=Tryz.zeroValue0
 t3:=Tryz.underlying3
 a3:=Tryz.isAgg3
 z3:=Tryz.sizeOf3
 v3:=Tryz.zeroValue3
 t4:=Tryz.underlying4
 a4:=Tryz.isAgg4
 z4:=Tryz.sizeOf4
 v4:=Tryz.zeroValue4
 t5:=Tryz.underlying5
 a5:=Tryz.isAgg5
 z5:=Tryz.sizeOf5
 v5:=Tryz.zeroValue5
 t9:=Tryz.underlying9
 a9:=Tryz.isAgg9
 z9:=Tryz.sizeOf9
 v9:=Tryz.zeroValue9
 t21:=Tryz.underlying21
 a21:=Tryz.isAgg21
 z21:=Tryz.sizeOf21
 v21:=Tryz.zeroValue21
 t31:=Tryz.underlying78
 a31:=Tryz.isAgg78
 z31:=Tryz.sizeOf78
 v31:=Tryz.zeroValue78
 t46:=Tryz.underlying91
 a46:=Tryz.isAgg91
 z46:=Tryz.sizeOf91
 v46:=Tryz.zeroValue91
 t51:=Tryz.underlying304
 a51:=Tryz.isAgg304
 z51:=Tryz.sizeOf304
 v51:=Tryz.zeroValue304
 t105:=Tryz.underlying201
 a105:=Tryz.isAgg201
 z105:=Tryz.sizeOf201
 v105:=Tryz.zeroValue201
 t119:=Tryz.underlying311
 a119:=Tryz.isAgg311
 z119:=Tryz.sizeOf311
 t138:=Tryz.underlying313
 a138:=Tryz.isAgg313
 z138:=Tryz.sizeOf313
 v138:=Tryz.zeroValue313
 t139:=Tryz.underlying314
 a139:=Tryz.isAgg314
 z139:=Tryz.sizeOf314
 v139:=Tryz.zeroValue314
 t146:=Tryz.underlying305
 a146:=Tryz.isAgg305
 z146:=Tryz.sizeOf305
 v146:=Tryz.zeroValue305
 g1:=by kernel_rfl
 g3:=by kernel_rfl
 g4:=by kernel_rfl
 i0:=by kernel_rfl
 i3:=by kernel_rfl
 i4:=by kernel_rfl
 i5:=by kernel_rfl
 i9:=by kernel_rfl
 i21:=by kernel_rfl
 i31:=by kernel_rfl
 i46:=by kernel_rfl
 i51:=by kernel_rfl
 i105:=by kernel_rfl
 i138:=by kernel_rfl
 i139:=by kernel_rfl
 i146:=by kernel_rfl
 m1:=by kernel_rfl
 s1_3:=fun w h=>Go.Proofs.cell_of_shapedOpen_int (zero:=#[.int .i64 0]) (t:=3) h (of_decide_eq_true (by kernel_rfl)) (by kernel_rfl) rfl (by kernel_rfl) (by kernel_rfl) Tryz.underlying3
 m3:=by kernel_rfl
 m4:=by kernel_rfl}
end Go.Proofs

/- Lemmas and contracts. -/
namespace Go.Proofs.YtafomdobfmmleaaGreatDoor
open Go.RowKit
set_option linter.unusedVariables false
def enc (n:Nat):List UInt8:=if h:n<128 then[UInt8.ofNat n] else UInt8.ofNat (n%128+128)::enc (n/128)
 termination_by n
 decreasing_by omega
theorem uu {n:Nat} (h:n<128):enc n=[UInt8.ofNat n]:=by rw[enc,dif_pos h]
theorem An {n:Nat} (h:¬n<128):enc n=UInt8.ofNat (n%128+128)::enc (n/128):=by rw[enc,dif_neg h]
theorem VP (n:Nat):0<(enc n).length:=by
 by_cases h:n<128
 ·rw[uu h];simp
 ·rw[An h];simp
theorem WY (k:Nat):∀n,n<128^(k+1)->(enc n).length<=k+1:=by
 induction k with
 |zero=>intro n h;rw[uu (by simpa using h)];simp
 |succ k ih=>
  intro n h
  by_cases hn:n<128
  ·rw[uu hn];simp
  ·rw[An hn]
   have:=ih (n/128) (by rw[Nat.div_lt_iff_lt_mul (by omega)];rw[Nat.pow_succ] at h;exact h)
   simp;omega
theorem oz {n:Nat} (h:n<18446744073709551616):(enc n).length<=10:=WY 9 n (Nat.lt_of_lt_of_le h (by decide))
theorem ZM (m:Nat):bits BinOp.or IntKind.u8 ((m:Int)%256) 128=((m%128+128:Nat):Int):=by
 have h:∀k:Fin 256,bits BinOp.or IntKind.u8 ((k.val:Int)) 128=((k.val%128+128:Nat):Int):=by decide+kernel
 have:=h ⟨m%256,Nat.mod_lt _ (by omega)⟩
 simp only at this
 rw[show((m:Int)%256)=((m%256:Nat):Int) by omega,this]
 congr 1;omega
def gZ (p:List UInt8):Array Value:=(dA p++List.replicate (10-p.length) (Value.int IntKind.u8 0)).toArray
theorem K3 {p:List UInt8} (h:p.length<=10):(gZ p).size=10:=by simp[gZ,om];omega
theorem L7 {p:List UInt8} (h:p.length<10) (k:Nat) (hk:k<256):(gZ p).setIfInBounds p.length (.int .u8 (k:Int))=gZ (p++[UInt8.ofNat k]):=by
 apply Array.ext'
 simp only[gZ,Array.toList_setIfInBounds,List.length_append,List.length_singleton]
 rw[List.set_append_right _ _ (by rw[om];omega),om,Nat.sub_self]
 obtain⟨j,hj⟩:∃j,10-p.length=j+1:=⟨10-p.length-1,by omega⟩
 rw[hj,show 10-(p.length+1)=j by omega,List.replicate_succ,List.set_cons_zero,BQ]
 simp only[List.append_assoc]
 congr 1
 simp[dA]
 omega
theorem L8 {p:List UInt8} (h:p.length<=10):∃x0 x1 x2 x3 x4 x5 x6 x7 x8 x9:Int,gZ p=#[.int .u8 x0,.int .u8 x1,.int .u8 x2,.int .u8 x3,.int .u8 x4,.int .u8 x5,.int .u8 x6,.int .u8 x7,.int .u8 x8,.int .u8 x9]:=by
 have hs:=K3 h
 have kH:∀v∈(gZ p).toList,∃x:Int,v=.int .u8 x:=by
  intro v hv
  simp only[gZ,List.mem_append,dA,List.mem_map,List.mem_replicate] at hv
  rcases hv with⟨b,_,rfl⟩|⟨_,rfl⟩
  ·exact⟨_,rfl⟩
  ·exact⟨_,rfl⟩
 obtain⟨l,hl⟩:∃l,(gZ p).toList=l:=⟨_,rfl⟩
 have e:gZ p=l.toArray:=by rw[<-hl]
 rw[hl] at kH
 have YO:l.length=10:=by rw[<-hl];simpa using hs
 match l,YO with
 |[a0,a1,a2,a3,a4,a5,a6,a7,a8,a9],_=>
  obtain⟨x0,rfl⟩:=kH a0 (by simp)
  obtain⟨x1,rfl⟩:=kH a1 (by simp)
  obtain⟨x2,rfl⟩:=kH a2 (by simp)
  obtain⟨x3,rfl⟩:=kH a3 (by simp)
  obtain⟨x4,rfl⟩:=kH a4 (by simp)
  obtain⟨x5,rfl⟩:=kH a5 (by simp)
  obtain⟨x6,rfl⟩:=kH a6 (by simp)
  obtain⟨x7,rfl⟩:=kH a7 (by simp)
  obtain⟨x8,rfl⟩:=kH a8 (by simp)
  obtain⟨x9,rfl⟩:=kH a9 (by simp)
  exact⟨x0,x1,x2,x3,x4,x5,x6,x7,x8,x9,e⟩
theorem VQ {n m:Nat} {p:List UInt8} (hp:m*128^p.length<=n):m<=n:=
 Nat.le_trans (Nat.le_mul_of_pos_right m (Nat.one_le_pow _ _ (by omega))) hp
theorem Sr {n m:Nat} {p:List UInt8} (h:n<18446744073709551616) (hp:m*128^p.length<=n) (hm:127<m):p.length<9:=by
 rcases Nat.lt_or_ge p.length 9 with h|h
 ·exact h
 ·have h1:=Nat.pow_le_pow_right (show 0<128 by omega) h
  have h2:128*128^p.length<=m*128^p.length:=Nat.mul_le_mul_right _ (by omega)
  have ZN:(128:Nat)^9=9223372036854775808:=by decide
  omega
set_option maxRecDepth 20000 in
set_option maxHeartbeats 1000000 in
theorem VR (w:World) (n:Nat) (hn:n<18446744073709551616):Calls Tryz.prog 159 #[.int .u64 (n:Int)] w fun e w'=>e=.returned (.tuple #[.agg (gZ (enc n)),.int .i64 ((enc n).length:Int)])/\B w w':=by
 have HN:=Lib.hid hn
 have hz:gZ []=#[.int .u8 0,.int .u8 0,.int .u8 0,.int .u8 0,.int .u8 0,.int .u8 0,.int .u8 0,.int .u8 0,.int .u8 0,.int .u8 0]:=rfl
 have k1:cm ((w.alloc (.cells (gZ []) 222)).alloc (.cells (gZ []) 222)) w.heap.size 222 (gZ []):=(cm.new w _ _).alloc _
 have k2:cm ((w.alloc (.cells (gZ []) 222)).alloc (.cells (gZ []) 222)) (w.heap.size+1) 222 (gZ []):=by simpa using cm.new (w.alloc (.cells (gZ []) 222)) 222 (gZ [])
 have k3:B w ((w.alloc (.cells (gZ []) 222)).alloc (.cells (gZ []) 222)):=(B.jV _ _).trans (B.jV _ _)
 rw[hz] at k1 k2 k3
 clear hz hn
 go_enter Tryz.func159,Tryz.ntmps159
 go_wp2_with fail
 rw[<-show gZ []=#[Value.int IntKind.u8 0,.int .u8 0,.int .u8 0,.int .u8 0,.int .u8 0,.int .u8 0,.int .u8 0,.int .u8 0,.int .u8 0,.int .u8 0] from rfl] at k1 k2 k3
 go_loopw [0,5] (fun x k wr=>∃(m q:Nat) (p:List UInt8),x=.int .u64 (m:Int)/\k=.int .i64 (q:Int)/\Hid (p.length=q)/\Hid (enc n=p++enc m)/\q<10/\Hid (m*128^q<=n)/\Hid (cm wr w.heap.size 222 (gZ []))/\Hid (cm wr (w.heap.size+1) 222 (gZ p))/\Hid (B w wr)) (fun x _ _=>(intOf x).toNat)
 case atStart=>exact⟨n,0,[],rfl,rfl,rfl,rfl,by omega,by show n*128^0<=n;omega,k1,k2,k3⟩
 case round=>
  obtain⟨m,q,p,rfl,rfl,HL,HE,hq,HP,H1,H2,H3⟩:=hrel
  clear k1 k2 k3
  have hmn:=Lib.hid (VQ (p:=p) (by rw[HL.out];exact HP.out))
  have cT:=Lib.hid (K3 (p:=p) (by rw[HL.out];omega))
  have c3:=H2.out.frozen q
  obtain⟨cv,c2⟩:∃cv,wr.cell? ⟨w.heap.size+1,q,none⟩=some cv:=by
   rw[H2.out.cell]
   exact⟨(gZ p)[q]'(by rw[cT.out];omega),Array.getElem?_eq_getElem _⟩
  have oO:(q:Int)<10:=by omega
  by_cases hm:127<m
  ·have lM:=Lib.hid (Sr (p:=p) HN.out (by rw[HL.out];exact HP.out) hm)
   go_wp2_with fail
   go_roundw
   case rel=>
    have hq9:q<9:=by have:=lM.out;have:=HL.out;omega
    refine⟨m/128,q+1,p++[UInt8.ofNat (m%128+128)],by go_num,by go_num,?_,?_,by omega,?_,H1.out.Oi (by simp) _,?_,H3.out.setCell (by simp) _⟩
    ·show(p++[_]).length=q+1
     rw[List.length_append,HL.out];rfl
    ·show enc n=_
     rw[HE.out,An (by omega),List.append_assoc];rfl
    ·show m/128*128^(q+1)<=n
     rw[Nat.pow_succ,Nat.mul_comm (128^q) 128,<-Nat.mul_assoc]
     exact Nat.le_trans (Nat.mul_le_mul_right _ (Nat.div_mul_le_self m 128)) HP.out
    ·show cm _ _ _ _
     rw[ZM]
     have:=H2.out.Dp q (.int .u8 ((m%128+128:Nat):Int))
     have e:=L7 (p:=p) (by rw[HL.out];omega) (m%128+128) (by omega)
     rw[HL.out] at e
     rwa [e] at this
   case measure=>simp[intOf];omega
  ·have Hp:=L7 (p:=p) (by rw[HL.out];omega) m (by omega)
   rw[HL.out] at Hp
   obtain⟨x0,x1,x2,x3,x4,x5,x6,x7,x8,x9,hx⟩:=L8 (p:=p++[UInt8.ofNat m]) (by simp;rw[HL.out];omega)
   have HX:=Lib.hid hx
   have Oj:=Lib.hid (show enc n=p++[UInt8.ofNat m] by rw[HE.out,uu (by omega)])
   have HT:=Lib.hid (show cm (wr.setCell ⟨w.heap.size+1,q,none⟩ (.int .u8 (m:Int))) (w.heap.size+1) 222 #[.int .u8 x0,.int .u8 x1,.int .u8 x2,.int .u8 x3,.int .u8 x4,.int .u8 x5,.int .u8 x6,.int .u8 x7,.int .u8 x8,.int .u8 x9] from by
    have:=H2.out.Dp q (.int .u8 (m:Int));rwa [Hp,hx] at this)
   have HZ:=Lib.hid (show cm (wr.setCell ⟨w.heap.size+1,q,none⟩ (.int .u8 (m:Int))) w.heap.size 222 #[.int .u8 0,.int .u8 0,.int .u8 0,.int .u8 0,.int .u8 0,.int .u8 0,.int .u8 0,.int .u8 0,.int .u8 0,.int .u8 0] from H1.out.Oi (by simp) _)
   have HB:=Lib.hid (show B w (wr.setCell ⟨w.heap.size+1,q,none⟩ (.int .u8 (m:Int))) from H3.out.setCell (by simp) _)
   have abD:(m:Int)%256=m:=by omega
   clear Hp hx
   go_wp2_with (refine wpList_load_row rfl 222 (.tmp 4) rfl (w.heap.size+1) rfl 222 #[.int .u8 x0,.int .u8 x1,.int .u8 x2,.int .u8 x3,.int .u8 x4,.int .u8 x5,.int .u8 x6,.int .u8 x7,.int .u8 x8,.int .u8 x9] (0,0) _ HT.out Tryz.underlying222 rfl (by kernel_rfl) ?_;have cz:=fun i=>HZ.out.cell i;have fz:=fun i=>HZ.out.frozen i;have HS:=Lib.hid HB.out;generalize wr.setCell ⟨w.heap.size+1,q,none⟩ (.int .u8 (m:Int))=wz at*)
   refine bodyPost_ret (v:=.tuple #[.agg #[.int .u8 x0,.int .u8 x1,.int .u8 x2,.int .u8 x3,.int .u8 x4,.int .u8 x5,.int .u8 x6,.int .u8 x7,.int .u8 x8,.int .u8 x9],.int .i64 ((q:Int)+1)]) (by simp[results,Tryz.results159,go_sem,cz]) rfl ⟨?_,?_⟩
   ·rw[<-HX.out,<-Oj.out]
    have e:((q:Int)+1)=((enc n).length:Int):=by rw[Oj.out,List.length_append,HL.out];simp
    rw[e]
   ·repeat (refine Below.setCell ?_ (by simp) _)
    exact HB.out
end Go.Proofs.YtafomdobfmmleaaGreatDoor

/- Lemmas and contracts. -/
namespace Go.Proofs.YtafomdobfmmleaaGreatDoor
open Go.RowKit
set_option linter.unusedVariables false
def Nn:Value->Value|.slice A n _=>.slice A n n|v=>v
set_option maxHeartbeats 400000 in
theorem VS {w:World} {v:Value} {bs:List UInt8} (h:Bs w v bs):Calls Tryz.prog 160 #[v] w fun e w'=>e=.returned (Nn v)/\w=w':=by
 obtain⟨⟨A,cap,rfl,hn,hc,hm,hr⟩,hl⟩:=h
 have DJ:bs.length<=9223372036854775807:=by unfold maxLen at hm;omega
 have hci:(bs.length:Int)<=(cap:Int):=by omega
 cases A with
 |none=>
  obtain⟨rfl,rfl⟩:=hn rfl
  clear hr hn hc hm hl
  go_enter Tryz.func160,Tryz.ntmps160
  go_wp2
  go_ret
  exact⟨rfl,rfl⟩
 |some ad=>
  clear hr hn hm hl
  go_enter Tryz.func160,Tryz.ntmps160
  go_wp2
  go_ret
  exact⟨rfl,rfl⟩
theorem QX {P:Program} {t ty:TypeId} {w:World} {v u:Value} {bs news:List UInt8} (ht:P.underlying t=some (.slice 5)) (DK:(P.info? 5).map (fun i=>(i.zero,i.size,i.bytes))=some (some (.int .u8 0),1,1))
 (hv:Bs w v bs) (hu:Rd w u news.length 1 (dA news)) (hm:0<news.length) (jD:bs.length+news.length<=bz):
 ∃v' w',(Builtin.append_ #[t,t] ty #[Nn v,u]).run P w=.ok v' w'/\w'.ownsRow w.heap.size 5 1 v' (bs++news).length (dA (bs++news))/\B w w':=by
 obtain⟨⟨A,cap,rfl,hn,hc,hmx,hr⟩,hl⟩:=hv
 have mX:bs.length+news.length<=maxLen:=by unfold bz at jD;unfold maxLen;omega
 have fO:(bs.length+news.length)*1<=140737488355328:=by unfold bz at jD;omega
 cases A with
 |none=>
  obtain⟨rfl,rfl⟩:=hn rfl
  obtain⟨v',w',h1,h2,h3,h4⟩:=EI (P:=P) (t:=t) (ty:=ty) ht DK rfl Nat.zero_lt_one (CV w w.heap.size 5 1) hu (zq _) (by simpa using mX) (by simpa using fO) (Nat.le_refl _)
  exact⟨v',w',h1,by simpa using h2,B.grown (Below.refl _ _) h3 (fun k hk=>by simp[Value.ownBlock] at hk)⟩
 |some ad=>
  obtain⟨i,hi,th,hs,rW⟩:=info_parts DK
  obtain⟨Hq,A',c',rfl,j0,DL,wB⟩:=hu
  cases A' with
  |none=>have:=(j0 rfl).1;omega
  |some Ok=>
   obtain⟨v',w',h1,h2,h3⟩:=run_append_arg_grows (P:=P) w t ty 5 i (.int .u8 0) 1 1 ht hi th hs rW rfl Nat.zero_lt_one ad bs.length bs.length (dA bs) (by rw[om];omega) (hr ad rfl).2 Ok news.length c' (dA news) (by rw[om];omega) (wB Ok rfl).2 (by omega) mX fO
   exact⟨v',w',h1,by rw[List.length_append,BQ];exact h2,B.grown (Below.refl _ _) h3 (fun k hk=>by cases hk)⟩
theorem WZ {w:World} {g:Nat} {p:List UInt8} (hp:p.length<=10) (h:cm w g 222 (gZ p)):Rd w (.slice (some ⟨g,0,none⟩) p.length 10) p.length 1 (dA p):=by
 refine⟨by rw[om];omega,_,10,rfl,fun e=>(by cases e),hp,fun ad iP=>?_⟩
 cases iP
 refine⟨fun _=>h.lt,fun j x hx=>?_⟩
 have ea:(⟨g,0,none⟩:Addr).add j=⟨g,j,none⟩:=by unfold Addr.add;split<;>simp_all
 rw[ea,h.cell,<-hx]
 have hj:j<(dA p).length:=by
  rcases Nat.lt_or_ge j (dA p).length with h|h
  ·exact h
  ·rw[List.getElem?_eq_none h] at hx;cases hx
 simp only[gZ,List.getElem?_toArray]
 rw[List.getElem?_append_left hj]
set_option maxRecDepth 20000 in
set_option maxHeartbeats 1000000 in
theorem K4 {w:World} {v:Value} {bs:List UInt8} (h:Bs w v bs) (n:Nat) (hn:n<18446744073709551616) (hl:bs.length+10<=bz):Calls Tryz.prog 112 #[v,.int .u64 (n:Int)] w (Fresh w (bs++enc n)):=by
 have H:=Lib.hid h
 have HF:=Lib.hid (VR w n hn)
 have HE:=Lib.hid (oz hn)
 have HL:=Lib.hid hl
 obtain⟨x0,x1,x2,x3,x4,x5,x6,x7,x8,x9,hx⟩:=L8 (p:=enc n) (oz hn)
 have HX:=Lib.hid hx
 have hq:(enc n).length<=10:=oz hn
 have oO:((enc n).length:Int)<=10:=by omega
 clear h hn hl hx
 go_enter Tryz.func112,Tryz.ntmps112
 go_wp2_with (go_at_call 159;refine HF.out.mono ?_;rintro e w1 ⟨rfl,mX⟩;rw[HX.out])
 have fO:=mX.trans (B.jV w1 (.cells #[.int .u8 x0,.int .u8 x1,.int .u8 x2,.int .u8 x3,.int .u8 x4,.int .u8 x5,.int .u8 x6,.int .u8 x7,.int .u8 x8,.int .u8 x9] 222))
 have hk:cm (w1.alloc (.cells #[.int .u8 x0,.int .u8 x1,.int .u8 x2,.int .u8 x3,.int .u8 x4,.int .u8 x5,.int .u8 x6,.int .u8 x7,.int .u8 x8,.int .u8 x9] 222)) w1.heap.size 222 #[.int .u8 x0,.int .u8 x1,.int .u8 x2,.int .u8 x3,.int .u8 x4,.int .u8 x5,.int .u8 x6,.int .u8 x7,.int .u8 x8,.int .u8 x9]:=cm.new w1 _ _
 generalize w1.alloc (.cells #[.int .u8 x0,.int .u8 x1,.int .u8 x2,.int .u8 x3,.int .u8 x4,.int .u8 x5,.int .u8 x6,.int .u8 x7,.int .u8 x8,.int .u8 x9] 222)=w2 at*
 have cB:cm w2.drew w1.heap.size 222 (gZ (enc n)):=by rw[HX.out];exact hk
 obtain⟨v',w3,iA,h2,h3⟩:=QX (P:=Tryz.prog) (t:=26) (ty:=26) Tryz.underlying26 Df (H.out.later (fO.trans (Below.refl _ _).drew)) (WZ HE.out cB) (VP n) (by have:=HE.out;have:=HL.out;omega)
 have HC:=Lib.hid (VS (H.out.later (fO.trans (Below.refl _ _).drew)))
 have HB:=Lib.hid (fO.trans ((Below.refl _ _).drew.trans h3))
 have nW:=fO.size
 have HO:=Lib.hid (K2 h2 (show w.heap.size<=w2.drew.heap.size from nW))
 clear hk cB h2 h3 mX fO nW
 go_region_law (first
  |(refine Ss rfl 160 #[.tmp 12] #[26] rfl Tryz.call160 HC.out rfl ?_;rintro e wn ⟨rfl,rfl⟩;refine⟨_,rfl,?_⟩)
  |(refine Pt rfl (.tmp 13) (.tmp 15) 26 rfl rfl rfl iA ?_))
 all_goals go_wp2_with fail;go_ret;exact⟨v',rfl,HO.out,HB.out⟩
end Go.Proofs.YtafomdobfmmleaaGreatDoor

/- Lemmas and contracts. -/
namespace Go.Proofs.YtafomdobfmmleaaGreatDoor
open Go.RowKit
set_option linter.unusedVariables false
theorem Fresh.mk {w w':World} {bs:List UInt8} {v:Value} {n:Nat} {xs:List Value} (h:w'.ownsRow w.heap.size 5 1 v n xs) (hn:n=bs.length) (hx:xs=dA bs) (hb:B w w'):Fresh w bs (.returned v) w':=by
 subst hn hx;exact⟨v,rfl,h,hb⟩
theorem Fresh.app {w w1 w2:World} {z xs:List UInt8} {A1 A2:Option Addr} {c1 c2:Nat} (r1:w1.ownsRow w.heap.size 5 1 (.slice A1 z.length c1) z.length (dA z)) (hb:B w w1)
 (r2:w2.ownsRow w.heap.size 5 1 (.slice A2 (z.length+xs.length) c2) (z.length+xs.length) (dA z++dA xs)) (x2:w1.grownBy w2 (Value.slice A1 z.length c1).ownBlock):Fresh w (z++xs) (.returned (.slice A2 (z.length+xs.length) c2)) w2:=
 Fresh.mk r2 (by simp) (by rw[BQ]) (B.grown hb x2 (fun k hk=>F5 r1 hk))
theorem nJ {x:Int} (h:0<=x/\x<18446744073709551616):IntKind.u64.wrap x=x:=by
 simp[IntKind.wrap,IntKind.signed,IntKind.bits];omega
def Dq (bs xs:List UInt8):List UInt8:=bs++enc xs.length++xs
set_option maxHeartbeats 1000000 in
theorem sn {w:World} {v u:Value} {bs xs:List UInt8} (h:Bs w v bs) (k:Bs w u xs) (hl:(bs++xs).length+10<=bz):Calls Tryz.prog 154 #[v,u] w (Fresh w (Dq bs xs)):=by
 have qM:xs.length<18446744073709551616:=by have:=k.len;unfold bz at this;omega
 have Bb:bs.length+10+xs.length<=bz:=by simp at hl;omega
 have HP:=Lib.hid (K4 h xs.length qM (by omega))
 have jQ:=oz qM
 have HK:=Lib.hid k
 obtain⟨z,hz⟩:∃z,z=bs++enc xs.length:=⟨_,rfl⟩
 have ZO:z.length<=bs.length+10:=by rw[hz,List.length_append];omega
 rw[<-hz] at HP
 have g1:z.length+xs.length<=maxLen:=by unfold bz at Bb;unfold maxLen;omega
 have g2:(z.length+xs.length)*1<=140737488355328:=by unfold bz at Bb;omega
 have o1:=zq xs
 have HZ:=Lib.hid (show Dq bs xs=z++xs by rw[hz];rfl)
 have hxi:(xs.length:Int)<=140737488355328:=by have:=k.len;unfold bz at this;omega
 rw[HZ.out]
 obtain⟨B0,cp,rfl⟩:=HK.out.rd.slice
 clear h k hl Bb jQ hz ZO qM
 go_enter Tryz.func154,Tryz.ntmps154
 go_wp2_with (first
  |(go_at_call 112;(with_reducible refine HP.out.mono ?_);rintro e w1 ⟨v1,rfl,r1,mX⟩;obtain⟨A1,c1,rfl⟩:=Kl r1;have YP:=mX.size)
  |(at_builtin;refine Po rfl (.tmp 9) (.tmp 10) 26 rfl Tryz.underlying26 Df rfl Nat.zero_lt_one rfl rfl r1 (HK.out.later mX).rd o1 g1 g2 YP ?_;intro A2 c2 w2 r2 x2 y2))
 go_ret
 exact Fresh.app r1 mX r2 x2
end Go.Proofs.YtafomdobfmmleaaGreatDoor

/- Lemmas and contracts. -/
namespace Go.Proofs.YtafomdobfmmleaaGreatDoor
open Go.RowKit Go.Deep
set_option linter.unusedVariables false
def dy (aq:Nat):Nat->Nat->List UInt8->Nat×List UInt8×Int
 |_,_,[]=>(0,[],10)
 |i,acc,c::r=>
  if i=9/\1<c.toNat then(0,[],11)
  else if 127<c.toNat then dy aq (i+1) (acc+c.toNat%128*128^i) r
  else if(0<i/\c.toNat=0)\/aq<acc+c.toNat*128^i then(0,[],11)
  else(acc+c.toNat*128^i,r,0)
end Go.Proofs.YtafomdobfmmleaaGreatDoor

/- Lemmas and contracts. -/
namespace Go.Proofs.YtafomdobfmmleaaGreatDoor
open Go.RowKit
set_option linter.unusedVariables false
set_option maxHeartbeats 400000 in
theorem VT {w:World} {v:Value} {bs:List UInt8} (h:Bs w v bs):Calls Tryz.prog 171 #[v] w (xg w bs):=by
 rcases h.isNil with⟨rfl,rfl⟩|⟨ad,cap,rfl⟩
 ·have q:∀w,(binOp .eql 26 (.slice none 0 0) (.slice none 0 0)).run Tryz.prog w=.ok (.bool true) w:=fun w=>by kernel_rfl
  have E:=Lib.hid (show xg w [] (.returned (.slice none 0 0)) w from⟨_,rfl,CV w _ _ _,Below.refl _ _⟩)
  clear h
  go_enter Tryz.func171,Tryz.ntmps171
  go_wp2
  go_ret
  exact E.out
 ·have q:∀w,(binOp .eql 26 (.slice (some ad) bs.length cap) (.slice none 0 0)).run Tryz.prog w=.ok (.bool false) w:=fun w=>by kernel_rfl
  have hb:B w (w.alloc (.cells #[] 5)):=B.jV _ _
  have ho:(w.alloc (.cells #[] 5)).ownsRow w.heap.size 5 1 (.slice (some ⟨w.heap.size,0,none⟩) 0 0) ([]:List UInt8).length (dA []):=⟨rfl,.inr ⟨_,0,#[],rfl,Nat.le_refl _,heap_alloc_new w _,Nat.le_refl _,by unfold maxLen;omega,rfl,rfl⟩⟩
  obtain⟨v',w',iA,h2,h3,h4⟩:=Kk (P:=Tryz.prog) (t:=26) (ty:=47) Tryz.underlying26 Df ho (h.later hb) (by have:=h.len;simpa using this) (by simp)
  have E:=Lib.hid (show xg w bs (.returned v') w' from⟨_,rfl,h2,hb.grown h3 (fun k hk=>by simp[Value.ownBlock] at hk;omega)⟩)
  clear h ho h2 h3 h4 hb
  go_enter Tryz.func171,Tryz.ntmps171
  go_wp2_with (at_builtin;refine Ec rfl (.tmp 5) (.tmp 6) 26 rfl rfl rfl iA ?_)
  go_ret
  exact E.out
section
variable {W w:World} {p:Nat} {bs:List UInt8} {e:Int} {L:List dG}
end
end Go.Proofs.YtafomdobfmmleaaGreatDoor

/- Lemmas and contracts. -/
namespace Go.Proofs.YtafomdobfmmleaaGreatDoor
open Go.RowKit
set_option linter.unusedVariables false
theorem YQ (y:Nat) (h:y<256):bits BinOp.and IntKind.u8 (y:Int) 127=((y%128:Nat):Int):=by
 have h':∀k:Fin 256,bits BinOp.and IntKind.u8 ((k.val:Int)) 127=((k.val%128:Nat):Int):=by decide+kernel
 exact h' ⟨y,h⟩
theorem YR (a e:Nat) (ha:a<18446744073709551616) (he:e<18446744073709551616):bits BinOp.or IntKind.u64 (a:Int) (e:Int)=((a ||| e:Nat):Int):=by
 have hlt:a ||| e<2^64:=Nat.or_lt_two_pow (by omega) (by omega)
 have e0:bits BinOp.or IntKind.u64 (a:Int) (e:Int)=IntKind.u64.wrap (((BitVec.ofInt 64 (a:Int) ||| BitVec.ofInt 64 (e:Int)).toNat:Nat):Int):=rfl
 have e1:(BitVec.ofInt 64 (a:Int))=BitVec.ofNat 64 a:=by simp
 have e2:(BitVec.ofInt 64 (e:Int))=BitVec.ofNat 64 e:=by simp
 rw[e0,e1,e2,BitVec.toNat_or,BitVec.toNat_ofNat,BitVec.toNat_ofNat,Nat.mod_eq_of_lt (show a<2^64 by omega),Nat.mod_eq_of_lt (show e<2^64 by omega)]
 exact nJ (by omega)
theorem VU (acc q y:Nat) (hy:y<256) (hq:q<=9) (ha:acc<128^q):∃d e s:Nat,IntKind.u64.wrap (bits BinOp.and IntKind.u8 (y:Int) 127)=(d:Int)/\IntKind.u64.wrap ((d:Int)*2^(7*q))=(e:Int)/\bits BinOp.or IntKind.u64 (acc:Int) (e:Int)=(s:Int)/\
 ((q<9\/y<=1)->s=acc+y%128*128^q):=by
 have ZP:128^q<=9223372036854775808:=Nat.le_trans (Nat.pow_le_pow_right (by omega) hq) (by decide)
 have Hr:(2:Nat)^(7*q)=128^q:=by rw[Nat.pow_mul]
 refine⟨y%128,y%128*128^q%18446744073709551616,acc ||| (y%128*128^q%18446744073709551616),?_,?_,?_,?_⟩
 ·rw[YQ y hy,nJ (by omega)]
 ·have:((y%128:Nat):Int)*2^(7*q)=((y%128*128^q:Nat):Int):=by rw[<-Hr];push_cast;rfl
  rw[this]
  simp[IntKind.wrap,IntKind.signed,IntKind.bits]
 ·exact YR _ _ (by omega) (Nat.mod_lt _ (by omega))
 ·intro h
  have hlt:y%128*128^q<18446744073709551616:=by
   rcases h with h|h
   ·have h8:128^q<=72057594037927936:=Nat.le_trans (Nat.pow_le_pow_right (by omega) (show q<=8 by omega)) (by decide)
    have:=Nat.mul_le_mul (show y%128<=127 by omega) h8
    omega
   ·have:=Nat.mul_le_mul (show y%128<=1 by omega) ZP
    omega
  have Hs:acc<2^(7*q):=by rw[Hr];exact ha
  rw[Nat.mod_eq_of_lt hlt,<-Hr,Nat.or_comm,Nat.mul_comm,<-Nat.two_pow_add_eq_or_of_lt Hs,Nat.add_comm]
theorem W0 {acc q d:Nat} (ha:acc<128^q) (hd:d<128):acc+d*128^q<128^(q+1):=by
 rw[Nat.pow_succ]
 have:=Nat.mul_le_mul_right (128^q) (show d<=127 by omega)
 omega
theorem JH {aq i acc:Nat} {c:UInt8} {r:List UInt8} (h:127<c.toNat) (h9:i≠9):dy aq i acc (c::r)=dy aq (i+1) (acc+c.toNat%128*128^i) r:=by
 rw[dy,if_neg (by omega),if_pos h]
theorem JI {aq i acc:Nat} {c:UInt8} {r:List UInt8} (h9:i=9) (h:1<c.toNat):dy aq i acc (c::r)=(0,[],11):=by
 rw[dy,if_pos ⟨h9,h⟩]
theorem Su {aq i acc:Nat} {c:UInt8} {r:List UInt8} (h:c.toNat<=127) (hb:(0<i/\c.toNat=0)\/aq<acc+c.toNat*128^i):dy aq i acc (c::r)=(0,[],11):=by
 rw[dy]
 split
 ·rfl
 ·split
  ·omega
  ·rfl
theorem JJ {aq i acc:Nat} {c:UInt8} {r:List UInt8} (h:c.toNat<=127) (h9:¬(i=9/\1<c.toNat)) (hb:¬((0<i/\c.toNat=0)\/aq<acc+c.toNat*128^i)):dy aq i acc (c::r)=(acc+c.toNat*128^i,r,0):=by
 rw[dy,if_neg h9,if_neg (by omega),if_neg hb]
section
variable {W w:World} {p:Nat} {bs:List UInt8} {e:Int} {L:List dG}
end
end Go.Proofs.YtafomdobfmmleaaGreatDoor

/- Lemmas and contracts. -/
namespace Go.Proofs.YtafomdobfmmleaaGreatDoor
open Go.RowKit
set_option linter.unusedVariables false
section
variable {W w:World} {p:Nat} {bs:List UInt8} {e:Int} {L:List dG}
theorem K5 (aq:Nat):∀(bs:List UInt8) (i acc:Nat),(dy aq i acc bs).1<=aq
 |[],_,_=>Nat.zero_le _
 |c::r,i,acc=>by
  unfold dy
  split
  ·exact Nat.zero_le _
  ·split
   ·exact K5 aq r _ _
   ·split
    ·exact Nat.zero_le _
    ·rename_i h;show acc+c.toNat*128^i<=aq;omega
end
end Go.Proofs.YtafomdobfmmleaaGreatDoor

/- Lemmas and contracts. -/
namespace Go.Proofs.YtafomdobfmmleaaGreatDoor
open Go.RowKit
set_option linter.unusedVariables false
theorem Km (aq:Nat):∀(bs:List UInt8) (i acc:Nat),(dy aq i acc bs).2.1.length<=bs.length/\((dy aq i acc bs).2.2=0->(dy aq i acc bs).2.1.length<bs.length)
 |[],_,_=>⟨by simp[dy],by simp[dy]⟩
 |c::r,i,acc=>by
  have ih:=Km aq r (i+1) (acc+c.toNat%128*128^i)
  unfold dy
  split
  ·simp
  ·split
   ·exact⟨by simp;omega,fun h=>by have:=ih.2 h;simp;omega⟩
   ·split
    ·simp
    ·simp
section
variable {W w:World} {p:Nat} {bs:List UInt8} {e:Int} {L:List dG}
end
end Go.Proofs.YtafomdobfmmleaaGreatDoor

/- Lemmas and contracts. -/
namespace Go.Proofs.YtafomdobfmmleaaGreatDoor
open Go.RowKit
set_option linter.unusedVariables false
section
variable {W w:World} {p:Nat} {bs:List UInt8} {e:Int} {L:List dG}
end
end Go.Proofs.YtafomdobfmmleaaGreatDoor

/- Lemmas and contracts. -/
namespace Go.Proofs.YtafomdobfmmleaaGreatDoor
open Go.RowKit
set_option linter.unusedVariables false
section
variable {W w:World} {p:Nat} {bs:List UInt8} {e:Int} {L:List dG}
end
end Go.Proofs.YtafomdobfmmleaaGreatDoor

/- Lemmas and contracts. -/
namespace Go.Proofs.YtafomdobfmmleaaGreatDoor
open Go.RowKit
set_option linter.unusedVariables false
section
variable {W w:World} {p:Nat} {bs:List UInt8} {e:Int} {L:List dG}
end
end Go.Proofs.YtafomdobfmmleaaGreatDoor

/- Lemmas and contracts. -/
namespace Go.Proofs.YtafomdobfmmleaaGreatDoor
open Go.RowKit
set_option linter.unusedVariables false
section
variable {W w:World} {p:Nat} {bs:List UInt8} {e:Int} {L:List dG}
end
end Go.Proofs.YtafomdobfmmleaaGreatDoor

/- Lemmas and contracts. -/
namespace Go.Proofs.YtafomdobfmmleaaGreatDoor
set_option linter.unusedVariables false
theorem ofNat_toNat (c:UInt8):UInt8.ofNat c.toNat=c:=by simp
theorem K7 (aq:Nat):∀(bs:List UInt8) (i acc v:Nat) (rest:List UInt8),dy aq i acc bs=(v,rest,0)->∃d,v=acc+d*128^i/\bs=enc d++rest/\(0<i->0<d)
 |[],i,acc,v,rest,h=>by simp[dy] at h
 |c::r,i,acc,v,rest,h=>by
  have hc:=c.toNat_lt
  unfold dy at h
  split at h
  ·simp at h
  ·split at h
   ·rename_i h2
    obtain⟨d,h3,h4,h5⟩:=K7 aq r _ _ v rest h
    have hd:=h5 (by omega)
    refine⟨c.toNat%128+128*d,?_,?_,fun _=>by omega⟩
    ·rw[h3,Nat.pow_succ,Nat.add_mul]
     have:d*(128^i*128)=128*d*128^i:=by rw[Nat.mul_comm (128^i) 128,<-Nat.mul_assoc,Nat.mul_comm d 128]
     omega
    ·rw[An (by omega),show(c.toNat%128+128*d)%128+128=c.toNat by omega,show(c.toNat%128+128*d)/128=d by omega,ofNat_toNat,h4]
     rfl
   ·split at h
    ·simp at h
    ·rename_i h1 h2 h3
     simp only[Prod.mk.injEq] at h
     refine⟨c.toNat,h.1.symm,?_,fun hi=>by omega⟩
     rw[uu (by omega),ofNat_toNat,h.2.1]
     rfl
theorem VY (aq:Nat):∀(d i acc:Nat) (rest:List UInt8),i<=9->d*128^i<18446744073709551616->(0<i->0<d)->acc+d*128^i<=aq->dy aq i acc (enc d++rest)=(acc+d*128^i,rest,0):=by
 intro d
 induction d using Nat.strongRecOn with
 |ind d ih=>
  intro i acc rest hi hb h0 hm
  have e9:(128:Nat)^9=9223372036854775808:=by decide
  by_cases hd:d<128
  ·rw[uu hd]
   have hc:(UInt8.ofNat d).toNat=d:=by rw[UInt8.toNat_ofNat'];omega
   have h9:¬(i=9/\1<(UInt8.ofNat d).toNat):=by
    rw[hc]
    rintro⟨rfl,h⟩
    have:=Nat.mul_le_mul_right (128^9) h
    omega
   show dy aq i acc (UInt8.ofNat d::rest)=_
   rw[JJ (by rw[hc];omega) h9 (by rw[hc];rintro(h|h)<;>omega),hc]
  ·rw[An hd]
   have hc:(UInt8.ofNat (d%128+128)).toNat=d%128+128:=by rw[UInt8.toNat_ofNat'];omega
   have h9:i≠9:=by
    rintro rfl
    have:=Nat.mul_le_mul_right (128^9) (show 128<=d by omega)
    omega
   show dy aq i acc (UInt8.ofNat (d%128+128)::(enc (d/128)++rest))=_
   have hs:d%128*128^i+d/128*128^(i+1)=d*128^i:=by
    rw[Nat.pow_succ,Nat.mul_comm (128^i) 128,<-Nat.mul_assoc,<-Nat.add_mul]
    congr 1;omega
   rw[JH (by rw[hc];omega) h9,hc,show(d%128+128)%128=d%128 by omega,ih (d/128) (by omega) (i+1) _ rest (by omega) (by omega) (fun _=>by omega) (by omega)]
   rw[Nat.add_assoc,hs]
end Go.Proofs.YtafomdobfmmleaaGreatDoor
