/- Lemmas and contracts, part 25. -/
import Derived.Test.YtafomdobfmmleaaGreatDoorZl24
import Derived.Deep.DeepWitnessRowRef
import Derived.LaidOnce
namespace Go.Proofs.YtafomdobfmmleaaGreatDoor
set_option linter.unusedVariables false
open Go.Proofs.Tryz
set_option maxHeartbeats 20000000
section
open Go.ChangeShapes Go.WideShapes Go.ChangeAt Go.RowKit Go.Deep
def DN (d:DataW Unit):Array Value:=match d with
 |.agg l=>(l.flatMap fun
  |.lit (.int k n)=>[Value.int k n]
  |.agg m=>m.flatMap fun
   |.lit (.int k n)=>[Value.int k n]
   |_=>[]
  |_=>[]).toArray
 |_=>#[]
def afl:ByteArray:=⟨#[105,110,118,97,108,105,100,32,115,121,110,116,97,120]⟩
def afm:ByteArray:=⟨#[118,97,108,117,101,32,111,117,116,32,111,102,32,114,97,110,103,101]⟩
noncomputable def low:Nat:=(World.holding prog default ⟨#[],#[],[]⟩).heap.size
noncomputable def Ja (os:Os):World:=
 let w0:=World.holding prog os ⟨#[.cells #[.string afl] 317,.cells #[.string afm] 317],#[],[]⟩
 let put (h:Array Obj) (g:Nat) (cs:Array Value):Array Obj:=h.modify g fun
  |.cells _ t frozen=>.cells cs t frozen
  |o=>o
 {w0 with heap:=put (put (put (put (put (put (put w0.heap uI #[.iface 315 (.pointer (some ⟨low,0,none⟩))]) uJ #[.iface 315 (.pointer (some ⟨low+1,0,none⟩))]) uX (DN Rows.laid_internal_strconv_uint64pow10)) 4 (DN Rows.laid_unicode_utf8_first)) 5 (DN Rows.laid_unicode_utf8_acceptRanges)) 6 (DN Rows.laid_math_bits_deBruijn32tab)) 7 (DN Rows.laid_math_bits_deBruijn64tab)}
set_option maxRecDepth 1000000 in
theorem ZF (os:Os) (args:Array Value):laidMet prog Rows.scriptSetupsRow.laid ((Ja os).forCall (fun _ _=>0) ⟨#[],args,[]⟩).memory:=
 laidMet_of_run (ps:=MemPlace.row ⟨6,0,none⟩ 32++(MemPlace.row ⟨7,0,none⟩ 64++(MemPlace.row ⟨uX,0,none⟩ 20++(MemPlace.row ⟨5,0,none⟩ 32++(.cell uJ 0::.cell (low+1) 0::.cell uI 0::.cell low 0::MemPlace.row ⟨4,0,none⟩ 256))))) 80 (by kernel_rfl) (by kernel_rfl) (by kernel_rfl)
theorem ZG:ownKnob prog.godebug=none:=by kernel_rfl
theorem XU:laidOutB prog=true:=by kernel_rfl
theorem Vi {W:World} (h:laidMetH prog Rows.scriptSetupsRow.laid W) (hs:W.ShapedOpen prog):D1 W:=fun I i1 i2 i3 i4=>Vh h hs i1 i2 i3 i4
end
section
open Go.ChangeShapes Go.WideShapes Go.ChangeAt Go.RowKit Go.Deep Go.Joins
set_option maxRecDepth 100000
theorem ji {a b:Bool} (h:a=true) (k:b=true):(a&&b)=true:=by rw[h,k];rfl
theorem UD:(Rows.scriptLinesUptoRow.wf (OpenSpec.ofChange (Rows.OpenSpec.upto Rows.scriptLinesSpec).bare))=true:=by kernel_rfl
theorem UE:(laidOutB checked.prog)=true:=by kernel_rfl
theorem UF:(mapsRowed checked.prog)=true:=by kernel_rfl
theorem UG:(f4.params.all (checked.prog.readableRec ·))=true:=by kernel_rfl
theorem UH:(namedTie checked.prog Rows.scriptLinesUptoRow.named (Rows.OpenSpec.upto Rows.scriptLinesSpec).bare.vars)=true:=by kernel_rfl
theorem UI:((Rows.scriptLinesUptoRow.stops==[]))=true:=by kernel_rfl
theorem UJ:((checked.prog.stops==[]))=true:=by kernel_rfl
theorem UK:((Rows.scriptLinesUptoRow.knobs==[]))=true:=by kernel_rfl
theorem UL:((checked.prog.stopKnobs==[]))=true:=by kernel_rfl
theorem UM:((Rows.scriptLinesUptoRow.inPlace==checked.prog.inPlace 4))=true:=by kernel_rfl
theorem Ue:((Rows.scriptLinesUptoRow.unfollowed==checked.prog.unfollowed 4))=true:=by kernel_rfl
theorem Uf:((Rows.scriptLinesUptoRow.recurses==checked.prog.recurses 4))=true:=by kernel_rfl
theorem Ug:((Rows.scriptLinesUptoRow.named==checked.prog.varsNamed 4))=true:=by kernel_rfl
theorem Uh:((Rows.scriptLinesUptoRow.maps==(f4.params.toList++(Rows.OpenSpec.upto Rows.scriptLinesSpec).bare.plain.varTypes checked.prog).any (checked.prog.mapsRec ·)))=true:=by kernel_rfl
theorem Ui:((Rows.scriptLinesUptoRow.ifaces==(f4.params.toList++(Rows.OpenSpec.upto Rows.scriptLinesSpec).bare.plain.varTypes checked.prog).any (checked.prog.ifacesRec ·)))=true:=by kernel_rfl
theorem Uj:((Rows.scriptLinesUptoRow.mapsOut==checked.prog.mapsAmong f4.resultTypes.toList))=true:=by kernel_rfl
theorem Uk:((Rows.scriptLinesUptoRow.loops==(f4.params.toList++(Rows.OpenSpec.upto Rows.scriptLinesSpec).bare.plain.varTypes checked.prog).any (checked.prog.loopsFrom ·)))=true:=by kernel_rfl
theorem Ul:((Rows.scriptLinesUptoRow.wideKeys==(f4.params.toList++(Rows.OpenSpec.upto Rows.scriptLinesSpec).bare.plain.varTypes checked.prog++f4.resultTypes.toList).any (checked.prog.wideKeysFrom ·)))=true:=by kernel_rfl
theorem Um:((Rows.OpenSpec.upto Rows.scriptLinesSpec).bare.vars.all (checked.prog.varReadable ·))=true:=by kernel_rfl
theorem Un:(f4.resultTypes.all (fun t=>checked.prog.readableRec t&&decide (t<checked.prog.types.size)))=true:=by kernel_rfl
theorem Uo:((Rows.scriptLinesUptoRow.ifacesOut==f4.resultTypes.toList.any (checked.prog.ifacesRec ·)))=true:=by kernel_rfl
theorem Up:((Rows.scriptLinesUptoRow.loopsOut==f4.resultTypes.toList.any (checked.prog.loopsFrom ·)))=true:=by kernel_rfl
theorem Uq:((Rows.scriptLinesUptoRow.plainKeys==checked.prog.plainKeys))=true:=by kernel_rfl
theorem Ur:(Rows.scriptLinesUptoRow.shortTexts.isNone)=true:=by kernel_rfl
theorem Us:(checked.prog.stopsHeard)=true:=by kernel_rfl
theorem Ut:(checked.prog.mayEnter)=true:=by kernel_rfl
theorem Uu:((Rows.scriptLinesUptoRow.lifted==checked.prog.liftsFinal))=true:=by kernel_rfl
theorem Uv:((checked.prog.make==some Rows.scriptLinesUptoRow.make))=true:=by kernel_rfl
theorem Uw:((Rows.scriptLinesUptoRow.pinned==Rows.scriptLinesUptoRow.pinnedBy))=true:=by kernel_rfl
theorem Ux:((Rows.scriptLinesUptoRow.veiled==(f4.params.toList++(Rows.OpenSpec.upto Rows.scriptLinesSpec).bare.plain.varTypes checked.prog++f4.resultTypes.toList).any (checked.prog.veiledRec ·)))=true:=by kernel_rfl
theorem Uy:(Rows.scriptLinesUptoRow.veiledFits checked.prog f4.params.toList (f4.params.toList++(Rows.OpenSpec.upto Rows.scriptLinesSpec).bare.plain.varTypes checked.prog++f4.resultTypes.toList))=true:=by kernel_rfl
theorem T7:joinedFacts Tryz.pinned.checked.prog 4 f4 (Rows.OpenSpec.upto Rows.scriptLinesSpec).bare Rows.scriptLinesUptoRow=true:=by
 unfold joinedFacts
 exact(ji (ji (ji (ji (ji (ji (ji (ji (ji (ji (ji (ji (ji (ji (ji (ji (ji (ji (ji (ji (ji (ji (ji (ji (ji (ji (ji (ji (ji (ji (ji UD UE) UF) UG) UH) UI) UJ) UK) UL) UM) Ue) Uf) Ug) Uh) Ui) Uj) Uk) Ul) Um) Un) Uo) Up) Uq) Ur) Us) Ut) Uu) Uv) (by kernel_rfl)) Uw) Ux) Uy)
end
end Go.Proofs.YtafomdobfmmleaaGreatDoor
