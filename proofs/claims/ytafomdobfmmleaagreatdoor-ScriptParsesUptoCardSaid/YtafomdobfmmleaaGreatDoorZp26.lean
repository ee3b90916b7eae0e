/- Lemmas and contracts, part 26. -/
import Derived.Test.YtafomdobfmmleaaGreatDoorZp25
import Derived.Deep.DeepWitnessRowRef
import Derived.LaidOnce
namespace Go.Proofs.YtafomdobfmmleaaGreatDoor
set_option linter.unusedVariables false
open Go.Proofs.Tryz
set_option maxHeartbeats 20000000
section
open Go.ChangeShapes Go.WideShapes Go.ChangeAt Go.RowKit Go.Deep
def DN (d:DataW Unit):Array Value:=match d with
 |.agg l=>(l.flatMap fun
  |.lit (.int k n)=>[Value.int k n]
  |.agg m=>m.flatMap fun
   |.lit (.int k n)=>[Value.int k n]
   |_=>[]
  |_=>[]).toArray
 |_=>#[]
def afl:ByteArray:=⟨#[105,110,118,97,108,105,100,32,115,121,110,116,97,120]⟩
def afm:ByteArray:=⟨#[118,97,108,117,101,32,111,117,116,32,111,102,32,114,97,110,103,101]⟩
noncomputable def low:Nat:=(World.holding prog default ⟨#[],#[],[]⟩).heap.size
noncomputable def Ja (os:Os):World:=
 let w0:=World.holding prog os ⟨#[.cells #[.string afl] 317,.cells #[.string afm] 317],#[],[]⟩
 let put (h:Array Obj) (g:Nat) (cs:Array Value):Array Obj:=h.modify g fun
  |.cells _ t frozen=>.cells cs t frozen
  |o=>o
 {w0 with heap:=put (put (put (put (put (put (put w0.heap uI #[.iface 315 (.pointer (some ⟨low,0,none⟩))]) uJ #[.iface 315 (.pointer (some ⟨low+1,0,none⟩))]) uX (DN Rows.laid_internal_strconv_uint64pow10)) 4 (DN Rows.laid_unicode_utf8_first)) 5 (DN Rows.laid_unicode_utf8_acceptRanges)) 6 (DN Rows.laid_math_bits_deBruijn32tab)) 7 (DN Rows.laid_math_bits_deBruijn64tab)}
set_option maxRecDepth 1000000 in
theorem ZF (os:Os) (args:Array Value):laidMet prog Rows.scriptSetupsRow.laid ((Ja os).forCall (fun _ _=>0) ⟨#[],args,[]⟩).memory:=
 laidMet_of_run (ps:=MemPlace.row ⟨6,0,none⟩ 32++(MemPlace.row ⟨7,0,none⟩ 64++(MemPlace.row ⟨uX,0,none⟩ 20++(MemPlace.row ⟨5,0,none⟩ 32++(.cell uJ 0::.cell (low+1) 0::.cell uI 0::.cell low 0::MemPlace.row ⟨4,0,none⟩ 256))))) 80 (by kernel_rfl) (by kernel_rfl) (by kernel_rfl)
theorem ZG:ownKnob prog.godebug=none:=by kernel_rfl
theorem XU:laidOutB prog=true:=by kernel_rfl
theorem Vi {W:World} (h:laidMetH prog Rows.scriptSetupsRow.laid W) (hs:W.ShapedOpen prog):D1 W:=fun I i1 i2 i3 i4=>Vh h hs i1 i2 i3 i4
end
section
open Go.ChangeShapes Go.WideShapes Go.ChangeAt Go.RowKit Go.Deep Go.Joins
set_option maxRecDepth 100000
theorem afT {a b:Bool} (h:a=true) (k:b=true):(a&&b)=true:=by rw[h,k];rfl
theorem ahl:(Rows.scriptParsesUptoRow.wf (OpenSpec.ofChange (Rows.OpenSpec.upto Rows.scriptParsesSpec).bare))=true:=by kernel_rfl
theorem ahm:(laidOutB checked.prog)=true:=by kernel_rfl
theorem ahn:(mapsRowed checked.prog)=true:=by kernel_rfl
theorem aho:(f5.params.all (checked.prog.readableRec ·))=true:=by kernel_rfl
theorem ahp:(namedTie checked.prog Rows.scriptParsesUptoRow.named (Rows.OpenSpec.upto Rows.scriptParsesSpec).bare.vars)=true:=by kernel_rfl
theorem ahq:((Rows.scriptParsesUptoRow.stops==[]))=true:=by kernel_rfl
theorem ahr:((checked.prog.stops==[]))=true:=by kernel_rfl
theorem ahs:((Rows.scriptParsesUptoRow.knobs==[]))=true:=by kernel_rfl
theorem aht:((checked.prog.stopKnobs==[]))=true:=by kernel_rfl
theorem ahu:((Rows.scriptParsesUptoRow.inPlace==checked.prog.inPlace 5))=true:=by kernel_rfl
theorem ag0:((Rows.scriptParsesUptoRow.unfollowed==checked.prog.unfollowed 5))=true:=by kernel_rfl
theorem ag1:((Rows.scriptParsesUptoRow.recurses==checked.prog.recurses 5))=true:=by kernel_rfl
theorem ag2:((Rows.scriptParsesUptoRow.named==checked.prog.varsNamed 5))=true:=by kernel_rfl
theorem ag3:((Rows.scriptParsesUptoRow.maps==(f5.params.toList++(Rows.OpenSpec.upto Rows.scriptParsesSpec).bare.plain.varTypes checked.prog).any (checked.prog.mapsRec ·)))=true:=by kernel_rfl
theorem ag4:((Rows.scriptParsesUptoRow.ifaces==(f5.params.toList++(Rows.OpenSpec.upto Rows.scriptParsesSpec).bare.plain.varTypes checked.prog).any (checked.prog.ifacesRec ·)))=true:=by kernel_rfl
theorem ag5:((Rows.scriptParsesUptoRow.mapsOut==checked.prog.mapsAmong f5.resultTypes.toList))=true:=by kernel_rfl
theorem ag6:((Rows.scriptParsesUptoRow.loops==(f5.params.toList++(Rows.OpenSpec.upto Rows.scriptParsesSpec).bare.plain.varTypes checked.prog).any (checked.prog.loopsFrom ·)))=true:=by kernel_rfl
theorem ag7:((Rows.scriptParsesUptoRow.wideKeys==(f5.params.toList++(Rows.OpenSpec.upto Rows.scriptParsesSpec).bare.plain.varTypes checked.prog++f5.resultTypes.toList).any (checked.prog.wideKeysFrom ·)))=true:=by kernel_rfl
theorem ag8:((Rows.OpenSpec.upto Rows.scriptParsesSpec).bare.vars.all (checked.prog.varReadable ·))=true:=by kernel_rfl
theorem ag9:(f5.resultTypes.all (fun t=>checked.prog.readableRec t&&decide (t<checked.prog.types.size)))=true:=by kernel_rfl
theorem aha:((Rows.scriptParsesUptoRow.ifacesOut==f5.resultTypes.toList.any (checked.prog.ifacesRec ·)))=true:=by kernel_rfl
theorem ahb:((Rows.scriptParsesUptoRow.loopsOut==f5.resultTypes.toList.any (checked.prog.loopsFrom ·)))=true:=by kernel_rfl
theorem ahc:((Rows.scriptParsesUptoRow.plainKeys==checked.prog.plainKeys))=true:=by kernel_rfl
theorem ahd:(Rows.scriptParsesUptoRow.shortTexts.isNone)=true:=by kernel_rfl
theorem ahe:(checked.prog.stopsHeard)=true:=by kernel_rfl
theorem ahf:(checked.prog.mayEnter)=true:=by kernel_rfl
theorem ahg:((Rows.scriptParsesUptoRow.lifted==checked.prog.liftsFinal))=true:=by kernel_rfl
theorem ahh:((checked.prog.make==some Rows.scriptParsesUptoRow.make))=true:=by kernel_rfl
theorem ahi:((Rows.scriptParsesUptoRow.pinned==Rows.scriptParsesUptoRow.pinnedBy))=true:=by kernel_rfl
theorem ahj:((Rows.scriptParsesUptoRow.veiled==(f5.params.toList++(Rows.OpenSpec.upto Rows.scriptParsesSpec).bare.plain.varTypes checked.prog++f5.resultTypes.toList).any (checked.prog.veiledRec ·)))=true:=by kernel_rfl
theorem ahk:(Rows.scriptParsesUptoRow.veiledFits checked.prog f5.params.toList (f5.params.toList++(Rows.OpenSpec.upto Rows.scriptParsesSpec).bare.plain.varTypes checked.prog++f5.resultTypes.toList))=true:=by kernel_rfl
theorem agW:joinedFacts Tryz.pinned.checked.prog 5 f5 (Rows.OpenSpec.upto Rows.scriptParsesSpec).bare Rows.scriptParsesUptoRow=true:=by
 unfold joinedFacts
 exact(afT (afT (afT (afT (afT (afT (afT (afT (afT (afT (afT (afT (afT (afT (afT (afT (afT (afT (afT (afT (afT (afT (afT (afT (afT (afT (afT (afT (afT (afT (afT ahl ahm) ahn) aho) ahp) ahq) ahr) ahs) aht) ahu) ag0) ag1) ag2) ag3) ag4) ag5) ag6) ag7) ag8) ag9) aha) ahb) ahc) ahd) ahe) ahf) ahg) ahh) (by kernel_rfl)) ahi) ahj) ahk)
end
end Go.Proofs.YtafomdobfmmleaaGreatDoor
