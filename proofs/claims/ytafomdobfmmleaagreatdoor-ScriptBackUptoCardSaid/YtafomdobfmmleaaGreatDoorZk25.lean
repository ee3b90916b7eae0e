/- Lemmas and contracts, part 25. -/
import Derived.Test.YtafomdobfmmleaaGreatDoorZk24
import Derived.Deep.DeepWitnessRowRef
import Derived.LaidOnce
/- Lemmas and contracts. -/
namespace Go.Proofs.YtafomdobfmmleaaGreatDoor
open Go.ChangeShapes Go.WideShapes Go.ChangeAt Go.RowKit Go.Deep
set_option linter.unusedVariables false
def Az (d:DataW Unit):Array Value:=match d with
 |.agg l=>(l.flatMap fun
  |.lit (.int k n)=>[Value.int k n]
  |.agg m=>m.flatMap fun
   |.lit (.int k n)=>[Value.int k n]
   |_=>[]
  |_=>[]).toArray
 |_=>#[]
def YW:ByteArray:=⟨#[105,110,118,97,108,105,100,32,115,121,110,116,97,120]⟩
def YX:ByteArray:=⟨#[118,97,108,117,101,32,111,117,116,32,111,102,32,114,97,110,103,101]⟩
noncomputable def low:Nat:=(World.holding Tryz.prog default ⟨#[],#[],[]⟩).heap.size
noncomputable def EM (os:Os):World:=
 let w0:=World.holding Tryz.prog os ⟨#[.cells #[.string YW] 317,.cells #[.string YX] 317],#[],[]⟩
 let put (h:Array Obj) (g:Nat) (cs:Array Value):Array Obj:=h.modify g fun
  |.cells _ t frozen=>.cells cs t frozen
  |o=>o
 {w0 with heap:=put (put (put (put (put (put (put w0.heap rQ #[.iface 315 (.pointer (some ⟨low,0,none⟩))]) rR #[.iface 315 (.pointer (some ⟨low+1,0,none⟩))]) rX (Az Rows.laid_internal_strconv_uint64pow10)) 4 (Az Rows.laid_unicode_utf8_first)) 5 (Az Rows.laid_unicode_utf8_acceptRanges)) 6 (Az Rows.laid_math_bits_deBruijn32tab)) 7 (Az Rows.laid_math_bits_deBruijn64tab)}
set_option maxRecDepth 1000000 in
theorem T6 (os:Os) (args:Array Value):laidMet Tryz.prog Rows.scriptSetupsRow.laid ((EM os).forCall (fun _ _=>0) ⟨#[],args,[]⟩).memory:=
 laidMet_of_run (ps:=MemPlace.row ⟨6,0,none⟩ 32++(MemPlace.row ⟨7,0,none⟩ 64++(MemPlace.row ⟨rX,0,none⟩ 20++(MemPlace.row ⟨5,0,none⟩ 32++(.cell rR 0::.cell (low+1) 0::.cell rQ 0::.cell low 0::MemPlace.row ⟨4,0,none⟩ 256))))) 80 (by kernel_rfl) (by kernel_rfl) (by kernel_rfl)
theorem T7:ownKnob Tryz.prog.godebug=none:=by kernel_rfl
theorem SI:laidOutB Tryz.prog=true:=by kernel_rfl
theorem QA {W:World} (h:laidMetH Tryz.prog Rows.scriptSetupsRow.laid W) (hs:W.ShapedOpen Tryz.prog):AP W:=fun I i1 i2 i3 i4=>Qz h hs i1 i2 i3 i4
end Go.Proofs.YtafomdobfmmleaaGreatDoor
