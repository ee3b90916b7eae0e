/- Lemmas and contracts, part 1. -/
import Derived.WalkKit
import Derived.WalkLawsBesides
import Derived.WalkSpells
import Derived.Deep.RegionHeld3
import Derived.BigQuiet
import Derived.ProofKit
import Derived.OpenShut
import Derived.Lib.Hide
namespace Go.Proofs.YtafomdobfmmleaaGreatDoor
set_option linter.unusedVariables false
open Go.RowKit
abbrev B (w w':World):Prop:=Below w.heap.size w w'
theorem B.cell {w w':World} (h:B w w') {a:Addr} {v:Value} (hv:w.cell? a=some v):w'.cell? a=some v:=by
 rw[Below.cell h (World.block_lt_of_cell? w a hv)];exact hv
theorem B.trans {a b c:World} (h:B a b) (k:B b c):B a c:=Below.trans h (k.mono h.size)
theorem B.j9 (w:World) (o:Obj):B w (w.alloc o):=(Below.refl _ _).alloc (Nat.le_refl _) _
end Go.Proofs.YtafomdobfmmleaaGreatDoor
