/- Lemmas and contracts, part 27. -/
import Derived.Test.YtafomdobfmmleaaGreatDoorZb26
/- The closed facts of ScriptSetups' row (a text alone: the kernel wants 9 GB for it). -/
namespace Go.Proofs.YtafomdobfmmleaaGreatDoor
open Go.ChangeShapes Go.WideShapes Go.ChangeAt Go.RowKit Go.Deep
set_option maxRecDepth 100000 in
theorem scriptSetups_facts : joinedFacts Tryz.pinned.checked.prog 3 Tryz.f3 (Rows.OpenSpec.upto Rows.scriptSetupsSpec).bare Rows.scriptSetupsUptoRow = true := by kernel_rfl
end Go.Proofs.YtafomdobfmmleaaGreatDoor
