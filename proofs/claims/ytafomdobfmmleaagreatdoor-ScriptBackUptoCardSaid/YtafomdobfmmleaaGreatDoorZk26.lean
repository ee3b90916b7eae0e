/- Lemmas and contracts, part 26. -/
import Derived.Test.YtafomdobfmmleaaGreatDoorZk25
/- Lemmas and contracts. -/
namespace Go.Proofs.YtafomdobfmmleaaGreatDoor
open Go.ChangeShapes Go.WideShapes Go.ChangeAt Go.RowKit Go.Deep Go.Joins
set_option maxRecDepth 100000
theorem gz {a b:Bool} (h:a=true) (k:b=true):(a&&b)=true:=by rw[h,k];rfl
theorem Qd:(Rows.scriptBackUptoRow.wf (OpenSpec.ofChange (Rows.OpenSpec.upto Rows.scriptBackSpec).bare))=true:=by kernel_rfl
theorem Qe:(laidOutB Tryz.checked.prog)=true:=by kernel_rfl
theorem Qf:(mapsRowed Tryz.checked.prog)=true:=by kernel_rfl
theorem Qg:(Tryz.f6.params.all (Tryz.checked.prog.readableRec ·))=true:=by kernel_rfl
theorem Qh:(namedTie Tryz.checked.prog Rows.scriptBackUptoRow.named (Rows.OpenSpec.upto Rows.scriptBackSpec).bare.vars)=true:=by kernel_rfl
theorem Qi:((Rows.scriptBackUptoRow.stops==[]))=true:=by kernel_rfl
theorem Qj:((Tryz.checked.prog.stops==[]))=true:=by kernel_rfl
theorem Qk:((Rows.scriptBackUptoRow.knobs==[]))=true:=by kernel_rfl
theorem Ql:((Tryz.checked.prog.stopKnobs==[]))=true:=by kernel_rfl
theorem Qm:((Rows.scriptBackUptoRow.inPlace==Tryz.checked.prog.inPlace 6))=true:=by kernel_rfl
theorem PE:((Rows.scriptBackUptoRow.unfollowed==Tryz.checked.prog.unfollowed 6))=true:=by kernel_rfl
theorem PF:((Rows.scriptBackUptoRow.recurses==Tryz.checked.prog.recurses 6))=true:=by kernel_rfl
theorem PG:((Rows.scriptBackUptoRow.named==Tryz.checked.prog.varsNamed 6))=true:=by kernel_rfl
theorem PI:((Rows.scriptBackUptoRow.maps==(Tryz.f6.params.toList++(Rows.OpenSpec.upto Rows.scriptBackSpec).bare.plain.varTypes Tryz.checked.prog).any (Tryz.checked.prog.mapsRec ·)))=true:=by kernel_rfl
theorem PJ:((Rows.scriptBackUptoRow.ifaces==(Tryz.f6.params.toList++(Rows.OpenSpec.upto Rows.scriptBackSpec).bare.plain.varTypes Tryz.checked.prog).any (Tryz.checked.prog.ifacesRec ·)))=true:=by kernel_rfl
theorem PK:((Rows.scriptBackUptoRow.mapsOut==Tryz.checked.prog.mapsAmong Tryz.f6.resultTypes.toList))=true:=by kernel_rfl
theorem PM:((Rows.scriptBackUptoRow.loops==(Tryz.f6.params.toList++(Rows.OpenSpec.upto Rows.scriptBackSpec).bare.plain.varTypes Tryz.checked.prog).any (Tryz.checked.prog.loopsFrom ·)))=true:=by kernel_rfl
theorem PN:((Rows.scriptBackUptoRow.wideKeys==(Tryz.f6.params.toList++(Rows.OpenSpec.upto Rows.scriptBackSpec).bare.plain.varTypes Tryz.checked.prog++Tryz.f6.resultTypes.toList).any (Tryz.checked.prog.wideKeysFrom ·)))=true:=by kernel_rfl
theorem PO:((Rows.OpenSpec.upto Rows.scriptBackSpec).bare.vars.all (Tryz.checked.prog.varReadable ·))=true:=by kernel_rfl
theorem PR:(Tryz.f6.resultTypes.all (fun t=>Tryz.checked.prog.readableRec t&&decide (t<Tryz.checked.prog.types.size)))=true:=by kernel_rfl
theorem PS:((Rows.scriptBackUptoRow.ifacesOut==Tryz.f6.resultTypes.toList.any (Tryz.checked.prog.ifacesRec ·)))=true:=by kernel_rfl
theorem PU:((Rows.scriptBackUptoRow.loopsOut==Tryz.f6.resultTypes.toList.any (Tryz.checked.prog.loopsFrom ·)))=true:=by kernel_rfl
theorem PV:((Rows.scriptBackUptoRow.plainKeys==Tryz.checked.prog.plainKeys))=true:=by kernel_rfl
theorem PW:(Rows.scriptBackUptoRow.shortTexts.isNone)=true:=by kernel_rfl
theorem PX:(Tryz.checked.prog.stopsHeard)=true:=by kernel_rfl
theorem PY:(Tryz.checked.prog.mayEnter)=true:=by kernel_rfl
theorem PZ:((Rows.scriptBackUptoRow.lifted==Tryz.checked.prog.liftsFinal))=true:=by kernel_rfl
theorem P0:((Tryz.checked.prog.make==some Rows.scriptBackUptoRow.make))=true:=by kernel_rfl
theorem P1:((Rows.scriptBackUptoRow.pinned==Rows.scriptBackUptoRow.pinnedBy))=true:=by kernel_rfl
theorem P2:((Rows.scriptBackUptoRow.veiled==(Tryz.f6.params.toList++(Rows.OpenSpec.upto Rows.scriptBackSpec).bare.plain.varTypes Tryz.checked.prog++Tryz.f6.resultTypes.toList).any (Tryz.checked.prog.veiledRec ·)))=true:=by kernel_rfl
theorem P3:(Rows.scriptBackUptoRow.veiledFits Tryz.checked.prog Tryz.f6.params.toList (Tryz.f6.params.toList++(Rows.OpenSpec.upto Rows.scriptBackSpec).bare.plain.varTypes Tryz.checked.prog++Tryz.f6.resultTypes.toList))=true:=by kernel_rfl
theorem Pp:joinedFacts Tryz.pinned.checked.prog 6 Tryz.f6 (Rows.OpenSpec.upto Rows.scriptBackSpec).bare Rows.scriptBackUptoRow=true:=by
 unfold joinedFacts
 exact(gz (gz (gz (gz (gz (gz (gz (gz (gz (gz (gz (gz (gz (gz (gz (gz (gz (gz (gz (gz (gz (gz (gz (gz (gz (gz (gz (gz (gz (gz (gz Qd Qe) Qf) Qg) Qh) Qi) Qj) Qk) Ql) Qm) PE) PF) PG) PI) PJ) PK) PM) PN) PO) PR) PS) PU) PV) PW) PX) PY) PZ) P0) (by kernel_rfl)) P1) P2) P3)
end Go.Proofs.YtafomdobfmmleaaGreatDoor
