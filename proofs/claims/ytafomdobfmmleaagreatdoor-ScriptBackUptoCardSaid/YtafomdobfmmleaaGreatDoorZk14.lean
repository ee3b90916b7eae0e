/- Lemmas and contracts, part 14. -/
import Derived.Test.YtafomdobfmmleaaGreatDoorZk13
import Derived.Maps.OwnSet
import Derived.Maps.OwnOps
/- Lemmas and contracts. -/
namespace Go.Proofs.YtafomdobfmmleaaGreatDoor
open Go.RowKit
set_option linter.unusedVariables false
end Go.Proofs.YtafomdobfmmleaaGreatDoor

/- Lemmas and contracts. -/
namespace Go.Proofs.YtafomdobfmmleaaGreatDoor
open Go.RowKit Go.Deep
set_option linter.unusedVariables false
theorem tY.bs {ay:Nat->Prop} {w:World} {v:Value} {a:List UInt8} (h:tY.rd ay w [v] a):Bs w v a:=by
 obtain⟨u,e,hb,_⟩:=h
 injection e with e _
 subst e
 exact hb
noncomputable def bK {α:Type} (a b:α):Bool:=@decide (a=b) (Classical.propDecidable _)
theorem xm {α:Type} {a b:α} (h:a=b):bK a b=true:=by unfold bK;exact @decide_eq_true _ (Classical.propDecidable _) h
theorem xe {α:Type} {a b:α} (h:¬a=b):bK a b=false:=by unfold bK;exact @decide_eq_false _ (Classical.propDecidable _) h
theorem jv {α:Type} {a b:α}:bK a b=true<->a=b:=by unfold bK;exact @decide_eq_true_iff _ (Classical.propDecidable _)
theorem Rz (a b:bF):vP a b=bK a b:=by
 by_cases h:a=b
 ·rw[xm h,BR.2 h]
 ·rw[xe h]
  cases hs:vP a b with
  |false=>rfl
  |true=>exact absurd (BR.1 hs) h
end Go.Proofs.YtafomdobfmmleaaGreatDoor

/- Lemmas and contracts. -/
namespace Go.Proofs.YtafomdobfmmleaaGreatDoor
open Go.RowKit Go.Deep
set_option linter.unusedVariables false
class BB (w w':World):Prop where
 out:B w w'
instance BB.alloc (w w':World) (o:Obj) [h:BB w w']:BB w (w'.alloc o):=⟨h.out.trans (B.jV _ _)⟩
instance BB.drew (w w':World) [h:BB w w']:BB w w'.drew:=⟨h.out.trans (Below.refl _ _).drew⟩
instance BB.drewN (w w':World) (n:Nat) [h:BB w w']:BB w (w'.drewN n):=⟨h.out.trans ⟨rfl,rfl,rfl,Nat.le_refl _,fun _ _=>rfl⟩⟩
instance BB.refl (w:World):BB w w:=⟨Below.refl _ _⟩
theorem St.on {W w w':World} {L:List dG} (h:St W w L) [k:BB w w']:St W w' L:=h.later k.out
theorem cA {P:Program} {f:FuncId} {vs:Array Value} {w:World} {R R':Ending->World->Prop} (h:Calls P f vs w R) (k:∀e w',R e w'->R' e w'):Calls P f vs w R':=h.mono k
section
variable {W w:World} {p:Nat} {e:Int} {X:List dG}
end
end Go.Proofs.YtafomdobfmmleaaGreatDoor
