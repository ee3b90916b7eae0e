/- Lemmas and contracts, part 14. -/
import Derived.Test.YtafomdobfmmleaaGreatDoorZp13
import Derived.Maps.OwnSet
import Derived.Maps.OwnOps
namespace Go.Proofs.YtafomdobfmmleaaGreatDoor
set_option linter.unusedVariables false
open Go.RowKit
section
open Go.RowKit Go.Deep
theorem tY.bs {aG:Nat->Prop} {w:World} {v:Value} {a:List UInt8} (h:tY.rd aG w [v] a):Bs w v a:=by
 obtain⟨u,e,hb,_⟩:=h
 injection e with e _
 subst e
 exact hb
noncomputable def cx {α:Type} (a b:α):Bool:=@decide (a=b) (Classical.propDecidable _)
theorem zz {α:Type} {a b:α} (h:a=b):cx a b=true:=by unfold cx;exact @decide_eq_true _ (Classical.propDecidable _) h
theorem Bi {α:Type} {a b:α} (h:¬a=b):cx a b=false:=by unfold cx;exact @decide_eq_false _ (Classical.propDecidable _) h
theorem kU {α:Type} {a b:α}:cx a b=true<->a=b:=by unfold cx;exact @decide_eq_true_iff _ (Classical.propDecidable _)
theorem WO (a b:bt):rC a b=cx a b:=by
 by_cases h:a=b
 ·rw[zz h,E6.2 h]
 ·rw[Bi h]
  cases hs:rC a b with
  |false=>rfl
  |true=>exact absurd (E6.1 hs) h
end
section
open Go.RowKit Go.Deep
class BB (w w':World):Prop where
 out:B w w'
instance BB.alloc (w w':World) (o:Obj) [h:BB w w']:BB w (w'.alloc o):=⟨h.out.trans (B.j9 _ _)⟩
instance BB.drew (w w':World) [h:BB w w']:BB w w'.drew:=⟨h.out.trans (Below.refl _ _).drew⟩
instance BB.drewN (w w':World) (n:Nat) [h:BB w w']:BB w (w'.drewN n):=⟨h.out.trans ⟨rfl,rfl,rfl,Nat.le_refl _,fun _ _=>rfl⟩⟩
instance BB.refl (w:World):BB w w:=⟨Below.refl _ _⟩
theorem St.on {W w w':World} {L:List gi} (h:St W w L) [k:BB w w']:St W w' L:=h.later k.out
theorem qC {P:Program} {f:FuncId} {vs:Array Value} {w:World} {R R':Ending->World->Prop} (h:Calls P f vs w R) (k:∀e w',R e w'->R' e w'):Calls P f vs w R':=h.mono k
section
variable {W w:World} {p:Nat} {e:Int} {X:List gi}
end
end
end Go.Proofs.YtafomdobfmmleaaGreatDoor
