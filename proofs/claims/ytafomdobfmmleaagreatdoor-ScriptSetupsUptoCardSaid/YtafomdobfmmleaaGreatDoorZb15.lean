/- Lemmas and contracts, part 15. -/
import Derived.Test.YtafomdobfmmleaaGreatDoorZb14
import Derived.Maps.OwnSet
import Derived.Maps.OwnOps
/- Objects in any order; many objects as one; a map as an object. No program here. -/
namespace Go.Proofs.YtafomdobfmmleaaGreatDoor
open Go.RowKit
set_option linter.unusedVariables false

end Go.Proofs.YtafomdobfmmleaaGreatDoor

/- Small words: the same or not (eqB); bytes of a reading. -/
namespace Go.Proofs.YtafomdobfmmleaaGreatDoor
open Go.RowKit Go.Deep
set_option linter.unusedVariables false

theorem tY.bs {inn : Nat → Prop} {w : World} {v : Value} {a : List UInt8} (h : tY.rd inn w [v] a) : Bs w v a := by
  obtain ⟨u, e, hb, _⟩ := h
  injection e with e _
  subst e
  exact hb
/-- are two data the same? -/
noncomputable def eqB {α : Type} (a b : α) : Bool := @decide (a = b) (Classical.propDecidable _)
theorem eqB_true {α : Type} {a b : α} (h : a = b) : eqB a b = true := by unfold eqB; exact @decide_eq_true _ (Classical.propDecidable _) h
theorem eqB_false {α : Type} {a b : α} (h : ¬ a = b) : eqB a b = false := by unfold eqB; exact @decide_eq_false _ (Classical.propDecidable _) h
theorem eqB_iff {α : Type} {a b : α} : eqB a b = true ↔ a = b := by unfold eqB; exact @decide_eq_true_iff _ (Classical.propDecidable _)
theorem sameOp_eqB (a b : OpD) : sameOp a b = eqB a b := by
  by_cases h : a = b
  · rw [eqB_true h, sameOp_iff.2 h]
  · rw [eqB_false h]
    cases hs : sameOp a b with
    | false => rfl
    | true => exact absurd (sameOp_iff.1 hs) h
theorem congrSign {a b a' b' : Int} (h : a = a') (k : b = b') : (⟨a, b⟩ : SignD) = ⟨a', b'⟩ := by rw [h, k]
theorem sign_ext {a b : SignD} (h : a.key = b.key) (k : a.digest = b.digest) : a = b := by
  obtain ⟨_, _⟩ := a
  obtain ⟨_, _⟩ := b
  exact congrSign h k
end Go.Proofs.YtafomdobfmmleaaGreatDoor

/- Worlds told by themselves (BB), and the small methods of the asker of package message: it keeps the first error. -/
namespace Go.Proofs.YtafomdobfmmleaaGreatDoor
open Go.RowKit Go.Deep
set_option linter.unusedVariables false

/-- old memory as it was: found by itself -/
class BB (w w' : World) : Prop where
  out : B w w'
instance BB.alloc (w w' : World) (o : Obj) [h : BB w w'] : BB w (w'.alloc o) := ⟨h.out.trans (B.alloc' _ _)⟩
instance BB.drew (w w' : World) [h : BB w w'] : BB w w'.drew := ⟨h.out.trans (Below.refl _ _).drew⟩
instance BB.drewN (w w' : World) (n : Nat) [h : BB w w'] : BB w (w'.drewN n) := ⟨h.out.trans ⟨rfl, rfl, rfl, Nat.le_refl _, fun _ _ => rfl⟩⟩
instance BB.refl (w : World) : BB w w := ⟨Below.refl _ _⟩
theorem St.on {W w w' : World} {L : List Asn} (h : St W w L) [k : BB w w'] : St W w' L := h.later k.out
theorem callsM {P : Program} {f : FuncId} {vs : Array Value} {w : World} {R R' : Ending → World → Prop} (h : Calls P f vs w R) (k : ∀ e w', R e w' → R' e w') : Calls P f vs w R' := h.mono k

section
variable {W w : World} {p : Nat} {e : Int} {X : List Asn}
end
end Go.Proofs.YtafomdobfmmleaaGreatDoor
