/- Lemmas and contracts, part 13. -/
import Derived.Test.YteaggenihhaajaaGreatZs12
import Derived.Lib.ItoaNum
/- Lines of a script in plain Lean: words, numerals, bytes as words; a line tells its act. No program here. -/
namespace Go.Proofs.YteaggenihhaajaaGreat
open Go.RowKit
set_option linter.unusedVariables false

/-! bytes as words -/
/-! numerals -/
end Go.Proofs.YteaggenihhaajaaGreat

/- An act's line in plain Lean: a line tells its act. No program here. -/
namespace Go.Proofs.YteaggenihhaajaaGreat
open Go.RowKit
set_option linter.unusedVariables false

/-- a message's bytes, its signature too -/
def fullB (m : MsgD) : List UInt8 := unsB m ++ (if m.kind = 7 then (match m.changes with | c :: _ => signP c.sign | [] => []) else if signedK m.kind then signP m.sign else [])
/-- what is wrong with a message -/
noncomputable def checkE (m : MsgD) : Int := open Classical in if msgE m = 0 ∧ ¬ m = bareF m then 100 else msgE m
theorem checkE_ok {m : MsgD} (h : checkE m = 0) : msgE m = 0 ∧ m = bareF m := by
  unfold checkE at h
  split at h
  · cases h
  · rename_i hn
    refine ⟨h, Classical.byContradiction fun e => hn ⟨h, e⟩⟩
theorem one_of {α : Type} {l : List α} (h : l.length = 1) : ∃ c, l = [c] := by
  cases l with
  | nil => simp at h
  | cons c r => cases r with
    | nil => exact ⟨c, rfl⟩
    | cons _ _ => simp at h
/-! acts -/
end Go.Proofs.YteaggenihhaajaaGreat
