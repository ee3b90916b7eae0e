/- Lemmas and contracts, part 7. -/
import Derived.Test.YteaggenihhaajaaGreatZk6
import Derived.Lib.ItoaNum
/- Lines of a script in plain Lean: words, numerals, bytes as words; a line tells its act. No program here. -/
namespace Go.Proofs.YteaggenihhaajaaGreat
open Go.RowKit
set_option linter.unusedVariables false

/-! bytes as words -/
/-! numerals -/
end Go.Proofs.YteaggenihhaajaaGreat

/- An act's line in plain Lean: a line tells its act. No program here. -/
namespace Go.Proofs.YteaggenihhaajaaGreat
open Go.RowKit
set_option linter.unusedVariables false

/-- a message's bytes, its signature too -/
def fullB (m : MsgD) : List UInt8 := unsB m ++ (if m.kind = 7 then (match m.changes with | c :: _ => signP c.sign | [] => []) else if signedK m.kind then signP m.sign else [])
/-- what is wrong with a message -/
noncomputable def checkE (m : MsgD) : Int := open Classical in if msgE m = 0 ∧ ¬ m = bareF m then 100 else msgE m
theorem checkE_ok {m : MsgD} (h : checkE m = 0) : msgE m = 0 ∧ m = bareF m := by
  unfold checkE at h
  split at h
  · cases h
  · rename_i hn
    refine ⟨h, Classical.byContradiction fun e => hn ⟨h, e⟩⟩
theorem one_of {α : Type} {l : List α} (h : l.length = 1) : ∃ c, l = [c] := by
  cases l with
  | nil => simp at h
  | cons c r => cases r with
    | nil => exact ⟨c, rfl⟩
    | cons _ _ => simp at h
/-! acts -/
end Go.Proofs.YteaggenihhaajaaGreat

/- A core's bytes in plain Lean, and that they tell it. No program here. -/
namespace Go.Proofs.YteaggenihhaajaaGreat
open Go.RowKit
set_option linter.unusedVariables false

theorem bareF_sign (m : MsgD) : (bareF m).sign = if signedK m.kind then m.sign else zSign := by
  unfold bareF
  simp only [apply_ite MsgD.sign, ite_self]
/-! a core -/
def nOk (n : Int) : Prop := 0 ≤ n ∧ n ≤ 9007199254740992
/-- the bytes of a header, as a block has them -/
def hdrB (h : HeaderD) : List UInt8 := 3 :: numsB [h.seq, h.prev, h.batch, h.root, h.state]
def hdrOk (h : HeaderD) : Prop := nOk h.seq ∧ nOk h.prev ∧ nOk h.batch ∧ nOk h.root ∧ nOk h.state
def flagB (b : Bool) : List UInt8 := if b then enc 1 else enc 0
/-- a list of a core -/
def putsB {α : Type} (f : α → List UInt8) (l : List α) : List UInt8 := encI (l.length : Int) ++ l.flatMap f
def putsOk {α : Type} (P : α → Prop) (l : List α) : Prop := l.length ≤ 4096 ∧ ∀ x ∈ l, P x
def kCertB (c : CertD) : List UInt8 := byF (certB c)
def kCertOk (c : CertD) : Prop := certE c = 0 ∧ (certB c).length ≤ 262144
def kChgB (c : ChangeD) : List UInt8 := byF (chgB c)
def kChgOk (c : ChangeD) : Prop := chgE c = 0 ∧ (chgB c).length ≤ 262144
def kMsgB (m : MsgD) : List UInt8 := byF (fullB m)
def kMsgOk (m : MsgD) : Prop := checkE m = 0 ∧ (fullB m).length ≤ 262144
def placedB (p : PlacedD) : List UInt8 := byF p.topic ++ numsB [p.offset] ++ byF p.record
def placedOk (p : PlacedD) : Prop := nOk p.offset
def blockB (x : BlockD) : List UInt8 := byF (hdrB x.header) ++ batchP x.batch ++ putsB placedB x.placed
def blockOk (x : BlockD) : Prop := hdrOk x.header ∧ batchE x.batch = 0 ∧ putsOk placedOk x.placed
def kVoteB (v : VoteD) : List UInt8 := numsB [v.seq, v.digest] ++ signP v.sign
def kVoteOk (v : VoteD) : Prop := nOk v.seq ∧ nOk v.digest ∧ signE v.sign = 0
def markB (m : MarkD) : List UInt8 := byF (hdrB m.header) ++ byF m.topics
def markOk (m : MarkD) : Prop := hdrOk m.header
def voteOfB (v : VoteOfD) : List UInt8 := numsB [v.digest] ++ signP v.sign
def voteOfOk (v : VoteOfD) : Prop := nOk v.digest ∧ signE v.sign = 0
def slotB (s : SlotD) : List UInt8 := numsB [s.seq] ++ flagB s.has ++ numsB [s.digest] ++ (if s.has then signP s.firstS ++ batchP s.batch else []) ++ putsB voteOfB s.prepares ++ putsB voteOfB s.commits
def slotOk (s : SlotD) : Prop := nOk s.seq ∧ nOk s.digest ∧ (s.has = true → signE s.firstS = 0 ∧ batchE s.batch = 0) ∧ (s.has = false → s.firstS = zSign ∧ s.batch = []) ∧ putsOk voteOfOk s.prepares ∧ putsOk voteOfOk s.commits
def kPrepB (p : PreparedD) : List UInt8 := numsB [p.view, p.seq, p.digest] ++ signP p.firstS ++ putsB signP p.signs ++ batchP p.batch
def kPrepOk (p : PreparedD) : Prop := nOk p.view ∧ nOk p.seq ∧ nOk p.digest ∧ signE p.firstS = 0 ∧ putsOk (fun s => signE s = 0) p.signs ∧ batchE p.batch = 0
def waitB (s : SignedD) : List UInt8 := batchP [s]
def waitOk (s : SignedD) : Prop := batchE [s] = 0
def coreB (c : CoreD) : List UInt8 :=
  numsB [c.view] ++ flagB c.active ++ numsB [c.ticks, c.floor] ++ byF (hdrB c.base) ++ putsB blockB c.blocks ++ byF c.topics ++ kCertB c.points.stable ++ putsB kVoteB c.points.votes ++ putsB kCertB c.points.certs ++ putsB kCertB c.certs ++
    putsB markB c.marks ++ putsB slotB c.slots ++ putsB kPrepB c.held ++ putsB kChgB c.changes ++ putsB waitB c.pool.waiting ++ numsB [c.timer.length, c.timer.left] ++ putsB kMsgB c.news ++ numsB [c.wants]
/-! the forms of a core's parts tell them -/
theorem hdrB_len {h : HeaderD} (hh : hdrOk h) : (hdrB h).length ≤ 60 := by
  obtain ⟨a1, a2, a3, a4, a5⟩ := hh
  unfold nOk at *
  unfold hdrB numsB
  have q : ∀ n : Int, 0 ≤ n ∧ n ≤ 9007199254740992 → (encI n).length ≤ 10 := fun n hn => by
    unfold encI
    exact encLe10 _ (by omega)
  have := flat_len (f := encI) (K := 10) [h.seq, h.prev, h.batch, h.root, h.state] (fun x hx => q x (by simp at hx; omega))
  simp only [List.length_cons, List.length_nil] at this ⊢
  omega
/-- may a core be written? -/
def coreOk (c : CoreD) : Prop :=
  nOk c.view ∧ nOk c.ticks ∧ nOk c.floor ∧ hdrOk c.base ∧ putsOk blockOk c.blocks ∧ kCertOk c.points.stable ∧ putsOk kVoteOk c.points.votes ∧ putsOk kCertOk c.points.certs ∧ putsOk kCertOk c.certs ∧
    putsOk markOk c.marks ∧ putsOk slotOk c.slots ∧ putsOk kPrepOk c.held ∧ putsOk kChgOk c.changes ∧ putsOk waitOk c.pool.waiting ∧ nOk c.timer.length ∧ nOk c.timer.left ∧ putsOk kMsgOk c.news ∧ nOk c.wants
end Go.Proofs.YteaggenihhaajaaGreat
