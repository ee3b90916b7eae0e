/- Lemmas and contracts, part 13. -/
import Derived.Test.YtafomdobfmmleaaGreatDoorZb12
import Derived.Laws.RangeAny
/- Operations, requests, signatures and batches in plain Lean: what may be, and their bytes. No program here. -/
namespace Go.Proofs.YtafomdobfmmleaaGreatDoor
open Go.RowKit
set_option linter.unusedVariables false

/-- the first error of two -/
def orE (a b : Int) : Int := if a = 0 then b else a
theorem orE_zero {a b : Int} : orE a b = 0 ↔ a = 0 ∧ b = 0 := by
  unfold orE
  split
  · rename_i h; simp [h]
  · rename_i h; simp [h]
def badR (r : Nat) : Bool := decide (r < 33) || (decide (127 ≤ r) && decide (r ≤ 159)) || decide (r = 47) || decide (r = 65533)
/-- the runes from a place on, counted; none: one may not be -/
def runesGo (s : ByteArray) : Nat → Nat → Nat → Option Nat
  | 0, _, n => some n
  | k + 1, pos, n => if pos < s.size then if badR (Utf8.decode s pos).1 then none else runesGo s k (pos + (Utf8.decode s pos).2) (n + 1) else some n
def runesF (s : List UInt8) : Nat :=
  match runesGo (bstr s) (s.length + 1) 0 0 with
  | none => 0
  | some n => if 16 < n then 0 else n
def nameF (s : List UInt8) : Bool := decide (0 < runesF s)
/-- an operation with the fields of its kind alone -/
def onlyF (o : OpD) : OpD :=
  if o.kind = 1 then ⟨1, o.topic, [], 0, []⟩
  else if o.kind = 2 then ⟨2, o.topic, [], 0, o.records⟩
  else if o.kind = 3 then ⟨3, o.topic, o.group, o.offset, []⟩
  else if o.kind = 4 then ⟨4, o.topic, [], o.offset, []⟩
  else ⟨o.kind, [], [], 0, []⟩
def kindOk (o : OpD) : Bool := decide (0 ≤ o.kind ∧ o.kind ≤ 4)
theorem OpD.ext_iff' {a b : OpD} : a = b ↔ a.kind = b.kind ∧ a.topic = b.topic ∧ a.group = b.group ∧ a.offset = b.offset ∧ a.records = b.records := by
  cases a; cases b; simp
def sameOp (a b : OpD) : Bool := decide (a.kind = b.kind) && decide (a.topic = b.topic) && decide (a.group = b.group) && decide (a.offset = b.offset) && decide (a.records = b.records)
theorem sameOp_iff {a b : OpD} : sameOp a b = true ↔ a = b := by
  rw [OpD.ext_iff']; simp [sameOp, and_assoc]
def longF (o : OpD) : Bool := o.records.any fun r => decide (64 < r.length)
/-- what is wrong with an operation -/
def opE (o : OpD) : Int :=
  if kindOk o = false ∨ sameOp o (onlyF o) = false then 60
  else if o.kind ≠ 0 ∧ nameF o.topic = false then 61
  else if o.kind = 3 ∧ nameF o.group = false then 61
  else if o.kind = 2 ∧ (o.records.length < 1 ∨ 4 < o.records.length ∨ longF o = true) then 62
  else if o.offset < 0 ∨ 9007199254740992 < o.offset then 60
  else 0
/-- a byte string's form -/
def byF (b : List UInt8) : List UInt8 := enc b.length ++ b
/-- an operation's bytes -/
def opB (o : OpD) : List UInt8 :=
  enc o.kind.toNat ++ (if o.kind = 0 then [] else byF o.topic) ++
    (if o.kind = 2 then enc o.records.length ++ o.records.flatMap byF else if o.kind = 3 then byF o.group ++ enc o.offset.toNat else if o.kind = 4 then enc o.offset.toNat else [])
def signE (s : SignD) : Int := if s.key < 0 ∨ 21 ≤ s.key ∨ s.digest < 1 ∨ 9007199254740992 < s.digest then 81 else 0
def reqE (x : RequestD) : Int := if x.client < 0 ∨ 8 ≤ x.client ∨ x.time < 1 ∨ 9007199254740992 < x.time then 80 else opE x.op
def reqB (x : RequestD) : List UInt8 := enc x.client.toNat ++ enc x.time.toNat ++ opB x.op
def signB (s : SignD) : List UInt8 := enc s.key.toNat ++ enc s.digest.toNat
/-- the first error of the requests and signatures of a batch -/
def partsE : List SignedD → Int
  | [] => 0
  | s :: r => orE (reqE s.request) (orE (signE s.sign) (partsE r))
def twin (a b : SignedD) : Bool := decide (a.request.client = b.request.client) && decide (a.request.time = b.request.time)
def twinsF (l : List SignedD) : Bool := (List.range l.length).any fun i => (List.range i).any fun k => match l[i]?, l[k]? with | some a, some b => twin a b | _, _ => false
def batchE (l : List SignedD) : Int := if 4 < l.length then 3 else orE (partsE l) (if twinsF l then 5 else 0)
def signedB (s : SignedD) : List UInt8 := byF (reqB s.request) ++ signB s.sign
def batchB (l : List SignedD) : List UInt8 := enc l.length ++ l.flatMap signedB
end Go.Proofs.YtafomdobfmmleaaGreatDoor

/- Messages in plain Lean: what may be, and their bytes. No program here. -/
namespace Go.Proofs.YtafomdobfmmleaaGreatDoor
open Go.RowKit
set_option linter.unusedVariables false

theorem orE_assoc (a b c : Int) : orE (orE a b) c = orE a (orE b c) := by
  unfold orE
  by_cases h : a = 0 <;> simp [h]
theorem orE_z (a : Int) : orE a 0 = a := by unfold orE; split <;> simp_all
theorem z_orE (a : Int) : orE 0 a = a := by simp [orE]
/-- the first error of a list -/
def listE {α : Type} (f : α → Int) : List α → Int
  | [] => 0
  | x :: r => orE (f x) (listE f r)
theorem listE_snoc {α : Type} (f : α → Int) (l : List α) (x : α) : listE f (l ++ [x]) = orE (listE f l) (f x) := by
  induction l with
  | nil => simp [listE, orE_z, z_orE]
  | cons y r ih => simp only [List.cons_append, listE, ih, orE_assoc]
theorem listE_zero {α : Type} {f : α → Int} {l : List α} : listE f l = 0 ↔ ∀ x ∈ l, f x = 0 := by
  induction l with
  | nil => simp [listE]
  | cons y r ih => simp [listE, orE_zero, ih]
def rangeE (n least most : Int) : Int := if n < least ∨ most < n then 100 else 0
def numE (n : Int) : Int := rangeE n 0 9007199254740992
def posE (n : Int) : Int := rangeE n 1 9007199254740992
def brokE (n : Int) : Int := rangeE n 0 12
def manyE (n : Nat) (most : Int) : Int := rangeE (n : Int) 0 most
def nameE (s : List UInt8) : Int := if nameF s then 0 else 61
def signsE (l : List SignD) : Int := orE (manyE l.length 13) (listE signE l)
def certE (c : CertD) : Int :=
  orE (numE c.seq) (orE (numE c.digest) (orE (if (decide (c.seq = 0) != decide (c.digest = 0)) || (decide (c.seq = 0) && decide (0 < c.signs.length)) then 100 else 0) (signsE c.signs)))
def prepE (p : PreparedD) : Int := orE (numE p.view) (orE (posE p.seq) (orE (posE p.digest) (orE (signE p.firstS) (orE (signsE p.signs) (batchE p.batch)))))
def chgE (c : ChangeD) : Int := orE (posE c.view) (orE (brokE c.src) (orE (certE c.cert) (orE (manyE c.above.length 8) (orE (listE prepE c.above) (signE c.sign)))))
def headE (h : HeaderD) : Int := orE (posE h.seq) (orE (numE h.prev) (orE (numE h.batch) (orE (numE h.root) (numE h.state))))
def proofE (p : ProofD) : Int :=
  orE (nameE p.topic) (orE (numE p.offset) (orE (manyE p.record.length 64) (orE (manyE p.headers.length 64) (orE (listE headE p.headers) (orE (numE p.index) (orE (rangeE p.count 0 16) (orE (rangeE p.index 0 (p.count - 1)) (orE (manyE p.path.length 8) (orE (listE numE p.path) (certE p.cert))))))))))
def voteE (m : MsgD) : Int := orE (brokE m.src) (orE (numE m.view) (orE (posE m.seq) (posE m.digest)))
def entryE (x : EntryD) : Int := orE (numE x.view) (orE (posE x.seq) (orE (batchE x.batch) (signE x.sign)))
def newE (m : MsgD) : Int := orE (brokE m.src) (orE (posE m.view) (orE (manyE m.changes.length 13) (orE (listE chgE m.changes) (orE (manyE m.entries.length 8) (listE entryE m.entries)))))
def viewE (m : MsgD) (c : ChangeD) : Int := orE (chgE c) (if c.src ≠ m.src ∨ c.view ≠ m.view then 100 else 0)
/-- messages of a kind have a signature of their own -/
def signedK (k : Int) : Bool := decide (k = 2) || decide (k = 3) || decide (k = 4) || decide (k = 5) || decide (k = 6) || decide (k = 8) || decide (k = 9)
def kindE (m : MsgD) : Int :=
  if m.kind = 1 then orE (rangeE (m.batch.length : Int) 1 1) (batchE m.batch)
  else if m.kind = 2 then orE (voteE m) (batchE m.batch)
  else if m.kind = 3 then voteE m
  else if m.kind = 4 then voteE m
  else if m.kind = 5 then orE (brokE m.src) (orE (numE m.view) (orE (rangeE m.client 0 7) (orE (numE m.time) (orE (rangeE m.result.err 0 65536) (numE m.result.offset)))))
  else if m.kind = 6 then orE (brokE m.src) (orE (posE m.seq) (posE m.digest))
  else if m.kind = 7 then orE (rangeE (m.changes.length : Int) 1 1) (listE (viewE m) m.changes)
  else if m.kind = 8 then newE m
  else if m.kind = 9 then orE (brokE m.src) (numE m.seq)
  else if m.kind = 10 then orE (brokE m.src) (orE (certE m.cert) (manyE m.state.length 262144))
  else if m.kind = 11 then orE (rangeE m.client 0 7) (orE (nameE m.topic) (numE m.offset))
  else if m.kind = 12 then orE (brokE m.src) (proofE m.proof)
  else 100
def msgE (m : MsgD) : Int := orE (kindE m) (if signedK m.kind then signE m.sign else 0)
/-! the zero values -/
def zSign : SignD := ⟨0, 0⟩
def zResult : ResultD := ⟨0, 0⟩
def zCert : CertD := ⟨0, 0, []⟩
def zProof : ProofD := ⟨[], 0, [], [], 0, 0, [], zCert⟩
def zMsg : MsgD := ⟨0, 0, 0, 0, 0, 0, 0, zResult, [], zCert, [], [], [], [], 0, zProof, zSign⟩
def zOp : OpD := ⟨0, [], [], 0, []⟩
/-- a message with the fields of its kind alone -/
def bareF (m : MsgD) : MsgD :=
  let s := if signedK m.kind then m.sign else zSign
  if m.kind = 1 then { zMsg with kind := m.kind, batch := m.batch, sign := s }
  else if m.kind = 2 then { zMsg with kind := m.kind, src := m.src, view := m.view, seq := m.seq, digest := m.digest, batch := m.batch, sign := s }
  else if m.kind = 3 ∨ m.kind = 4 then { zMsg with kind := m.kind, src := m.src, view := m.view, seq := m.seq, digest := m.digest, sign := s }
  else if m.kind = 5 then { zMsg with kind := m.kind, src := m.src, view := m.view, client := m.client, time := m.time, result := m.result, sign := s }
  else if m.kind = 6 then { zMsg with kind := m.kind, src := m.src, seq := m.seq, digest := m.digest, sign := s }
  else if m.kind = 7 then { zMsg with kind := m.kind, src := m.src, view := m.view, changes := m.changes, sign := s }
  else if m.kind = 8 then { zMsg with kind := m.kind, src := m.src, view := m.view, changes := m.changes, entries := m.entries, sign := s }
  else if m.kind = 9 then { zMsg with kind := m.kind, src := m.src, seq := m.seq, sign := s }
  else if m.kind = 10 then { zMsg with kind := m.kind, src := m.src, cert := m.cert, state := m.state, sign := s }
  else if m.kind = 11 then { zMsg with kind := m.kind, client := m.client, topic := m.topic, offset := m.offset, sign := s }
  else if m.kind = 12 then { zMsg with kind := m.kind, src := m.src, proof := m.proof, sign := s }
  else { zMsg with kind := m.kind, src := m.src, sign := s }
/-! bytes -/
/-- the form of an int64 turned to a uint64 -/
def encI (n : Int) : List UInt8 := enc (n % 18446744073709551616).toNat
theorem encI_nat {n : Int} (h : 0 ≤ n) (h2 : n < 18446744073709551616) : encI n = enc n.toNat := by
  unfold encI; rw [Int.emod_eq_of_lt h h2]
def numsB (l : List Int) : List UInt8 := l.flatMap encI
def signP (s : SignD) : List UInt8 := if signE s = 0 then signB s else []
def batchP (l : List SignedD) : List UInt8 := if batchE l = 0 then batchB l else []
def signsB (l : List SignD) : List UInt8 := encI (l.length : Int) ++ l.flatMap signP
def certB (c : CertD) : List UInt8 := numsB [c.seq, c.digest] ++ signsB c.signs
def prepB (p : PreparedD) : List UInt8 := numsB [p.view, p.seq, p.digest] ++ signP p.firstS ++ signsB p.signs ++ batchP p.batch
def bodyC (c : ChangeD) : List UInt8 := numsB [c.view, c.src] ++ certB c.cert ++ encI (c.above.length : Int) ++ c.above.flatMap prepB
def chgB (c : ChangeD) : List UInt8 := bodyC c ++ signP c.sign
def headB (h : HeaderD) : List UInt8 := numsB [h.seq, h.prev, h.batch, h.root, h.state]
def proofB (p : ProofD) : List UInt8 :=
  byF p.topic ++ numsB [p.offset] ++ byF p.record ++ encI (p.headers.length : Int) ++ p.headers.flatMap headB ++ numsB [p.index, p.count] ++ encI (p.path.length : Int) ++ p.path.flatMap encI ++ certB p.cert
def entryB (x : EntryD) : List UInt8 := numsB [x.view, x.seq] ++ batchP x.batch ++ signP x.sign
def resultB (r : ResultD) : List UInt8 := enc (max r.err 0).toNat ++ enc (max r.offset 0).toNat
def tailB (m : MsgD) : List UInt8 :=
  (if m.kind = 1 then batchP m.batch
  else if m.kind = 2 then numsB [m.src, m.view, m.seq, m.digest] ++ batchP m.batch
  else if m.kind = 3 ∨ m.kind = 4 then numsB [m.src, m.view, m.seq, m.digest]
  else if m.kind = 5 then numsB [m.src, m.view, m.client, m.time] ++ resultB m.result
  else if m.kind = 6 then numsB [m.src, m.seq, m.digest]
  else if m.kind = 7 then (match m.changes with | c :: _ => bodyC c | [] => [])
  else if m.kind = 8 then numsB [m.src, m.view] ++ encI (m.changes.length : Int) ++ m.changes.flatMap chgB ++ encI (m.entries.length : Int) ++ m.entries.flatMap entryB
  else if m.kind = 9 then numsB [m.src, m.seq]
  else if m.kind = 10 then numsB [m.src] ++ certB m.cert ++ byF m.state
  else if m.kind = 11 then numsB [m.client] ++ byF m.topic ++ numsB [m.offset]
  else if m.kind = 12 then numsB [m.src] ++ proofB m.proof
  else [])
def unsB (m : MsgD) : List UInt8 := encI m.kind ++ tailB m
end Go.Proofs.YtafomdobfmmleaaGreatDoor

/- Bytes tell what was put: plain. No program here. -/
namespace Go.Proofs.YtafomdobfmmleaaGreatDoor
open Go.RowKit
set_option linter.unusedVariables false

/-! how long forms are -/
theorem encLe10 (n : Nat) : n < 18446744073709551616 → (enc n).length ≤ 10 := fun h => enc_10 h
theorem byF_len (b : List UInt8) (h : b.length ≤ 4194304) : (byF b).length ≤ b.length + 10 := by
  unfold byF
  have := encLe10 b.length (by omega)
  rw [List.length_append]; omega
theorem flat_len {α : Type} {f : α → List UInt8} {K : Nat} : ∀ (l : List α), (∀ x ∈ l, (f x).length ≤ K) → (l.flatMap f).length ≤ l.length * K
  | [], _ => by simp
  | x :: l, h => by
    have h1 := h x (by simp)
    have h2 := flat_len l (fun y hy => h y (by simp [hy]))
    simp only [List.flatMap_cons, List.length_append, List.length_cons]
    rw [Nat.add_mul]; omega
/-! batches -/
end Go.Proofs.YtafomdobfmmleaaGreatDoor

/- A message's bytes without its signature tell the message, but for the signature: plain. No program here. -/
namespace Go.Proofs.YtafomdobfmmleaaGreatDoor
open Go.RowKit
set_option linter.unusedVariables false

end Go.Proofs.YtafomdobfmmleaaGreatDoor
