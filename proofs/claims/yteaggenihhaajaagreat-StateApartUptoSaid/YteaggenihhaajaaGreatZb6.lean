/- Lemmas and contracts, part 6. -/
import Derived.Test.YteaggenihhaajaaGreatZb5
import Derived.Laws.RangeAny
/- Operations, requests, signatures and batches in plain Lean: what may be, and their bytes. No program here. -/
namespace Go.Proofs.YteaggenihhaajaaGreat
open Go.RowKit
set_option linter.unusedVariables false

/-- the first error of two -/
def orE (a b : Int) : Int := if a = 0 then b else a
theorem orE_zero {a b : Int} : orE a b = 0 ↔ a = 0 ∧ b = 0 := by
  unfold orE
  split
  · rename_i h; simp [h]
  · rename_i h; simp [h]
def badR (r : Nat) : Bool := decide (r < 33) || (decide (127 ≤ r) && decide (r ≤ 159)) || decide (r = 47) || decide (r = 65533)
/-- the runes from a place on, counted; none: one may not be -/
def runesGo (s : ByteArray) : Nat → Nat → Nat → Option Nat
  | 0, _, n => some n
  | k + 1, pos, n => if pos < s.size then if badR (Utf8.decode s pos).1 then none else runesGo s k (pos + (Utf8.decode s pos).2) (n + 1) else some n
def runesF (s : List UInt8) : Nat :=
  match runesGo (bstr s) (s.length + 1) 0 0 with
  | none => 0
  | some n => if 16 < n then 0 else n
def nameF (s : List UInt8) : Bool := decide (0 < runesF s)
/-- an operation with the fields of its kind alone -/
def onlyF (o : OpD) : OpD :=
  if o.kind = 1 then ⟨1, o.topic, [], 0, []⟩
  else if o.kind = 2 then ⟨2, o.topic, [], 0, o.records⟩
  else if o.kind = 3 then ⟨3, o.topic, o.group, o.offset, []⟩
  else if o.kind = 4 then ⟨4, o.topic, [], o.offset, []⟩
  else ⟨o.kind, [], [], 0, []⟩
def kindOk (o : OpD) : Bool := decide (0 ≤ o.kind ∧ o.kind ≤ 4)
theorem OpD.ext_iff' {a b : OpD} : a = b ↔ a.kind = b.kind ∧ a.topic = b.topic ∧ a.group = b.group ∧ a.offset = b.offset ∧ a.records = b.records := by
  cases a; cases b; simp
def sameOp (a b : OpD) : Bool := decide (a.kind = b.kind) && decide (a.topic = b.topic) && decide (a.group = b.group) && decide (a.offset = b.offset) && decide (a.records = b.records)
theorem sameOp_iff {a b : OpD} : sameOp a b = true ↔ a = b := by
  rw [OpD.ext_iff']; simp [sameOp, and_assoc]
def longF (o : OpD) : Bool := o.records.any fun r => decide (64 < r.length)
/-- what is wrong with an operation -/
def opE (o : OpD) : Int :=
  if kindOk o = false ∨ sameOp o (onlyF o) = false then 60
  else if o.kind ≠ 0 ∧ nameF o.topic = false then 61
  else if o.kind = 3 ∧ nameF o.group = false then 61
  else if o.kind = 2 ∧ (o.records.length < 1 ∨ 4 < o.records.length ∨ longF o = true) then 62
  else if o.offset < 0 ∨ 9007199254740992 < o.offset then 60
  else 0
/-- a byte string's form -/
def byF (b : List UInt8) : List UInt8 := enc b.length ++ b
/-- an operation's bytes -/
def opB (o : OpD) : List UInt8 :=
  enc o.kind.toNat ++ (if o.kind = 0 then [] else byF o.topic) ++
    (if o.kind = 2 then enc o.records.length ++ o.records.flatMap byF else if o.kind = 3 then byF o.group ++ enc o.offset.toNat else if o.kind = 4 then enc o.offset.toNat else [])
def signE (s : SignD) : Int := if s.key < 0 ∨ 21 ≤ s.key ∨ s.digest < 1 ∨ 9007199254740992 < s.digest then 81 else 0
def reqE (x : RequestD) : Int := if x.client < 0 ∨ 8 ≤ x.client ∨ x.time < 1 ∨ 9007199254740992 < x.time then 80 else opE x.op
def reqB (x : RequestD) : List UInt8 := enc x.client.toNat ++ enc x.time.toNat ++ opB x.op
def signB (s : SignD) : List UInt8 := enc s.key.toNat ++ enc s.digest.toNat
/-- the first error of the requests and signatures of a batch -/
def partsE : List SignedD → Int
  | [] => 0
  | s :: r => orE (reqE s.request) (orE (signE s.sign) (partsE r))
def twin (a b : SignedD) : Bool := decide (a.request.client = b.request.client) && decide (a.request.time = b.request.time)
def twinsF (l : List SignedD) : Bool := (List.range l.length).any fun i => (List.range i).any fun k => match l[i]?, l[k]? with | some a, some b => twin a b | _, _ => false
def batchE (l : List SignedD) : Int := if 4 < l.length then 3 else orE (partsE l) (if twinsF l then 5 else 0)
def signedB (s : SignedD) : List UInt8 := byF (reqB s.request) ++ signB s.sign
def batchB (l : List SignedD) : List UInt8 := enc l.length ++ l.flatMap signedB
end Go.Proofs.YteaggenihhaajaaGreat

/- Messages in plain Lean: what may be, and their bytes. No program here. -/
namespace Go.Proofs.YteaggenihhaajaaGreat
open Go.RowKit
set_option linter.unusedVariables false

theorem orE_assoc (a b c : Int) : orE (orE a b) c = orE a (orE b c) := by
  unfold orE
  by_cases h : a = 0 <;> simp [h]
theorem orE_z (a : Int) : orE a 0 = a := by unfold orE; split <;> simp_all
theorem z_orE (a : Int) : orE 0 a = a := by simp [orE]
/-- the first error of a list -/
def listE {α : Type} (f : α → Int) : List α → Int
  | [] => 0
  | x :: r => orE (f x) (listE f r)
theorem listE_snoc {α : Type} (f : α → Int) (l : List α) (x : α) : listE f (l ++ [x]) = orE (listE f l) (f x) := by
  induction l with
  | nil => simp [listE, orE_z, z_orE]
  | cons y r ih => simp only [List.cons_append, listE, ih, orE_assoc]
theorem listE_zero {α : Type} {f : α → Int} {l : List α} : listE f l = 0 ↔ ∀ x ∈ l, f x = 0 := by
  induction l with
  | nil => simp [listE]
  | cons y r ih => simp [listE, orE_zero, ih]
def rangeE (n least most : Int) : Int := if n < least ∨ most < n then 100 else 0
def numE (n : Int) : Int := rangeE n 0 9007199254740992
def posE (n : Int) : Int := rangeE n 1 9007199254740992
def brokE (n : Int) : Int := rangeE n 0 12
def manyE (n : Nat) (most : Int) : Int := rangeE (n : Int) 0 most
def nameE (s : List UInt8) : Int := if nameF s then 0 else 61
def signsE (l : List SignD) : Int := orE (manyE l.length 13) (listE signE l)
def certE (c : CertD) : Int :=
  orE (numE c.seq) (orE (numE c.digest) (orE (if (decide (c.seq = 0) != decide (c.digest = 0)) || (decide (c.seq = 0) && decide (0 < c.signs.length)) then 100 else 0) (signsE c.signs)))
def prepE (p : PreparedD) : Int := orE (numE p.view) (orE (posE p.seq) (orE (posE p.digest) (orE (signE p.firstS) (orE (signsE p.signs) (batchE p.batch)))))
def chgE (c : ChangeD) : Int := orE (posE c.view) (orE (brokE c.src) (orE (certE c.cert) (orE (manyE c.above.length 8) (orE (listE prepE c.above) (signE c.sign)))))
def headE (h : HeaderD) : Int := orE (posE h.seq) (orE (numE h.prev) (orE (numE h.batch) (orE (numE h.root) (numE h.state))))
def proofE (p : ProofD) : Int :=
  orE (nameE p.topic) (orE (numE p.offset) (orE (manyE p.record.length 64) (orE (manyE p.headers.length 64) (orE (listE headE p.headers) (orE (numE p.index) (orE (rangeE p.count 0 16) (orE (rangeE p.index 0 (p.count - 1)) (orE (manyE p.path.length 8) (orE (listE numE p.path) (certE p.cert))))))))))
def voteE (m : MsgD) : Int := orE (brokE m.src) (orE (numE m.view) (orE (posE m.seq) (posE m.digest)))
def entryE (x : EntryD) : Int := orE (numE x.view) (orE (posE x.seq) (orE (batchE x.batch) (signE x.sign)))
def newE (m : MsgD) : Int := orE (brokE m.src) (orE (posE m.view) (orE (manyE m.changes.length 13) (orE (listE chgE m.changes) (orE (manyE m.entries.length 8) (listE entryE m.entries)))))
def viewE (m : MsgD) (c : ChangeD) : Int := orE (chgE c) (if c.src ≠ m.src ∨ c.view ≠ m.view then 100 else 0)
/-- messages of a kind have a signature of their own -/
def signedK (k : Int) : Bool := decide (k = 2) || decide (k = 3) || decide (k = 4) || decide (k = 5) || decide (k = 6) || decide (k = 8) || decide (k = 9)
def kindE (m : MsgD) : Int :=
  if m.kind = 1 then orE (rangeE (m.batch.length : Int) 1 1) (batchE m.batch)
  else if m.kind = 2 then orE (voteE m) (batchE m.batch)
  else if m.kind = 3 then voteE m
  else if m.kind = 4 then voteE m
  else if m.kind = 5 then orE (brokE m.src) (orE (numE m.view) (orE (rangeE m.client 0 7) (orE (numE m.time) (orE (rangeE m.result.err 0 65536) (numE m.result.offset)))))
  else if m.kind = 6 then orE (brokE m.src) (orE (posE m.seq) (posE m.digest))
  else if m.kind = 7 then orE (rangeE (m.changes.length : Int) 1 1) (listE (viewE m) m.changes)
  else if m.kind = 8 then newE m
  else if m.kind = 9 then orE (brokE m.src) (numE m.seq)
  else if m.kind = 10 then orE (brokE m.src) (orE (certE m.cert) (manyE m.state.length 262144))
  else if m.kind = 11 then orE (rangeE m.client 0 7) (orE (nameE m.topic) (numE m.offset))
  else if m.kind = 12 then orE (brokE m.src) (proofE m.proof)
  else 100
def msgE (m : MsgD) : Int := orE (kindE m) (if signedK m.kind then signE m.sign else 0)
/-! the zero values -/
def zSign : SignD := ⟨0, 0⟩
def zResult : ResultD := ⟨0, 0⟩
def zCert : CertD := ⟨0, 0, []⟩
def zProof : ProofD := ⟨[], 0, [], [], 0, 0, [], zCert⟩
def zMsg : MsgD := ⟨0, 0, 0, 0, 0, 0, 0, zResult, [], zCert, [], [], [], [], 0, zProof, zSign⟩
/-- a message with the fields of its kind alone -/
def bareF (m : MsgD) : MsgD :=
  let s := if signedK m.kind then m.sign else zSign
  if m.kind = 1 then { zMsg with kind := m.kind, batch := m.batch, sign := s }
  else if m.kind = 2 then { zMsg with kind := m.kind, src := m.src, view := m.view, seq := m.seq, digest := m.digest, batch := m.batch, sign := s }
  else if m.kind = 3 ∨ m.kind = 4 then { zMsg with kind := m.kind, src := m.src, view := m.view, seq := m.seq, digest := m.digest, sign := s }
  else if m.kind = 5 then { zMsg with kind := m.kind, src := m.src, view := m.view, client := m.client, time := m.time, result := m.result, sign := s }
  else if m.kind = 6 then { zMsg with kind := m.kind, src := m.src, seq := m.seq, digest := m.digest, sign := s }
  else if m.kind = 7 then { zMsg with kind := m.kind, src := m.src, view := m.view, changes := m.changes, sign := s }
  else if m.kind = 8 then { zMsg with kind := m.kind, src := m.src, view := m.view, changes := m.changes, entries := m.entries, sign := s }
  else if m.kind = 9 then { zMsg with kind := m.kind, src := m.src, seq := m.seq, sign := s }
  else if m.kind = 10 then { zMsg with kind := m.kind, src := m.src, cert := m.cert, state := m.state, sign := s }
  else if m.kind = 11 then { zMsg with kind := m.kind, client := m.client, topic := m.topic, offset := m.offset, sign := s }
  else if m.kind = 12 then { zMsg with kind := m.kind, src := m.src, proof := m.proof, sign := s }
  else { zMsg with kind := m.kind, src := m.src, sign := s }
/-! bytes -/
/-- the form of an int64 turned to a uint64 -/
def encI (n : Int) : List UInt8 := enc (n % 18446744073709551616).toNat
theorem encI_nat {n : Int} (h : 0 ≤ n) (h2 : n < 18446744073709551616) : encI n = enc n.toNat := by
  unfold encI; rw [Int.emod_eq_of_lt h h2]
def numsB (l : List Int) : List UInt8 := l.flatMap encI
def signP (s : SignD) : List UInt8 := if signE s = 0 then signB s else []
def batchP (l : List SignedD) : List UInt8 := if batchE l = 0 then batchB l else []
def signsB (l : List SignD) : List UInt8 := encI (l.length : Int) ++ l.flatMap signP
def certB (c : CertD) : List UInt8 := numsB [c.seq, c.digest] ++ signsB c.signs
def prepB (p : PreparedD) : List UInt8 := numsB [p.view, p.seq, p.digest] ++ signP p.firstS ++ signsB p.signs ++ batchP p.batch
def bodyC (c : ChangeD) : List UInt8 := numsB [c.view, c.src] ++ certB c.cert ++ encI (c.above.length : Int) ++ c.above.flatMap prepB
def chgB (c : ChangeD) : List UInt8 := bodyC c ++ signP c.sign
def headB (h : HeaderD) : List UInt8 := numsB [h.seq, h.prev, h.batch, h.root, h.state]
def proofB (p : ProofD) : List UInt8 :=
  byF p.topic ++ numsB [p.offset] ++ byF p.record ++ encI (p.headers.length : Int) ++ p.headers.flatMap headB ++ numsB [p.index, p.count] ++ encI (p.path.length : Int) ++ p.path.flatMap encI ++ certB p.cert
def entryB (x : EntryD) : List UInt8 := numsB [x.view, x.seq] ++ batchP x.batch ++ signP x.sign
def resultB (r : ResultD) : List UInt8 := enc (max r.err 0).toNat ++ enc (max r.offset 0).toNat
def tailB (m : MsgD) : List UInt8 :=
  (if m.kind = 1 then batchP m.batch
  else if m.kind = 2 then numsB [m.src, m.view, m.seq, m.digest] ++ batchP m.batch
  else if m.kind = 3 ∨ m.kind = 4 then numsB [m.src, m.view, m.seq, m.digest]
  else if m.kind = 5 then numsB [m.src, m.view, m.client, m.time] ++ resultB m.result
  else if m.kind = 6 then numsB [m.src, m.seq, m.digest]
  else if m.kind = 7 then (match m.changes with | c :: _ => bodyC c | [] => [])
  else if m.kind = 8 then numsB [m.src, m.view] ++ encI (m.changes.length : Int) ++ m.changes.flatMap chgB ++ encI (m.entries.length : Int) ++ m.entries.flatMap entryB
  else if m.kind = 9 then numsB [m.src, m.seq]
  else if m.kind = 10 then numsB [m.src] ++ certB m.cert ++ byF m.state
  else if m.kind = 11 then numsB [m.client] ++ byF m.topic ++ numsB [m.offset]
  else if m.kind = 12 then numsB [m.src] ++ proofB m.proof
  else [])
def unsB (m : MsgD) : List UInt8 := encI m.kind ++ tailB m
end Go.Proofs.YteaggenihhaajaaGreat

/- Bytes tell what was put: plain. No program here. -/
namespace Go.Proofs.YteaggenihhaajaaGreat
open Go.RowKit
set_option linter.unusedVariables false

/-- a form that tells its datum, whatever stands behind -/
def PI {α : Type} (f : α → List UInt8) (P : α → Prop) : Prop := ∀ a b r s, P a → P b → f a ++ r = f b ++ s → a = b ∧ r = s
theorem enc_pi : PI (fun n : Nat => enc n) (fun n => n < 18446744073709551616) := by
  intro a b r s ha hb h
  have h1 := numS_put (d := a) (most := 18446744073709551615) (rest := r) ha (by omega)
  have h2 := numS_put (d := b) (most := 18446744073709551615) (rest := s) hb (by omega)
  dsimp only at h
  rw [h, h2] at h1
  injection h1 with e1 e2
  injection e2 with e2 _
  exact ⟨e1.symm, e2.symm⟩
theorem PI.mono {α : Type} {f : α → List UInt8} {P Q : α → Prop} (h : PI f P) (hq : ∀ a, Q a → P a) : PI f Q := fun a b r s ha hb e => h a b r s (hq a ha) (hq b hb) e
theorem byF_pi : PI byF (fun b => b.length < 18446744073709551616) := by
  intro a b r s ha hb h
  unfold byF at h
  rw [List.append_assoc, List.append_assoc] at h
  obtain ⟨h1, h2⟩ := enc_pi _ _ _ _ ha hb h
  exact List.append_inj h2 h1
theorem encI_pi : PI encI (fun n => 0 ≤ n ∧ n < 18446744073709551616) := by
  intro a b r s ha hb h
  unfold encI at h
  rw [Int.emod_eq_of_lt ha.1 ha.2, Int.emod_eq_of_lt hb.1 hb.2] at h
  obtain ⟨h1, h2⟩ := enc_pi _ _ _ _ (show a.toNat < _ by omega) (show b.toNat < _ by omega) h
  exact ⟨by omega, h2⟩
/-- lists of one length -/
theorem flat_pi {α : Type} {f : α → List UInt8} {P : α → Prop} (h : PI f P) : ∀ (l k : List α) (r s : List UInt8), (∀ x ∈ l, P x) → (∀ x ∈ k, P x) → l.length = k.length → l.flatMap f ++ r = k.flatMap f ++ s → l = k ∧ r = s
  | [], [], r, s, _, _, _, e => ⟨rfl, by simpa using e⟩
  | x :: l, y :: k, r, s, hl, hk, hn, e => by
    simp only [List.flatMap_cons, List.append_assoc] at e
    obtain ⟨rfl, e2⟩ := h x y _ _ (hl x (by simp)) (hk y (by simp)) e
    obtain ⟨rfl, e3⟩ := flat_pi h l k r s (fun z hz => hl z (by simp [hz])) (fun z hz => hk z (by simp [hz])) (by simpa using hn) e2
    exact ⟨rfl, e3⟩
  | [], _ :: _, _, _, _, _, hn, _ => by simp at hn
  | _ :: _, [], _, _, _, _, hn, _ => by simp at hn
/-- a count and so many -/
theorem many_pi {α : Type} {f : α → List UInt8} {P : α → Prop} (h : PI f P) : PI (fun l : List α => encI (l.length : Int) ++ l.flatMap f) (fun l => l.length < 9223372036854775808 ∧ ∀ x ∈ l, P x) := by
  intro l k r s hl hk e
  dsimp only at e
  rw [List.append_assoc, List.append_assoc] at e
  obtain ⟨h1, h2⟩ := encI_pi _ _ _ _ (show (0 : Int) ≤ l.length ∧ (l.length : Int) < _ by omega) (show (0 : Int) ≤ k.length ∧ (k.length : Int) < _ by omega) e
  exact flat_pi h l k r s hl.2 hk.2 (by omega) h2
theorem manyN_pi {α : Type} {f : α → List UInt8} {P : α → Prop} (h : PI f P) : PI (fun l : List α => enc l.length ++ l.flatMap f) (fun l => l.length < 9223372036854775808 ∧ ∀ x ∈ l, P x) := by
  intro l k r s hl hk e
  dsimp only at e
  rw [List.append_assoc, List.append_assoc] at e
  obtain ⟨h1, h2⟩ := enc_pi _ _ _ _ (show l.length < _ by omega) (show k.length < _ by omega) e
  exact flat_pi h l k r s hl.2 hk.2 h1 h2
theorem rangeE_ok {n a b : Int} : rangeE n a b = 0 ↔ a ≤ n ∧ n ≤ b := by
  unfold rangeE; split <;> simp <;> omega
theorem numE_ok {n : Int} : numE n = 0 ↔ 0 ≤ n ∧ n ≤ 9007199254740992 := rangeE_ok
theorem posE_ok {n : Int} : posE n = 0 ↔ 1 ≤ n ∧ n ≤ 9007199254740992 := rangeE_ok
theorem brokE_ok {n : Int} : brokE n = 0 ↔ 0 ≤ n ∧ n ≤ 12 := rangeE_ok
theorem manyE_ok {n : Nat} {m : Int} : manyE n m = 0 ↔ (n : Int) ≤ m := by unfold manyE; rw [rangeE_ok]; omega
theorem signE_ok {s : SignD} : signE s = 0 ↔ 0 ≤ s.key ∧ s.key < 21 ∧ 1 ≤ s.digest ∧ s.digest ≤ 9007199254740992 := by
  unfold signE; split <;> simp <;> omega
theorem SignD.ext' {a b : SignD} (h : a.key = b.key) (k : a.digest = b.digest) : a = b := by cases a; cases b; simp_all
theorem signB_pi : PI signB (fun s => 0 ≤ s.key ∧ s.key < 9223372036854775808 ∧ 0 ≤ s.digest ∧ s.digest < 9223372036854775808) := by
  intro a b r s ha hb e
  unfold signB at e
  rw [List.append_assoc, List.append_assoc] at e
  obtain ⟨h1, h2⟩ := enc_pi _ _ _ _ (show a.key.toNat < _ by omega) (show b.key.toNat < _ by omega) e
  obtain ⟨h3, h4⟩ := enc_pi _ _ _ _ (show a.digest.toNat < _ by omega) (show b.digest.toNat < _ by omega) h2
  exact ⟨SignD.ext' (by omega) (by omega), h4⟩
theorem signP_pi : PI signP (fun s => signE s = 0) := by
  intro a b r s ha hb e
  unfold signP at e
  rw [if_pos ha, if_pos hb] at e
  rw [signE_ok] at ha hb
  exact signB_pi _ _ _ _ (by omega) (by omega) e
theorem opE_ok {o : OpD} (h : opE o = 0) : (0 ≤ o.kind ∧ o.kind ≤ 4) ∧ o = onlyF o ∧ 0 ≤ o.offset ∧ o.offset ≤ 9007199254740992 ∧ (o.kind = 2 → o.records.length ≤ 4) := by
  unfold opE at h
  split at h
  · cases h
  · rename_i h1
    split at h
    · cases h
    · split at h
      · cases h
      · split at h
        · cases h
        · rename_i h4
          split at h
          · cases h
          · rename_i h5
            simp only [not_or, Bool.not_eq_false, kindOk, decide_eq_true_eq, sameOp_iff] at h1
            refine ⟨h1.1, h1.2, by omega, by omega, fun hk => ?_⟩
            rcases Nat.lt_or_ge 4 o.records.length with h' | h'
            · exact absurd ⟨hk, .inr (.inl h')⟩ h4
            · exact h'
/-- strings and records as long as memory bears -/
def opSized (o : OpD) : Prop := o.topic.length ≤ 4194304 ∧ o.group.length ≤ 4194304 ∧ ∀ r ∈ o.records, r.length ≤ 4194304
theorem opB_pi : PI opB (fun o => opE o = 0 ∧ opSized o) := by
  intro a b r s ⟨ha, a1, a2, a3⟩ ⟨hb, b1, b2, b3⟩ e
  obtain ⟨ka, oa, fa1, fa2, na⟩ := opE_ok ha
  obtain ⟨kb, ob, fb1, fb2, nb⟩ := opE_ok hb
  unfold opB at e
  simp only [List.append_assoc] at e
  obtain ⟨hk, e2⟩ := enc_pi _ _ _ _ (show a.kind.toNat < _ by omega) (show b.kind.toNat < _ by omega) e
  have hk : a.kind = b.kind := by omega
  rw [hk] at e2 na
  rw [oa, ob]
  unfold onlyF
  rw [hk]
  by_cases k0 : b.kind = 0
  · rw [if_pos k0, if_pos k0, if_neg (by omega), if_neg (by omega), if_neg (by omega), if_neg (by omega), if_neg (by omega), if_neg (by omega)] at e2
    rw [if_neg (by omega), if_neg (by omega), if_neg (by omega), if_neg (by omega), if_neg (by omega), if_neg (by omega), if_neg (by omega), if_neg (by omega)]
    exact ⟨rfl, by simpa using e2⟩
  · rw [if_neg k0, if_neg k0] at e2
    obtain ⟨ht, e3⟩ := byF_pi _ _ _ _ (show a.topic.length < _ by omega) (show b.topic.length < _ by omega) e2
    rw [ht]
    by_cases k2 : b.kind = 2
    · rw [if_pos k2, if_pos k2] at e3
      obtain ⟨hr, e4⟩ := manyN_pi (byF_pi.mono (Q := fun x => x.length ≤ 4194304) (fun x hx => by show x.length < _; omega)) a.records b.records r s ⟨by have := na k2; omega, a3⟩ ⟨by have := nb k2; omega, b3⟩ e3
      rw [hr]
      simp only [k2]
      exact ⟨rfl, e4⟩
    · rw [if_neg k2, if_neg k2] at e3
      by_cases k3 : b.kind = 3
      · rw [if_pos k3, if_pos k3] at e3
        simp only [List.append_assoc] at e3
        obtain ⟨hg, e4⟩ := byF_pi _ _ _ _ (show a.group.length < _ by omega) (show b.group.length < _ by omega) e3
        obtain ⟨ho, e5⟩ := enc_pi _ _ _ _ (show a.offset.toNat < _ by omega) (show b.offset.toNat < _ by omega) e4
        have ho : a.offset = b.offset := by omega
        rw [hg, ho]
        simp only [k3]
        exact ⟨rfl, e5⟩
      · rw [if_neg k3, if_neg k3] at e3
        by_cases k4 : b.kind = 4
        · rw [if_pos k4, if_pos k4] at e3
          obtain ⟨ho, e5⟩ := enc_pi _ _ _ _ (show a.offset.toNat < _ by omega) (show b.offset.toNat < _ by omega) e3
          have ho : a.offset = b.offset := by omega
          rw [ho]
          simp only [k4]
          exact ⟨rfl, e5⟩
        · have k1 : b.kind = 1 := by omega
          rw [if_neg k4, if_neg k4] at e3
          simp only [k1]
          exact ⟨rfl, by simpa using e3⟩
theorem reqE_ok {x : RequestD} (h : reqE x = 0) : (0 ≤ x.client ∧ x.client < 8) ∧ (1 ≤ x.time ∧ x.time ≤ 9007199254740992) ∧ opE x.op = 0 := by
  unfold reqE at h
  split at h
  · cases h
  · exact ⟨by omega, by omega, h⟩
theorem RequestD.ext' {a b : RequestD} (h : a.client = b.client) (k : a.time = b.time) (l : a.op = b.op) : a = b := by cases a; cases b; simp_all
theorem reqB_pi : PI reqB (fun x => reqE x = 0 ∧ opSized x.op) := by
  intro a b r s ⟨ha, sa⟩ ⟨hb, sb⟩ e
  obtain ⟨ca, ta, oa⟩ := reqE_ok ha
  obtain ⟨cb, tb, ob⟩ := reqE_ok hb
  unfold reqB at e
  simp only [List.append_assoc] at e
  obtain ⟨h1, e2⟩ := enc_pi _ _ _ _ (show a.client.toNat < _ by omega) (show b.client.toNat < _ by omega) e
  obtain ⟨h2, e3⟩ := enc_pi _ _ _ _ (show a.time.toNat < _ by omega) (show b.time.toNat < _ by omega) e2
  obtain ⟨h3, e4⟩ := opB_pi _ _ _ _ ⟨oa, sa⟩ ⟨ob, sb⟩ e3
  exact ⟨RequestD.ext' (by omega) (by omega) h3, e4⟩
/-! how long forms are -/
theorem encLe10 (n : Nat) : n < 18446744073709551616 → (enc n).length ≤ 10 := fun h => enc_10 h
theorem byF_len (b : List UInt8) (h : b.length ≤ 4194304) : (byF b).length ≤ b.length + 10 := by
  unfold byF
  have := encLe10 b.length (by omega)
  rw [List.length_append]; omega
theorem flat_len {α : Type} {f : α → List UInt8} {K : Nat} : ∀ (l : List α), (∀ x ∈ l, (f x).length ≤ K) → (l.flatMap f).length ≤ l.length * K
  | [], _ => by simp
  | x :: l, h => by
    have h1 := h x (by simp)
    have h2 := flat_len l (fun y hy => h y (by simp [hy]))
    simp only [List.flatMap_cons, List.length_append, List.length_cons]
    rw [Nat.add_mul]; omega
theorem opB_len {o : OpD} (h : opE o = 0) (hs : opSized o) : (opB o).length ≤ 33554432 := by
  obtain ⟨k, _, f1, f2, n⟩ := opE_ok h
  obtain ⟨s1, s2, s3⟩ := hs
  have e1 := encLe10 o.kind.toNat (by omega)
  have e2 := byF_len o.topic s1
  have e3 := byF_len o.group s2
  have e4 := encLe10 o.offset.toNat (by omega)
  unfold opB
  rw [List.length_append, List.length_append]
  have p1 : (if o.kind = 0 then [] else byF o.topic).length ≤ 4194314 := by
    split
    · simp
    · omega
  have p2 : (if o.kind = 2 then enc o.records.length ++ o.records.flatMap byF else if o.kind = 3 then byF o.group ++ enc o.offset.toNat else if o.kind = 4 then enc o.offset.toNat else []).length ≤ 16777300 := by
    split
    · rename_i k2
      have hr := n k2
      have e5 := encLe10 o.records.length (by omega)
      have e6 := flat_len (f := byF) (K := 4194314) o.records (fun x hx => by have := byF_len x (s3 x hx); have := s3 x hx; omega)
      rw [List.length_append]
      have : o.records.length * 4194314 ≤ 4 * 4194314 := Nat.mul_le_mul_right _ hr
      omega
    · split
      · rw [List.length_append]; omega
      · split
        · omega
        · simp
  omega
theorem reqB_len {x : RequestD} (h : reqE x = 0) (hs : opSized x.op) : (reqB x).length ≤ 33554452 := by
  obtain ⟨c, t, o⟩ := reqE_ok h
  have e1 := encLe10 x.client.toNat (by omega)
  have e2 := encLe10 x.time.toNat (by omega)
  have e3 := opB_len o hs
  unfold reqB
  simp only [List.length_append]; omega
/-! batches -/
theorem partsE_ok {l : List SignedD} : partsE l = 0 ↔ ∀ s ∈ l, reqE s.request = 0 ∧ signE s.sign = 0 := by
  induction l with
  | nil => simp [partsE]
  | cons s r ih => simp [partsE, orE_zero, ih, and_assoc]
theorem batchE_ok {l : List SignedD} (h : batchE l = 0) : l.length ≤ 4 ∧ ∀ s ∈ l, reqE s.request = 0 ∧ signE s.sign = 0 := by
  unfold batchE at h
  split at h
  · cases h
  · rw [orE_zero, partsE_ok] at h
    exact ⟨by omega, h.1⟩
theorem SignedD.ext' {a b : SignedD} (h : a.request = b.request) (k : a.sign = b.sign) : a = b := by cases a; cases b; simp_all
def bSized (l : List SignedD) : Prop := ∀ s ∈ l, opSized s.request.op
theorem signedB_pi : PI signedB (fun s => reqE s.request = 0 ∧ signE s.sign = 0 ∧ opSized s.request.op) := by
  intro a b r s ⟨a1, a2, a3⟩ ⟨b1, b2, b3⟩ e
  unfold signedB at e
  simp only [List.append_assoc] at e
  have la := reqB_len a1 a3
  have lb := reqB_len b1 b3
  obtain ⟨h1, e2⟩ := byF_pi _ _ _ _ (show (reqB a.request).length < _ by omega) (show (reqB b.request).length < _ by omega) e
  have h1' : reqB a.request ++ [] = reqB b.request ++ [] := by rw [h1]
  obtain ⟨h3, _⟩ := reqB_pi _ _ _ _ ⟨a1, a3⟩ ⟨b1, b3⟩ h1'
  rw [signE_ok] at a2 b2
  obtain ⟨h4, e3⟩ := signB_pi _ _ _ _ (by omega) (by omega) e2
  exact ⟨SignedD.ext' h3 h4, e3⟩
theorem batchP_pi : PI batchP (fun l => batchE l = 0 ∧ bSized l) := by
  intro a b r s ⟨a1, a2⟩ ⟨b1, b2⟩ e
  unfold batchP batchB at e
  rw [if_pos a1, if_pos b1] at e
  obtain ⟨a3, a4⟩ := batchE_ok a1
  obtain ⟨b3, b4⟩ := batchE_ok b1
  exact manyN_pi signedB_pi a b r s ⟨by omega, fun x hx => ⟨(a4 x hx).1, (a4 x hx).2, a2 x hx⟩⟩ ⟨by omega, fun x hx => ⟨(b4 x hx).1, (b4 x hx).2, b2 x hx⟩⟩ e
theorem nums_pi : ∀ (l k : List Int) (r s : List UInt8), (∀ x ∈ l, 0 ≤ x ∧ x < 18446744073709551616) → (∀ x ∈ k, 0 ≤ x ∧ x < 18446744073709551616) → l.length = k.length → numsB l ++ r = numsB k ++ s → l = k ∧ r = s :=
  fun l k r s hl hk hn e => flat_pi encI_pi l k r s hl hk hn e
theorem CertD.ext' {a b : CertD} (h : a.seq = b.seq) (k : a.digest = b.digest) (l : a.signs = b.signs) : a = b := by cases a; cases b; simp_all
theorem signsB_pi : PI signsB (fun l => signsE l = 0) := by
  intro a b r s ha hb e
  unfold signsE at ha hb
  rw [orE_zero, manyE_ok, listE_zero] at ha hb
  exact many_pi signP_pi a b r s ⟨by omega, ha.2⟩ ⟨by omega, hb.2⟩ e
theorem certE_ok {c : CertD} (h : certE c = 0) : (0 ≤ c.seq ∧ c.seq ≤ 9007199254740992) ∧ (0 ≤ c.digest ∧ c.digest ≤ 9007199254740992) ∧ signsE c.signs = 0 := by
  unfold certE at h
  rw [orE_zero, orE_zero, orE_zero, numE_ok, numE_ok] at h
  exact ⟨h.1, h.2.1, h.2.2.2⟩
theorem certB_pi : PI certB (fun c => certE c = 0) := by
  intro a b r s ha hb e
  obtain ⟨a1, a2, a3⟩ := certE_ok ha
  obtain ⟨b1, b2, b3⟩ := certE_ok hb
  unfold certB at e
  rw [List.append_assoc, List.append_assoc] at e
  obtain ⟨h1, e2⟩ := nums_pi [a.seq, a.digest] [b.seq, b.digest] _ _ (by intro x hx; simp at hx; omega) (by intro x hx; simp at hx; omega) rfl e
  obtain ⟨h2, e3⟩ := signsB_pi _ _ _ _ a3 b3 e2
  simp only [List.cons.injEq] at h1
  exact ⟨CertD.ext' h1.1 h1.2.1 h2, e3⟩
theorem PreparedD.ext' {a b : PreparedD} (h1 : a.view = b.view) (h2 : a.seq = b.seq) (h3 : a.digest = b.digest) (h4 : a.firstS = b.firstS) (h5 : a.signs = b.signs) (h6 : a.batch = b.batch) : a = b := by cases a; cases b; simp_all
theorem prepB_pi : PI prepB (fun p => prepE p = 0 ∧ bSized p.batch) := by
  intro a b r s ⟨ha, sa⟩ ⟨hb, sb⟩ e
  unfold prepE at ha hb
  rw [orE_zero, orE_zero, orE_zero, orE_zero, orE_zero, numE_ok, posE_ok, posE_ok] at ha hb
  obtain ⟨a1, a2, a3, a4, a5, a6⟩ := ha
  obtain ⟨b1, b2, b3, b4, b5, b6⟩ := hb
  unfold prepB at e
  simp only [List.append_assoc] at e
  obtain ⟨h1, e2⟩ := nums_pi [a.view, a.seq, a.digest] [b.view, b.seq, b.digest] _ _ (by intro x hx; simp at hx; omega) (by intro x hx; simp at hx; omega) rfl e
  obtain ⟨h2, e3⟩ := signP_pi _ _ _ _ a4 b4 e2
  obtain ⟨h3, e4⟩ := signsB_pi _ _ _ _ a5 b5 e3
  obtain ⟨h4, e5⟩ := batchP_pi _ _ _ _ ⟨a6, sa⟩ ⟨b6, sb⟩ e4
  simp only [List.cons.injEq] at h1
  exact ⟨PreparedD.ext' h1.1 h1.2.1 h1.2.2.1 h2 h3 h4, e5⟩
theorem ChangeD.ext' {a b : ChangeD} (h1 : a.view = b.view) (h2 : a.src = b.src) (h3 : a.cert = b.cert) (h4 : a.above = b.above) (h5 : a.sign = b.sign) : a = b := by cases a; cases b; simp_all
def cSized (c : ChangeD) : Prop := ∀ p ∈ c.above, bSized p.batch
theorem chgE_ok {c : ChangeD} (h : chgE c = 0) : (1 ≤ c.view ∧ c.view ≤ 9007199254740992) ∧ (0 ≤ c.src ∧ c.src ≤ 12) ∧ certE c.cert = 0 ∧ c.above.length ≤ 8 ∧ (∀ p ∈ c.above, prepE p = 0) ∧ signE c.sign = 0 := by
  unfold chgE at h
  rw [orE_zero, orE_zero, orE_zero, orE_zero, orE_zero, posE_ok, brokE_ok, manyE_ok, listE_zero] at h
  exact ⟨h.1, h.2.1, h.2.2.1, by omega, h.2.2.2.2.1, h.2.2.2.2.2⟩
theorem bodyC_pi : ∀ (a b : ChangeD) (r s : List UInt8), chgE a = 0 → cSized a → chgE b = 0 → cSized b → bodyC a ++ r = bodyC b ++ s → (a.view = b.view ∧ a.src = b.src ∧ a.cert = b.cert ∧ a.above = b.above) ∧ r = s := by
  intro a b r s ha sa hb sb e
  obtain ⟨a1, a2, a3, a4, a5, a6⟩ := chgE_ok ha
  obtain ⟨b1, b2, b3, b4, b5, b6⟩ := chgE_ok hb
  unfold bodyC at e
  simp only [List.append_assoc] at e
  obtain ⟨h1, e2⟩ := nums_pi [a.view, a.src] [b.view, b.src] _ _ (by intro x hx; simp at hx; omega) (by intro x hx; simp at hx; omega) rfl e
  obtain ⟨h2, e3⟩ := certB_pi _ _ _ _ a3 b3 e2
  rw [← List.append_assoc, ← List.append_assoc] at e3
  obtain ⟨h3, e4⟩ := many_pi prepB_pi a.above b.above r s ⟨by omega, fun p hp => ⟨a5 p hp, sa p hp⟩⟩ ⟨by omega, fun p hp => ⟨b5 p hp, sb p hp⟩⟩ e3
  simp only [List.cons.injEq] at h1
  exact ⟨⟨h1.1, h1.2.1, h2, h3⟩, e4⟩
theorem chgB_pi : PI chgB (fun c => chgE c = 0 ∧ cSized c) := by
  intro a b r s ⟨ha, sa⟩ ⟨hb, sb⟩ e
  unfold chgB at e
  rw [List.append_assoc, List.append_assoc] at e
  obtain ⟨⟨h1, h2, h3, h4⟩, e2⟩ := bodyC_pi a b _ _ ha sa hb sb e
  obtain ⟨h5, e3⟩ := signP_pi _ _ _ _ (chgE_ok ha).2.2.2.2.2 (chgE_ok hb).2.2.2.2.2 e2
  exact ⟨ChangeD.ext' h1 h2 h3 h4 h5, e3⟩
theorem EntryD.ext' {a b : EntryD} (h1 : a.view = b.view) (h2 : a.seq = b.seq) (h3 : a.batch = b.batch) (h4 : a.sign = b.sign) : a = b := by cases a; cases b; simp_all
theorem entryB_pi : PI entryB (fun x => entryE x = 0 ∧ bSized x.batch) := by
  intro a b r s ⟨ha, sa⟩ ⟨hb, sb⟩ e
  unfold entryE at ha hb
  rw [orE_zero, orE_zero, orE_zero, numE_ok, posE_ok] at ha hb
  obtain ⟨a1, a2, a3, a4⟩ := ha
  obtain ⟨b1, b2, b3, b4⟩ := hb
  unfold entryB at e
  simp only [List.append_assoc] at e
  obtain ⟨h1, e2⟩ := nums_pi [a.view, a.seq] [b.view, b.seq] _ _ (by intro x hx; simp at hx; omega) (by intro x hx; simp at hx; omega) rfl e
  obtain ⟨h2, e3⟩ := batchP_pi _ _ _ _ ⟨a3, sa⟩ ⟨b3, sb⟩ e2
  obtain ⟨h3, e4⟩ := signP_pi _ _ _ _ a4 b4 e3
  simp only [List.cons.injEq] at h1
  exact ⟨EntryD.ext' h1.1 h1.2.1 h2 h3, e4⟩
theorem HeaderD.ext' {a b : HeaderD} (h1 : a.seq = b.seq) (h2 : a.prev = b.prev) (h3 : a.batch = b.batch) (h4 : a.root = b.root) (h5 : a.state = b.state) : a = b := by cases a; cases b; simp_all
theorem headB_pi : PI headB (fun h => headE h = 0) := by
  intro a b r s ha hb e
  unfold headE at ha hb
  rw [orE_zero, orE_zero, orE_zero, orE_zero, posE_ok, numE_ok, numE_ok, numE_ok, numE_ok] at ha hb
  obtain ⟨h1, e2⟩ := nums_pi [a.seq, a.prev, a.batch, a.root, a.state] [b.seq, b.prev, b.batch, b.root, b.state] _ _ (by intro x hx; simp at hx; omega) (by intro x hx; simp at hx; omega) rfl e
  simp only [List.cons.injEq] at h1
  exact ⟨HeaderD.ext' h1.1 h1.2.1 h1.2.2.1 h1.2.2.2.1 h1.2.2.2.2.1, e2⟩
end Go.Proofs.YteaggenihhaajaaGreat

/- A message's bytes without its signature tell the message, but for the signature: plain. No program here. -/
namespace Go.Proofs.YteaggenihhaajaaGreat
open Go.RowKit
set_option linter.unusedVariables false

theorem ProofD.ext' {a b : ProofD} (h1 : a.topic = b.topic) (h2 : a.offset = b.offset) (h3 : a.record = b.record) (h4 : a.headers = b.headers) (h5 : a.index = b.index) (h6 : a.count = b.count) (h7 : a.path = b.path) (h8 : a.cert = b.cert) : a = b := by cases a; cases b; simp_all
theorem proofB_pi : PI proofB (fun p => proofE p = 0 ∧ p.topic.length ≤ 4194304 ∧ p.record.length ≤ 4194304) := by
  intro a b r s ⟨ha, sa, sa2⟩ ⟨hb, sb, sb2⟩ e
  unfold proofE at ha hb
  simp only [orE_zero, numE_ok, manyE_ok, rangeE_ok, listE_zero] at ha hb
  obtain ⟨a1, a2, a3, a4, a5, a6, a7, a8, a9, a10, a11⟩ := ha
  obtain ⟨b1, b2, b3, b4, b5, b6, b7, b8, b9, b10, b11⟩ := hb
  unfold proofB at e
  simp only [List.append_assoc] at e
  obtain ⟨h1, e2⟩ := byF_pi _ _ _ _ (show a.topic.length < _ by omega) (show b.topic.length < _ by omega) e
  obtain ⟨h2, e3⟩ := nums_pi [a.offset] [b.offset] _ _ (by intro x hx; simp at hx; omega) (by intro x hx; simp at hx; omega) rfl e2
  obtain ⟨h3, e4⟩ := byF_pi _ _ _ _ (show a.record.length < _ by omega) (show b.record.length < _ by omega) e3
  rw [← List.append_assoc, ← List.append_assoc (encI (b.headers.length : Int))] at e4
  obtain ⟨h4, e5⟩ := many_pi headB_pi a.headers b.headers _ _ ⟨by omega, a5⟩ ⟨by omega, b5⟩ e4
  obtain ⟨h5, e6⟩ := nums_pi [a.index, a.count] [b.index, b.count] _ _ (by intro x hx; simp at hx; omega) (by intro x hx; simp at hx; omega) rfl e5
  rw [← List.append_assoc, ← List.append_assoc (encI (b.path.length : Int))] at e6
  obtain ⟨h6, e7⟩ := many_pi (encI_pi.mono (Q := fun n => 0 ≤ n ∧ n ≤ 9007199254740992) (fun n hn => by omega)) a.path b.path _ _ ⟨by omega, a10⟩ ⟨by omega, b10⟩ e6
  obtain ⟨h7, e8⟩ := certB_pi _ _ _ _ a11 b11 e7
  simp only [List.cons.injEq] at h2 h5
  exact ⟨ProofD.ext' h1 h2.1 h3 h4 h5.1 h5.2.1 h6 h7, e8⟩
structure mSized (m : MsgD) : Prop where
  batch : bSized m.batch
  changes : ∀ c ∈ m.changes, cSized c
  entries : ∀ x ∈ m.entries, bSized x.batch
  state : m.state.length ≤ 4194304
  topic : m.topic.length ≤ 4194304
  ptopic : m.proof.topic.length ≤ 4194304
  precord : m.proof.record.length ≤ 4194304
/-- messages alike but for the signature of their own -/
def alike (a b : MsgD) : Prop :=
  if a.kind = 7 then ∃ c d, a.changes = [c] ∧ b.changes = [d] ∧ c.view = d.view ∧ c.src = d.src ∧ c.cert = d.cert ∧ c.above = d.above ∧ bareF a = { bareF b with changes := [c] }
  else { bareF a with sign := zSign } = { bareF b with sign := zSign }
theorem kind_range {m : MsgD} (h : kindE m = 0) : 1 ≤ m.kind ∧ m.kind ≤ 12 := by
  unfold kindE at h
  repeat' split at h
  all_goals first
    | omega
    | cases h
set_option maxRecDepth 4000 in
theorem unsB_pi (a b : MsgD) (ha : kindE a = 0) (sa : mSized a) (hb : kindE b = 0) (sb : mSized b) (za : a.kind = 7 → a.sign = zSign) (zb : b.kind = 7 → b.sign = zSign) {r s : List UInt8} (e : unsB a ++ r = unsB b ++ s) : (a.kind = b.kind ∧ alike a b) ∧ r = s := by
  have ra := kind_range ha
  have rb := kind_range hb
  unfold unsB at e
  rw [List.append_assoc, List.append_assoc] at e
  obtain ⟨hk, e⟩ := encI_pi a.kind b.kind _ _ (by omega) (by omega) e
  unfold tailB at e
  suffices hh : alike a b ∧ r = s from ⟨⟨hk, hh.1⟩, hh.2⟩
  rw [hk] at e
  unfold kindE at ha hb
  rw [hk] at ha
  unfold alike bareF
  rw [hk]
  obtain ⟨k, hk2⟩ : ∃ k, b.kind = k := ⟨_, rfl⟩
  rw [hk2] at ha hb e rb ⊢
  have hkk : k = 1 ∨ k = 2 ∨ k = 3 ∨ k = 4 ∨ k = 5 ∨ k = 6 ∨ k = 7 ∨ k = 8 ∨ k = 9 ∨ k = 10 ∨ k = 11 ∨ k = 12 := by omega
  rcases hkk with rfl | rfl | rfl | rfl | rfl | rfl | rfl | rfl | rfl | rfl | rfl | rfl
  · simp [orE_zero] at ha hb e ⊢
    exact batchP_pi _ _ r s ⟨ha.2, sa.batch⟩ ⟨hb.2, sb.batch⟩ e
  · simp [orE_zero, voteE, numE_ok, posE_ok, brokE_ok] at ha hb e ⊢
    obtain ⟨⟨a1, a2, a3, a4⟩, a5⟩ := ha
    obtain ⟨⟨b1, b2, b3, b4⟩, b5⟩ := hb
    obtain ⟨h1, e2⟩ := nums_pi [a.src, a.view, a.seq, a.digest] [b.src, b.view, b.seq, b.digest] _ _ (by intro x hx; simp at hx; omega) (by intro x hx; simp at hx; omega) rfl e
    obtain ⟨h2, e3⟩ := batchP_pi _ _ r s ⟨a5, sa.batch⟩ ⟨b5, sb.batch⟩ e2
    simp only [List.cons.injEq] at h1
    exact ⟨⟨h1.1, h1.2.1, h1.2.2.1, h1.2.2.2.1, h2⟩, e3⟩
  · simp [orE_zero, voteE, numE_ok, posE_ok, brokE_ok] at ha hb e ⊢
    obtain ⟨a1, a2, a3, a4⟩ := ha
    obtain ⟨b1, b2, b3, b4⟩ := hb
    obtain ⟨h1, e2⟩ := nums_pi [a.src, a.view, a.seq, a.digest] [b.src, b.view, b.seq, b.digest] r s (by intro x hx; simp at hx; omega) (by intro x hx; simp at hx; omega) rfl e
    simp only [List.cons.injEq] at h1
    exact ⟨⟨h1.1, h1.2.1, h1.2.2.1, h1.2.2.2.1⟩, e2⟩
  · simp [orE_zero, voteE, numE_ok, posE_ok, brokE_ok] at ha hb e ⊢
    obtain ⟨a1, a2, a3, a4⟩ := ha
    obtain ⟨b1, b2, b3, b4⟩ := hb
    obtain ⟨h1, e2⟩ := nums_pi [a.src, a.view, a.seq, a.digest] [b.src, b.view, b.seq, b.digest] r s (by intro x hx; simp at hx; omega) (by intro x hx; simp at hx; omega) rfl e
    simp only [List.cons.injEq] at h1
    exact ⟨⟨h1.1, h1.2.1, h1.2.2.1, h1.2.2.2.1⟩, e2⟩
  · simp [orE_zero, numE_ok, brokE_ok, rangeE_ok] at ha hb e ⊢
    obtain ⟨a1, a2, a3, a4, a5, a6⟩ := ha
    obtain ⟨b1, b2, b3, b4, b5, b6⟩ := hb
    obtain ⟨h1, e2⟩ := nums_pi [a.src, a.view, a.client, a.time] [b.src, b.view, b.client, b.time] _ _ (by intro x hx; simp at hx; omega) (by intro x hx; simp at hx; omega) rfl e
    unfold resultB at e2
    rw [show max a.result.err 0 = a.result.err by omega, show max b.result.err 0 = b.result.err by omega, show max a.result.offset 0 = a.result.offset by omega, show max b.result.offset 0 = b.result.offset by omega] at e2
    rw [List.append_assoc, List.append_assoc] at e2
    obtain ⟨h2, e3⟩ := enc_pi _ _ _ _ (show a.result.err.toNat < _ by omega) (show b.result.err.toNat < _ by omega) e2
    obtain ⟨h3, e4⟩ := enc_pi _ _ r s (show a.result.offset.toNat < _ by omega) (show b.result.offset.toNat < _ by omega) e3
    simp only [List.cons.injEq] at h1
    refine ⟨⟨h1.1, h1.2.1, h1.2.2.1, h1.2.2.2.1, ?_⟩, e4⟩
    have q1 : a.result.err = b.result.err := by omega
    have q2 : a.result.offset = b.result.offset := by omega
    cases ra' : a.result; cases rb' : b.result
    simp_all
  · simp [orE_zero, posE_ok, brokE_ok] at ha hb e ⊢
    obtain ⟨a1, a2, a3⟩ := ha
    obtain ⟨b1, b2, b3⟩ := hb
    obtain ⟨h1, e2⟩ := nums_pi [a.src, a.seq, a.digest] [b.src, b.seq, b.digest] r s (by intro x hx; simp at hx; omega) (by intro x hx; simp at hx; omega) rfl e
    simp only [List.cons.injEq] at h1
    exact ⟨⟨h1.1, h1.2.1, h1.2.2.1⟩, e2⟩
  · simp [orE_zero, rangeE_ok] at ha hb e ⊢
    obtain ⟨⟨a1, a2⟩, a3⟩ := ha
    obtain ⟨⟨b1, b2⟩, b3⟩ := hb
    obtain ⟨c, hc⟩ : ∃ c, a.changes = [c] := by
      cases hx : a.changes with
      | nil => rw [hx] at a1; simp at a1
      | cons c r => cases r with
        | nil => exact ⟨c, rfl⟩
        | cons _ _ => rw [hx] at a2; simp at a2; omega
    obtain ⟨d, hd⟩ : ∃ d, b.changes = [d] := by
      cases hx : b.changes with
      | nil => rw [hx] at b1; simp at b1
      | cons c r => cases r with
        | nil => exact ⟨c, rfl⟩
        | cons _ _ => rw [hx] at b2; simp at b2; omega
    rw [hc] at a3 e
    rw [hd] at b3 e
    simp only [listE, orE_z, viewE, orE_zero] at a3 b3
    obtain ⟨⟨h1, h2, h3, h4⟩, e2⟩ := bodyC_pi c d r s a3.1 (sa.changes c (by rw [hc]; simp)) b3.1 (sb.changes d (by rw [hd]; simp)) e
    have q1 : c.src = a.src ∧ c.view = a.view := by
      have := a3.2
      split at this
      · cases this
      · rename_i hn; simp only [not_or, Decidable.not_not] at hn; exact hn
    have q2 : d.src = b.src ∧ d.view = b.view := by
      have := b3.2
      split at this
      · cases this
      · rename_i hn; simp only [not_or, Decidable.not_not] at hn; exact hn
    exact ⟨⟨c, hc, d, hd, h1, h2, h3, h4, by rw [← q1.1, ← q2.1, h2], by rw [← q1.2, ← q2.2, h1], hc, by simp [signedK]⟩, e2⟩
  · simp [orE_zero, newE, posE_ok, brokE_ok, manyE_ok, listE_zero] at ha hb e ⊢
    obtain ⟨a1, a2, a3, a4, a5, a6⟩ := ha
    obtain ⟨b1, b2, b3, b4, b5, b6⟩ := hb
    obtain ⟨h1, e2⟩ := nums_pi [a.src, a.view] [b.src, b.view] _ _ (by intro x hx; simp at hx; omega) (by intro x hx; simp at hx; omega) rfl e
    rw [← List.append_assoc, ← List.append_assoc (encI (b.changes.length : Int))] at e2
    obtain ⟨h2, e3⟩ := many_pi chgB_pi a.changes b.changes _ _ ⟨by omega, fun c hc => ⟨a4 c hc, sa.changes c hc⟩⟩ ⟨by omega, fun c hc => ⟨b4 c hc, sb.changes c hc⟩⟩ e2
    rw [← List.append_assoc, ← List.append_assoc (encI (b.entries.length : Int))] at e3
    obtain ⟨h3, e4⟩ := many_pi entryB_pi a.entries b.entries r s ⟨by omega, fun c hc => ⟨a6 c hc, sa.entries c hc⟩⟩ ⟨by omega, fun c hc => ⟨b6 c hc, sb.entries c hc⟩⟩ e3
    simp only [List.cons.injEq] at h1
    exact ⟨⟨h1.1, h1.2.1, h2, h3⟩, e4⟩
  · simp [orE_zero, numE_ok, brokE_ok] at ha hb e ⊢
    obtain ⟨a1, a2⟩ := ha
    obtain ⟨b1, b2⟩ := hb
    obtain ⟨h1, e2⟩ := nums_pi [a.src, a.seq] [b.src, b.seq] r s (by intro x hx; simp at hx; omega) (by intro x hx; simp at hx; omega) rfl e
    simp only [List.cons.injEq] at h1
    exact ⟨⟨h1.1, h1.2.1⟩, e2⟩
  · simp [orE_zero, brokE_ok, manyE_ok] at ha hb e ⊢
    obtain ⟨a1, a2, a3⟩ := ha
    obtain ⟨b1, b2, b3⟩ := hb
    obtain ⟨h1, e2⟩ := nums_pi [a.src] [b.src] _ _ (by intro x hx; simp at hx; omega) (by intro x hx; simp at hx; omega) rfl e
    obtain ⟨h2, e3⟩ := certB_pi _ _ _ _ a2 b2 e2
    have la := sa.state
    have lb := sb.state
    obtain ⟨h3, e4⟩ := byF_pi _ _ r s (show a.state.length < _ by omega) (show b.state.length < _ by omega) e3
    simp only [List.cons.injEq] at h1
    exact ⟨⟨h1.1, h2, h3⟩, e4⟩
  · simp [orE_zero, numE_ok, rangeE_ok] at ha hb e ⊢
    obtain ⟨a1, a2, a3⟩ := ha
    obtain ⟨b1, b2, b3⟩ := hb
    obtain ⟨h1, e2⟩ := nums_pi [a.client] [b.client] _ _ (by intro x hx; simp at hx; omega) (by intro x hx; simp at hx; omega) rfl e
    have la := sa.topic
    have lb := sb.topic
    obtain ⟨h2, e3⟩ := byF_pi _ _ _ _ (show a.topic.length < _ by omega) (show b.topic.length < _ by omega) e2
    obtain ⟨h3, e4⟩ := nums_pi [a.offset] [b.offset] r s (by intro x hx; simp at hx; omega) (by intro x hx; simp at hx; omega) rfl e3
    simp only [List.cons.injEq] at h1 h3
    exact ⟨⟨h1.1, h2, h3.1⟩, e4⟩
  · simp [orE_zero, brokE_ok] at ha hb e ⊢
    obtain ⟨a1, a2⟩ := ha
    obtain ⟨b1, b2⟩ := hb
    obtain ⟨h1, e2⟩ := nums_pi [a.src] [b.src] _ _ (by intro x hx; simp at hx; omega) (by intro x hx; simp at hx; omega) rfl e
    obtain ⟨h2, e3⟩ := proofB_pi _ _ r s ⟨a2, sa.ptopic, sa.precord⟩ ⟨b2, sb.ptopic, sb.precord⟩ e2
    simp only [List.cons.injEq] at h1
    exact ⟨⟨h1.1, h2⟩, e3⟩
end Go.Proofs.YteaggenihhaajaaGreat
