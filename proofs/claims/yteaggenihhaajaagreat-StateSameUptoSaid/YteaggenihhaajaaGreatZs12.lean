/- Lemmas and contracts, part 12. -/
import Derived.Test.YteaggenihhaajaaGreatZs11
import Derived.Laws.RangeAny
/- Operations, requests, signatures and batches in plain Lean: what may be, and their bytes. No program here. -/
namespace Go.Proofs.YteaggenihhaajaaGreat
open Go.RowKit
set_option linter.unusedVariables false

/-- the first error of two -/
def orE (a b : Int) : Int := if a = 0 then b else a
theorem orE_zero {a b : Int} : orE a b = 0 ↔ a = 0 ∧ b = 0 := by
  unfold orE
  split
  · rename_i h; simp [h]
  · rename_i h; simp [h]
def badR (r : Nat) : Bool := decide (r < 33) || (decide (127 ≤ r) && decide (r ≤ 159)) || decide (r = 47) || decide (r = 65533)
/-- the runes from a place on, counted; none: one may not be -/
def runesGo (s : ByteArray) : Nat → Nat → Nat → Option Nat
  | 0, _, n => some n
  | k + 1, pos, n => if pos < s.size then if badR (Utf8.decode s pos).1 then none else runesGo s k (pos + (Utf8.decode s pos).2) (n + 1) else some n
def runesF (s : List UInt8) : Nat :=
  match runesGo (bstr s) (s.length + 1) 0 0 with
  | none => 0
  | some n => if 16 < n then 0 else n
def nameF (s : List UInt8) : Bool := decide (0 < runesF s)
/-- an operation with the fields of its kind alone -/
def onlyF (o : OpD) : OpD :=
  if o.kind = 1 then ⟨1, o.topic, [], 0, []⟩
  else if o.kind = 2 then ⟨2, o.topic, [], 0, o.records⟩
  else if o.kind = 3 then ⟨3, o.topic, o.group, o.offset, []⟩
  else if o.kind = 4 then ⟨4, o.topic, [], o.offset, []⟩
  else ⟨o.kind, [], [], 0, []⟩
def kindOk (o : OpD) : Bool := decide (0 ≤ o.kind ∧ o.kind ≤ 4)
theorem OpD.ext_iff' {a b : OpD} : a = b ↔ a.kind = b.kind ∧ a.topic = b.topic ∧ a.group = b.group ∧ a.offset = b.offset ∧ a.records = b.records := by
  cases a; cases b; simp
def sameOp (a b : OpD) : Bool := decide (a.kind = b.kind) && decide (a.topic = b.topic) && decide (a.group = b.group) && decide (a.offset = b.offset) && decide (a.records = b.records)
theorem sameOp_iff {a b : OpD} : sameOp a b = true ↔ a = b := by
  rw [OpD.ext_iff']; simp [sameOp, and_assoc]
def longF (o : OpD) : Bool := o.records.any fun r => decide (64 < r.length)
/-- what is wrong with an operation -/
def opE (o : OpD) : Int :=
  if kindOk o = false ∨ sameOp o (onlyF o) = false then 60
  else if o.kind ≠ 0 ∧ nameF o.topic = false then 61
  else if o.kind = 3 ∧ nameF o.group = false then 61
  else if o.kind = 2 ∧ (o.records.length < 1 ∨ 4 < o.records.length ∨ longF o = true) then 62
  else if o.offset < 0 ∨ 9007199254740992 < o.offset then 60
  else 0
/-- a byte string's form -/
def byF (b : List UInt8) : List UInt8 := enc b.length ++ b
/-- an operation's bytes -/
def opB (o : OpD) : List UInt8 :=
  enc o.kind.toNat ++ (if o.kind = 0 then [] else byF o.topic) ++
    (if o.kind = 2 then enc o.records.length ++ o.records.flatMap byF else if o.kind = 3 then byF o.group ++ enc o.offset.toNat else if o.kind = 4 then enc o.offset.toNat else [])
def signE (s : SignD) : Int := if s.key < 0 ∨ 21 ≤ s.key ∨ s.digest < 1 ∨ 9007199254740992 < s.digest then 81 else 0
def reqE (x : RequestD) : Int := if x.client < 0 ∨ 8 ≤ x.client ∨ x.time < 1 ∨ 9007199254740992 < x.time then 80 else opE x.op
def reqB (x : RequestD) : List UInt8 := enc x.client.toNat ++ enc x.time.toNat ++ opB x.op
def signB (s : SignD) : List UInt8 := enc s.key.toNat ++ enc s.digest.toNat
/-- the first error of the requests and signatures of a batch -/
def partsE : List SignedD → Int
  | [] => 0
  | s :: r => orE (reqE s.request) (orE (signE s.sign) (partsE r))
def twin (a b : SignedD) : Bool := decide (a.request.client = b.request.client) && decide (a.request.time = b.request.time)
def twinsF (l : List SignedD) : Bool := (List.range l.length).any fun i => (List.range i).any fun k => match l[i]?, l[k]? with | some a, some b => twin a b | _, _ => false
def batchE (l : List SignedD) : Int := if 4 < l.length then 3 else orE (partsE l) (if twinsF l then 5 else 0)
def signedB (s : SignedD) : List UInt8 := byF (reqB s.request) ++ signB s.sign
def batchB (l : List SignedD) : List UInt8 := enc l.length ++ l.flatMap signedB
end Go.Proofs.YteaggenihhaajaaGreat

/- Messages in plain Lean: what may be, and their bytes. No program here. -/
namespace Go.Proofs.YteaggenihhaajaaGreat
open Go.RowKit
set_option linter.unusedVariables false

theorem orE_assoc (a b c : Int) : orE (orE a b) c = orE a (orE b c) := by
  unfold orE
  by_cases h : a = 0 <;> simp [h]
theorem orE_z (a : Int) : orE a 0 = a := by unfold orE; split <;> simp_all
theorem z_orE (a : Int) : orE 0 a = a := by simp [orE]
/-- the first error of a list -/
def listE {α : Type} (f : α → Int) : List α → Int
  | [] => 0
  | x :: r => orE (f x) (listE f r)
theorem listE_snoc {α : Type} (f : α → Int) (l : List α) (x : α) : listE f (l ++ [x]) = orE (listE f l) (f x) := by
  induction l with
  | nil => simp [listE, orE_z, z_orE]
  | cons y r ih => simp only [List.cons_append, listE, ih, orE_assoc]
theorem listE_zero {α : Type} {f : α → Int} {l : List α} : listE f l = 0 ↔ ∀ x ∈ l, f x = 0 := by
  induction l with
  | nil => simp [listE]
  | cons y r ih => simp [listE, orE_zero, ih]
def rangeE (n least most : Int) : Int := if n < least ∨ most < n then 100 else 0
def numE (n : Int) : Int := rangeE n 0 9007199254740992
def posE (n : Int) : Int := rangeE n 1 9007199254740992
def brokE (n : Int) : Int := rangeE n 0 12
def manyE (n : Nat) (most : Int) : Int := rangeE (n : Int) 0 most
def nameE (s : List UInt8) : Int := if nameF s then 0 else 61
def signsE (l : List SignD) : Int := orE (manyE l.length 13) (listE signE l)
def certE (c : CertD) : Int :=
  orE (numE c.seq) (orE (numE c.digest) (orE (if (decide (c.seq = 0) != decide (c.digest = 0)) || (decide (c.seq = 0) && decide (0 < c.signs.length)) then 100 else 0) (signsE c.signs)))
def prepE (p : PreparedD) : Int := orE (numE p.view) (orE (posE p.seq) (orE (posE p.digest) (orE (signE p.firstS) (orE (signsE p.signs) (batchE p.batch)))))
def chgE (c : ChangeD) : Int := orE (posE c.view) (orE (brokE c.src) (orE (certE c.cert) (orE (manyE c.above.length 8) (orE (listE prepE c.above) (signE c.sign)))))
def headE (h : HeaderD) : Int := orE (posE h.seq) (orE (numE h.prev) (orE (numE h.batch) (orE (numE h.root) (numE h.state))))
def proofE (p : ProofD) : Int :=
  orE (nameE p.topic) (orE (numE p.offset) (orE (manyE p.record.length 64) (orE (manyE p.headers.length 64) (orE (listE headE p.headers) (orE (numE p.index) (orE (rangeE p.count 0 16) (orE (rangeE p.index 0 (p.count - 1)) (orE (manyE p.path.length 8) (orE (listE numE p.path) (certE p.cert))))))))))
def voteE (m : MsgD) : Int := orE (brokE m.src) (orE (numE m.view) (orE (posE m.seq) (posE m.digest)))
def entryE (x : EntryD) : Int := orE (numE x.view) (orE (posE x.seq) (orE (batchE x.batch) (signE x.sign)))
def newE (m : MsgD) : Int := orE (brokE m.src) (orE (posE m.view) (orE (manyE m.changes.length 13) (orE (listE chgE m.changes) (orE (manyE m.entries.length 8) (listE entryE m.entries)))))
def viewE (m : MsgD) (c : ChangeD) : Int := orE (chgE c) (if c.src ≠ m.src ∨ c.view ≠ m.view then 100 else 0)
/-- messages of a kind have a signature of their own -/
def signedK (k : Int) : Bool := decide (k = 2) || decide (k = 3) || decide (k = 4) || decide (k = 5) || decide (k = 6) || decide (k = 8) || decide (k = 9)
def kindE (m : MsgD) : Int :=
  if m.kind = 1 then orE (rangeE (m.batch.length : Int) 1 1) (batchE m.batch)
  else if m.kind = 2 then orE (voteE m) (batchE m.batch)
  else if m.kind = 3 then voteE m
  else if m.kind = 4 then voteE m
  else if m.kind = 5 then orE (brokE m.src) (orE (numE m.view) (orE (rangeE m.client 0 7) (orE (numE m.time) (orE (rangeE m.result.err 0 65536) (numE m.result.offset)))))
  else if m.kind = 6 then orE (brokE m.src) (orE (posE m.seq) (posE m.digest))
  else if m.kind = 7 then orE (rangeE (m.changes.length : Int) 1 1) (listE (viewE m) m.changes)
  else if m.kind = 8 then newE m
  else if m.kind = 9 then orE (brokE m.src) (numE m.seq)
  else if m.kind = 10 then orE (brokE m.src) (orE (certE m.cert) (manyE m.state.length 262144))
  else if m.kind = 11 then orE (rangeE m.client 0 7) (orE (nameE m.topic) (numE m.offset))
  else if m.kind = 12 then orE (brokE m.src) (proofE m.proof)
  else 100
def msgE (m : MsgD) : Int := orE (kindE m) (if signedK m.kind then signE m.sign else 0)
/-! the zero values -/
def zSign : SignD := ⟨0, 0⟩
def zResult : ResultD := ⟨0, 0⟩
def zCert : CertD := ⟨0, 0, []⟩
def zProof : ProofD := ⟨[], 0, [], [], 0, 0, [], zCert⟩
def zMsg : MsgD := ⟨0, 0, 0, 0, 0, 0, 0, zResult, [], zCert, [], [], [], [], 0, zProof, zSign⟩
/-- a message with the fields of its kind alone -/
def bareF (m : MsgD) : MsgD :=
  let s := if signedK m.kind then m.sign else zSign
  if m.kind = 1 then { zMsg with kind := m.kind, batch := m.batch, sign := s }
  else if m.kind = 2 then { zMsg with kind := m.kind, src := m.src, view := m.view, seq := m.seq, digest := m.digest, batch := m.batch, sign := s }
  else if m.kind = 3 ∨ m.kind = 4 then { zMsg with kind := m.kind, src := m.src, view := m.view, seq := m.seq, digest := m.digest, sign := s }
  else if m.kind = 5 then { zMsg with kind := m.kind, src := m.src, view := m.view, client := m.client, time := m.time, result := m.result, sign := s }
  else if m.kind = 6 then { zMsg with kind := m.kind, src := m.src, seq := m.seq, digest := m.digest, sign := s }
  else if m.kind = 7 then { zMsg with kind := m.kind, src := m.src, view := m.view, changes := m.changes, sign := s }
  else if m.kind = 8 then { zMsg with kind := m.kind, src := m.src, view := m.view, changes := m.changes, entries := m.entries, sign := s }
  else if m.kind = 9 then { zMsg with kind := m.kind, src := m.src, seq := m.seq, sign := s }
  else if m.kind = 10 then { zMsg with kind := m.kind, src := m.src, cert := m.cert, state := m.state, sign := s }
  else if m.kind = 11 then { zMsg with kind := m.kind, client := m.client, topic := m.topic, offset := m.offset, sign := s }
  else if m.kind = 12 then { zMsg with kind := m.kind, src := m.src, proof := m.proof, sign := s }
  else { zMsg with kind := m.kind, src := m.src, sign := s }
/-! bytes -/
/-- the form of an int64 turned to a uint64 -/
def encI (n : Int) : List UInt8 := enc (n % 18446744073709551616).toNat
theorem encI_nat {n : Int} (h : 0 ≤ n) (h2 : n < 18446744073709551616) : encI n = enc n.toNat := by
  unfold encI; rw [Int.emod_eq_of_lt h h2]
def numsB (l : List Int) : List UInt8 := l.flatMap encI
def signP (s : SignD) : List UInt8 := if signE s = 0 then signB s else []
def batchP (l : List SignedD) : List UInt8 := if batchE l = 0 then batchB l else []
def signsB (l : List SignD) : List UInt8 := encI (l.length : Int) ++ l.flatMap signP
def certB (c : CertD) : List UInt8 := numsB [c.seq, c.digest] ++ signsB c.signs
def prepB (p : PreparedD) : List UInt8 := numsB [p.view, p.seq, p.digest] ++ signP p.firstS ++ signsB p.signs ++ batchP p.batch
def bodyC (c : ChangeD) : List UInt8 := numsB [c.view, c.src] ++ certB c.cert ++ encI (c.above.length : Int) ++ c.above.flatMap prepB
def chgB (c : ChangeD) : List UInt8 := bodyC c ++ signP c.sign
def headB (h : HeaderD) : List UInt8 := numsB [h.seq, h.prev, h.batch, h.root, h.state]
def proofB (p : ProofD) : List UInt8 :=
  byF p.topic ++ numsB [p.offset] ++ byF p.record ++ encI (p.headers.length : Int) ++ p.headers.flatMap headB ++ numsB [p.index, p.count] ++ encI (p.path.length : Int) ++ p.path.flatMap encI ++ certB p.cert
def entryB (x : EntryD) : List UInt8 := numsB [x.view, x.seq] ++ batchP x.batch ++ signP x.sign
def resultB (r : ResultD) : List UInt8 := enc (max r.err 0).toNat ++ enc (max r.offset 0).toNat
def tailB (m : MsgD) : List UInt8 :=
  (if m.kind = 1 then batchP m.batch
  else if m.kind = 2 then numsB [m.src, m.view, m.seq, m.digest] ++ batchP m.batch
  else if m.kind = 3 ∨ m.kind = 4 then numsB [m.src, m.view, m.seq, m.digest]
  else if m.kind = 5 then numsB [m.src, m.view, m.client, m.time] ++ resultB m.result
  else if m.kind = 6 then numsB [m.src, m.seq, m.digest]
  else if m.kind = 7 then (match m.changes with | c :: _ => bodyC c | [] => [])
  else if m.kind = 8 then numsB [m.src, m.view] ++ encI (m.changes.length : Int) ++ m.changes.flatMap chgB ++ encI (m.entries.length : Int) ++ m.entries.flatMap entryB
  else if m.kind = 9 then numsB [m.src, m.seq]
  else if m.kind = 10 then numsB [m.src] ++ certB m.cert ++ byF m.state
  else if m.kind = 11 then numsB [m.client] ++ byF m.topic ++ numsB [m.offset]
  else if m.kind = 12 then numsB [m.src] ++ proofB m.proof
  else [])
def unsB (m : MsgD) : List UInt8 := encI m.kind ++ tailB m
end Go.Proofs.YteaggenihhaajaaGreat

/- The asker of package message: it keeps the first error. Its small methods, names, signatures, certificates. -/
namespace Go.Proofs.YteaggenihhaajaaGreat
open Go.RowKit
set_option linter.unusedVariables false
set_option maxRecDepth 20000

theorem w64 {e : Int} (h1 : -9223372036854775808 ≤ e) (h2 : e ≤ 9223372036854775807) : IntKind.i64.wrap e = e := by
  simp only [IntKind.wrap, IntKind.signed, IntKind.bits]
  simp
  omega
theorem listE_at {α : Type} (f : α → Int) {l : List α} {q : Nat} {x : α} (h : l[q]? = some x) : listE f (l.take (q + 1)) = orE (listE f (l.take q)) (f x) := by
  rw [List.take_add_one, h]
  exact listE_snoc f _ x
/-- the asker, with its first error -/
abbrev oAsk (e : Int) : List AO := [.cells 324 [.int .i64 e]]
abbrev FnAsk [Wd] (f : FuncId) (ar : List D) (x : Int) : Prop := ∀ e : Int, FnS Tryz.prog f (.ptr 0 0 :: ar) (oAsk e) (fun r h => r = .tup [] ∧ h = oAsk (orE e x))
section
variable {Q : Exit → S → Prop}
/-- the asker is asked -/
theorem okAskr [Wd] {f : FuncId} {ar ar' : List D} {x e : Int} {hb : List AO} {c : D → List AO → T} (o : Nat) (hF : FnAsk f ar x) (hv : vwP hb [o] [o] (oAsk e)) (hc : Cos ar' (D.ren.rl [o] (.ptr 0 0 :: ar))) (hM : ([o].all fun o => (foot hb ar').elem o) = true) (k : (c (.tup []) (upH hb [o] (oAsk e) (oAsk (orE e x)))).ok Tryz.prog Q) : (T.call f ar' hb c).ok Tryz.prog Q :=
  okCall [o] (hF e) (.mk' rfl hv) hc hM k
theorem endAsk [Wd] {tb : TT} {rs : List ResultVar} {ex : Exit} {s : S} {e e' : Int} {ds : List D} (σ : List Nat) (he : ex = .normal ∨ ex = .ret) (hr : resD tb s rs = some ds) (hn : nodupB σ = true) (hv : vwP s.h σ σ (oAsk e')) (hk : keepP 0 (oAsk e) σ (oAsk e')) (hco : Co (resV ds) (.tup [])) {x : Int} (hx : e' = orE e x) : (T.leaf ex s).ok Tryz.prog (Lf tb rs (oAsk e) (fun r h => r = .tup [] ∧ h = oAsk (orE e x))) := by
  subst hx
  exact endObj σ he hr hn hv hk hco
end
theorem says_s [Wd] (x : Int) : FnAsk 305 [.int .i64 x] x := by
  intro e
  refine mkS 13 [] Tryz.func305 rfl (by kernel_rfl) ?_
  repeat' ((conv => arg 2; whnf); first | refine okBrT ?_ | refine okBrF ?_ | refine okBr (fun h => ?_) (fun h => ?_) | refine endAsk [0] (.inl rfl) rfl rfl ⟨⟨rfl, rfl⟩, trivial⟩ ⟨⟨rfl, rfl⟩, trivial⟩ (.refl _) ?_)
  all_goals simp_all [orE]
theorem ask_s [Wd] (n a b : Int) : FnAsk 311 [.int .i64 n, .int .i64 a, .int .i64 b] (rangeE n a b) := by
  intro e
  refine mkS 18 [] Tryz.func311 rfl (by kernel_rfl) ?_
  repeat' ((conv => arg 2; whnf); first | refine okBrT ?_ | refine okBrF ?_ | refine okBr (fun h => ?_) (fun h => ?_) | refine okAskr 0 (says_s _) ⟨⟨rfl, rfl⟩, trivial⟩ (Cos.refl _) rfl ?_ | refine endAsk [0] (.inl rfl) rfl rfl ⟨⟨rfl, rfl⟩, trivial⟩ ⟨⟨rfl, rfl⟩, trivial⟩ (.refl _) ?_)
  all_goals simp_all [rangeE]
  all_goals (split <;> first | rfl | omega | (rw [orE_z]))
theorem askNum_s [Wd] (n : Int) : FnAsk 304 [.int .i64 n] (numE n) := by
  intro e
  refine mkS 7 [] Tryz.func304 rfl (by kernel_rfl) ?_
  repeat' ((conv => arg 2; whnf); first | refine okAskr 0 (ask_s _ _ _) ⟨⟨rfl, rfl⟩, trivial⟩ (Cos.refl _) rfl ?_ | exact endAsk [0] (.inl rfl) rfl rfl ⟨⟨rfl, rfl⟩, trivial⟩ ⟨⟨rfl, rfl⟩, trivial⟩ (.refl _) rfl)
theorem askPos_s [Wd] (n : Int) : FnAsk 307 [.int .i64 n] (posE n) := by
  intro e
  refine mkS 7 [] Tryz.func307 rfl (by kernel_rfl) ?_
  repeat' ((conv => arg 2; whnf); first | refine okAskr 0 (ask_s _ _ _) ⟨⟨rfl, rfl⟩, trivial⟩ (Cos.refl _) rfl ?_ | exact endAsk [0] (.inl rfl) rfl rfl ⟨⟨rfl, rfl⟩, trivial⟩ ⟨⟨rfl, rfl⟩, trivial⟩ (.refl _) rfl)
theorem askBroker_s [Wd] (n : Int) : FnAsk 308 [.int .i64 n] (brokE n) := by
  intro e
  refine mkS 7 [] Tryz.func308 rfl (by kernel_rfl) ?_
  repeat' ((conv => arg 2; whnf); first | refine okAskr 0 (ask_s _ _ _) ⟨⟨rfl, rfl⟩, trivial⟩ (Cos.refl _) rfl ?_ | exact endAsk [0] (.inl rfl) rfl rfl ⟨⟨rfl, rfl⟩, trivial⟩ ⟨⟨rfl, rfl⟩, trivial⟩ (.refl _) rfl)
theorem askMany_s [Wd] (n m : Int) : FnAsk 309 [.int .i64 n, .int .i64 m] (rangeE n 0 m) := by
  intro e
  refine mkS 10 [] Tryz.func309 rfl (by kernel_rfl) ?_
  repeat' ((conv => arg 2; whnf); first | refine okAskr 0 (ask_s _ _ _) ⟨⟨rfl, rfl⟩, trivial⟩ (Cos.refl _) rfl ?_ | exact endAsk [0] (.inl rfl) rfl rfl ⟨⟨rfl, rfl⟩, trivial⟩ ⟨⟨rfl, rfl⟩, trivial⟩ (.refl _) rfl)
/-- request.CheckSign -/
theorem cSign_s [Wd] (s : SignD) : FnP Tryz.prog 221 [.agg (cSign s)] (.int .i64 (signE s)) := by
  refine mkS 21 [] Tryz.func221 rfl (by kernel_rfl) ?_
  repeat' ((conv => arg 2; whnf); first | refine okBrT ?_ | refine okBrF ?_ | refine okBr (fun h => ?_) (fun h => ?_) | refine endInt (.inr rfl) rfl ?_)
  all_goals simp_all [signE]
  all_goals omega
theorem askSigns_s [Wd] (l : List SignD) (hl : l.length ≤ 4194304) : FnAsk 306 [.list 2 (l.map cSign)] (signsE l) := by
  intro e
  refine mkS 21 [] Tryz.func306 rfl (by kernel_rfl) ?_
  repeat' ((conv => arg 2; whnf); first | refine okAskr 0 (askMany_s _ _) ⟨⟨rfl, rfl⟩, trivial⟩ (Cos.refl _) rfl ?_ )
  refine okLoop (α := Nat × Int) (fun a => ⟨[(12, .int .i64 a.1), (11, .int .i64 (l.map cSign).length), (10, .list 2 (l.map cSign)), (0, .ptr 0 0)], oAsk a.2⟩) (fun a => a.1 ≤ l.length ∧ a.2 = orE (orE e (manyE l.length 13)) (listE signE (l.take a.1))) (fun a => l.length - a.1) (0, _) ⟨Nat.zero_le _, by simp [listE, orE_z, manyE]; rfl⟩ (Sv.mk' [0] rfl ⟨⟨rfl, rfl⟩, trivial⟩ ⟨rfl, rfl, rfl, rfl, trivial⟩) ?_
  rintro ⟨q, e'⟩ ⟨hq, he⟩
  repeat'
    (conv => arg 2; whnf)
    first
    | refine okBrT ?_
    | refine okBrF ?_
    | refine okBr (fun h => ?_) (fun h => ?_)
    | refine okNthMap (by simpa using h) (fun x hx => ?_)
    | refine okFn (cSign_s x) rfl (Cos.refl _) ?_
    | refine okAskr 0 (says_s _) ⟨⟨rfl, rfl⟩, trivial⟩ (Cos.refl _) rfl ?_
    | refine okWrap (w64 (by simp at h hq; omega) (by simp at h hq; omega)) ?_
    | refine okAgain (q + 1, _) (Sv.mk' [0] rfl ⟨⟨rfl, rfl⟩, trivial⟩ ⟨rfl, rfl, rfl, rfl, trivial⟩) ⟨?_, ?_⟩ ?_
    | refine okOut ?_
    | refine endAsk [0] (.inl rfl) rfl rfl ⟨⟨rfl, rfl⟩, trivial⟩ ⟨⟨rfl, rfl⟩, trivial⟩ (.refl _) ?_
  · show q + 1 ≤ l.length
    simp at h; omega
  · show orE e' (signE x) = _
    rw [listE_at signE hx, ← orE_assoc, ← he]
  · simp at h ⊢; omega
  · rw [he, show l.take q = l from List.take_of_length_le (by simp at h; omega), signsE, orE_assoc]
end Go.Proofs.YteaggenihhaajaaGreat

/- Bytes tell what was put: plain. No program here. -/
namespace Go.Proofs.YteaggenihhaajaaGreat
open Go.RowKit
set_option linter.unusedVariables false

theorem rangeE_ok {n a b : Int} : rangeE n a b = 0 ↔ a ≤ n ∧ n ≤ b := by
  unfold rangeE; split <;> simp <;> omega
/-! how long forms are -/
theorem encLe10 (n : Nat) : n < 18446744073709551616 → (enc n).length ≤ 10 := fun h => enc_10 h
theorem byF_len (b : List UInt8) (h : b.length ≤ 4194304) : (byF b).length ≤ b.length + 10 := by
  unfold byF
  have := encLe10 b.length (by omega)
  rw [List.length_append]; omega
theorem flat_len {α : Type} {f : α → List UInt8} {K : Nat} : ∀ (l : List α), (∀ x ∈ l, (f x).length ≤ K) → (l.flatMap f).length ≤ l.length * K
  | [], _ => by simp
  | x :: l, h => by
    have h1 := h x (by simp)
    have h2 := flat_len l (fun y hy => h y (by simp [hy]))
    simp only [List.flatMap_cons, List.length_append, List.length_cons]
    rw [Nat.add_mul]; omega
/-! batches -/
end Go.Proofs.YteaggenihhaajaaGreat

/- A message's bytes without its signature tell the message, but for the signature: plain. No program here. -/
namespace Go.Proofs.YteaggenihhaajaaGreat
open Go.RowKit
set_option linter.unusedVariables false

end Go.Proofs.YteaggenihhaajaaGreat
