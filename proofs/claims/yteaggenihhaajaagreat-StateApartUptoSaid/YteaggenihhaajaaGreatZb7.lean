/- Lemmas and contracts, part 7. -/
import Derived.Test.YteaggenihhaajaaGreatZb6
import Derived.Lib.ItoaNum
/- Lines of a script in plain Lean: words, numerals, bytes as words; a line tells its act. No program here. -/
namespace Go.Proofs.YteaggenihhaajaaGreat
open Go.RowKit
set_option linter.unusedVariables false

/-! bytes as words -/
/-! numerals -/
end Go.Proofs.YteaggenihhaajaaGreat

/- An act's line in plain Lean: a line tells its act. No program here. -/
namespace Go.Proofs.YteaggenihhaajaaGreat
open Go.RowKit
set_option linter.unusedVariables false

theorem MsgD.ext' {a b : MsgD} (h1 : a.kind = b.kind) (h2 : a.src = b.src) (h3 : a.view = b.view) (h4 : a.seq = b.seq) (h5 : a.digest = b.digest) (h6 : a.client = b.client) (h7 : a.time = b.time) (h8 : a.result = b.result) (h9 : a.batch = b.batch) (h10 : a.cert = b.cert) (h11 : a.changes = b.changes) (h12 : a.entries = b.entries) (h13 : a.state = b.state) (h14 : a.topic = b.topic) (h15 : a.offset = b.offset) (h16 : a.proof = b.proof) (h17 : a.sign = b.sign) : a = b := by
  cases a; cases b; simp_all
/-- a message's bytes, its signature too -/
def fullB (m : MsgD) : List UInt8 := unsB m ++ (if m.kind = 7 then (match m.changes with | c :: _ => signP c.sign | [] => []) else if signedK m.kind then signP m.sign else [])
/-- what is wrong with a message -/
noncomputable def checkE (m : MsgD) : Int := open Classical in if msgE m = 0 ∧ ¬ m = bareF m then 100 else msgE m
theorem checkE_ok {m : MsgD} (h : checkE m = 0) : msgE m = 0 ∧ m = bareF m := by
  unfold checkE at h
  split at h
  · cases h
  · rename_i hn
    refine ⟨h, Classical.byContradiction fun e => hn ⟨h, e⟩⟩
theorem one_of {α : Type} {l : List α} (h : l.length = 1) : ∃ c, l = [c] := by
  cases l with
  | nil => simp at h
  | cons c r => cases r with
    | nil => exact ⟨c, rfl⟩
    | cons _ _ => simp at h
/-! acts -/
end Go.Proofs.YteaggenihhaajaaGreat

/- A core's bytes in plain Lean, and that they tell it. No program here. -/
namespace Go.Proofs.YteaggenihhaajaaGreat
open Go.RowKit
set_option linter.unusedVariables false

theorem bareF_sign (m : MsgD) : (bareF m).sign = if signedK m.kind then m.sign else zSign := by
  unfold bareF
  simp only [apply_ite MsgD.sign, ite_self]
/-- a whole message's bytes tell it -/
theorem fullB_inj {a b : MsgD} (ha : checkE a = 0) (sa : mSized a) (hb : checkE b = 0) (sb : mSized b) (h : fullB a = fullB b) : a = b := by
  obtain ⟨ma, ca⟩ := checkE_ok ha
  obtain ⟨mb, cb⟩ := checkE_ok hb
  have na := ma
  have nb := mb
  unfold msgE at ma mb
  rw [orE_zero] at ma mb
  have z : ∀ m : MsgD, m = bareF m → m.kind = 7 → m.sign = zSign := fun m hm hk => by
    rw [hm, bareF_sign, hk]; rfl
  obtain ⟨⟨hk, hal⟩, hs⟩ := unsB_pi a b ma.1 sa mb.1 sb (z a ca) (z b cb) h
  unfold alike at hal
  by_cases h7 : a.kind = 7
  · have h7b : b.kind = 7 := by rw [← hk]; exact h7
    rw [if_pos h7, ← ca, ← cb] at hal
    obtain ⟨c, d, hc, hd, e1, e2, e3, e4, e5⟩ := hal
    rw [if_pos h7, if_pos h7b, hc, hd] at hs
    have g1 : chgE c = 0 := by
      have := ma.1
      unfold kindE at this
      rw [h7] at this
      simp [orE_zero, hc, listE, viewE] at this
      exact this.2.1
    have g2 : chgE d = 0 := by
      have := mb.1
      unfold kindE at this
      rw [h7b] at this
      simp [orE_zero, hd, listE, viewE] at this
      exact this.2.1
    have hss := (signP_pi c.sign d.sign [] [] (chgE_ok g1).2.2.2.2.2 (chgE_ok g2).2.2.2.2.2 (by simpa using hs)).1
    have hcd : c = d := ChangeD.ext' e1 e2 e3 e4 hss
    rw [e5, hcd, ← hd]
  · have h7b : ¬ b.kind = 7 := by rw [← hk]; exact h7
    rw [if_neg h7, if_neg h7b, ← hk] at hs
    rw [if_neg h7, ← ca, ← cb] at hal
    have hss : a.sign = b.sign := by
      by_cases hg : signedK a.kind = true
      · rw [if_pos hg, if_pos hg] at hs
        have s1 := ma.2
        have s2 := mb.2
        rw [if_pos hg] at s1
        rw [← hk, if_pos hg] at s2
        exact (signP_pi a.sign b.sign [] [] s1 s2 (by simpa using hs)).1
      · have y : ∀ m : MsgD, m = bareF m → ¬ signedK m.kind = true → m.sign = zSign := fun m hm hn => by
          rw [hm, bareF_sign, if_neg hn]
        rw [y a ca hg, y b cb (by rw [← hk]; exact hg)]
    injection hal with f1 f2 f3 f4 f5 f6 f7 f8 f9 f10 f11 f12 f13 f14 f15 f16 f17
    exact MsgD.ext' hk f2 f3 f4 f5 f6 f7 f8 f9 f10 f11 f12 f13 f14 f15 f16 hss
/-! a core -/
def nOk (n : Int) : Prop := 0 ≤ n ∧ n ≤ 9007199254740992
/-- the bytes of a header, as a block has them -/
def hdrB (h : HeaderD) : List UInt8 := 3 :: numsB [h.seq, h.prev, h.batch, h.root, h.state]
def hdrOk (h : HeaderD) : Prop := nOk h.seq ∧ nOk h.prev ∧ nOk h.batch ∧ nOk h.root ∧ nOk h.state
def flagB (b : Bool) : List UInt8 := if b then enc 1 else enc 0
/-- a list of a core -/
def putsB {α : Type} (f : α → List UInt8) (l : List α) : List UInt8 := encI (l.length : Int) ++ l.flatMap f
def putsOk {α : Type} (P : α → Prop) (l : List α) : Prop := l.length ≤ 4096 ∧ ∀ x ∈ l, P x
def kCertB (c : CertD) : List UInt8 := byF (certB c)
def kCertOk (c : CertD) : Prop := certE c = 0 ∧ (certB c).length ≤ 262144
def kChgB (c : ChangeD) : List UInt8 := byF (chgB c)
def kChgOk (c : ChangeD) : Prop := chgE c = 0 ∧ (chgB c).length ≤ 262144
def kMsgB (m : MsgD) : List UInt8 := byF (fullB m)
def kMsgOk (m : MsgD) : Prop := checkE m = 0 ∧ (fullB m).length ≤ 262144
def placedB (p : PlacedD) : List UInt8 := byF p.topic ++ numsB [p.offset] ++ byF p.record
def placedOk (p : PlacedD) : Prop := nOk p.offset
def blockB (x : BlockD) : List UInt8 := byF (hdrB x.header) ++ batchP x.batch ++ putsB placedB x.placed
def blockOk (x : BlockD) : Prop := hdrOk x.header ∧ batchE x.batch = 0 ∧ putsOk placedOk x.placed
def kVoteB (v : VoteD) : List UInt8 := numsB [v.seq, v.digest] ++ signP v.sign
def kVoteOk (v : VoteD) : Prop := nOk v.seq ∧ nOk v.digest ∧ signE v.sign = 0
def markB (m : MarkD) : List UInt8 := byF (hdrB m.header) ++ byF m.topics
def markOk (m : MarkD) : Prop := hdrOk m.header
def voteOfB (v : VoteOfD) : List UInt8 := numsB [v.digest] ++ signP v.sign
def voteOfOk (v : VoteOfD) : Prop := nOk v.digest ∧ signE v.sign = 0
def slotB (s : SlotD) : List UInt8 := numsB [s.seq] ++ flagB s.has ++ numsB [s.digest] ++ (if s.has then signP s.firstS ++ batchP s.batch else []) ++ putsB voteOfB s.prepares ++ putsB voteOfB s.commits
def slotOk (s : SlotD) : Prop := nOk s.seq ∧ nOk s.digest ∧ (s.has = true → signE s.firstS = 0 ∧ batchE s.batch = 0) ∧ (s.has = false → s.firstS = zSign ∧ s.batch = []) ∧ putsOk voteOfOk s.prepares ∧ putsOk voteOfOk s.commits
def kPrepB (p : PreparedD) : List UInt8 := numsB [p.view, p.seq, p.digest] ++ signP p.firstS ++ putsB signP p.signs ++ batchP p.batch
def kPrepOk (p : PreparedD) : Prop := nOk p.view ∧ nOk p.seq ∧ nOk p.digest ∧ signE p.firstS = 0 ∧ putsOk (fun s => signE s = 0) p.signs ∧ batchE p.batch = 0
def waitB (s : SignedD) : List UInt8 := batchP [s]
def waitOk (s : SignedD) : Prop := batchE [s] = 0
def coreB (c : CoreD) : List UInt8 :=
  numsB [c.view] ++ flagB c.active ++ numsB [c.ticks, c.floor] ++ byF (hdrB c.base) ++ putsB blockB c.blocks ++ byF c.topics ++ kCertB c.points.stable ++ putsB kVoteB c.points.votes ++ putsB kCertB c.points.certs ++ putsB kCertB c.certs ++
    putsB markB c.marks ++ putsB slotB c.slots ++ putsB kPrepB c.held ++ putsB kChgB c.changes ++ putsB waitB c.pool.waiting ++ numsB [c.timer.length, c.timer.left] ++ putsB kMsgB c.news ++ numsB [c.wants]
/-! the forms of a core's parts tell them -/
theorem flag_pi : PI flagB (fun _ => True) := by
  intro a b r s _ _ e
  unfold flagB at e
  cases a <;> cases b
  · exact ⟨rfl, (enc_pi 0 0 r s (by omega) (by omega) e).2⟩
  · have := (enc_pi 0 1 r s (by omega) (by omega) e).1; omega
  · have := (enc_pi 1 0 r s (by omega) (by omega) e).1; omega
  · exact ⟨rfl, (enc_pi 1 1 r s (by omega) (by omega) e).2⟩
theorem puts_pi {α : Type} {f : α → List UInt8} {P : α → Prop} (h : PI f P) : PI (putsB f) (putsOk P) := fun a b r s ha hb e => many_pi h a b r s ⟨by have := ha.1; omega, ha.2⟩ ⟨by have := hb.1; omega, hb.2⟩ e
theorem hdrB_len {h : HeaderD} (hh : hdrOk h) : (hdrB h).length ≤ 60 := by
  obtain ⟨a1, a2, a3, a4, a5⟩ := hh
  unfold nOk at *
  unfold hdrB numsB
  have q : ∀ n : Int, 0 ≤ n ∧ n ≤ 9007199254740992 → (encI n).length ≤ 10 := fun n hn => by
    unfold encI
    exact encLe10 _ (by omega)
  have := flat_len (f := encI) (K := 10) [h.seq, h.prev, h.batch, h.root, h.state] (fun x hx => q x (by simp at hx; omega))
  simp only [List.length_cons, List.length_nil] at this ⊢
  omega
theorem hdrB_inj {a b : HeaderD} (ha : hdrOk a) (hb : hdrOk b) (e : hdrB a = hdrB b) : a = b := by
  obtain ⟨a1, a2, a3, a4, a5⟩ := ha
  obtain ⟨b1, b2, b3, b4, b5⟩ := hb
  unfold nOk at *
  unfold hdrB at e
  obtain ⟨h1, _⟩ := nums_pi [a.seq, a.prev, a.batch, a.root, a.state] [b.seq, b.prev, b.batch, b.root, b.state] [] [] (by intro x hx; simp at hx; omega) (by intro x hx; simp at hx; omega) rfl (by simpa using e)
  simp only [List.cons.injEq] at h1
  exact HeaderD.ext' h1.1 h1.2.1 h1.2.2.1 h1.2.2.2.1 h1.2.2.2.2.1
theorem hdr_pi : PI (fun h => byF (hdrB h)) hdrOk := by
  intro a b r s ha hb e
  have la := hdrB_len ha
  have lb := hdrB_len hb
  obtain ⟨h1, h2⟩ := byF_pi _ _ _ _ (show (hdrB a).length < _ by omega) (show (hdrB b).length < _ by omega) e
  exact ⟨hdrB_inj ha hb h1, h2⟩
/-- a form in a byte string -/
theorem by_pi {α : Type} {f : α → List UInt8} {P : α → Prop} (hl : ∀ a, P a → (f a).length < 18446744073709551616) (hi : ∀ a b, P a → P b → f a = f b → a = b) : PI (fun a => byF (f a)) P := by
  intro a b r s ha hb e
  obtain ⟨h1, h2⟩ := byF_pi _ _ _ _ (hl a ha) (hl b hb) e
  exact ⟨hi a b ha hb h1, h2⟩
theorem kCert_pi : PI kCertB kCertOk := by_pi (fun a h => by have := h.2; omega) (fun a b ha hb e => (certB_pi a b [] [] ha.1 hb.1 (by rw [e])).1)
theorem kChg_pi : PI kChgB (fun c => kChgOk c ∧ cSized c) := by_pi (fun a h => by have := h.1.2; omega) (fun a b ha hb e => (chgB_pi a b [] [] ⟨ha.1.1, ha.2⟩ ⟨hb.1.1, hb.2⟩ (by rw [e])).1)
theorem kMsg_pi : PI kMsgB (fun m => kMsgOk m ∧ mSized m) := by_pi (fun a h => by have := h.1.2; omega) (fun a b ha hb e => fullB_inj ha.1.1 ha.2 hb.1.1 hb.2 e)
theorem PlacedD.ext' {a b : PlacedD} (h1 : a.topic = b.topic) (h2 : a.offset = b.offset) (h3 : a.record = b.record) : a = b := by cases a; cases b; simp_all
theorem placed_pi : PI placedB (fun p => placedOk p ∧ p.topic.length ≤ 4194304 ∧ p.record.length ≤ 4194304) := by
  intro a b r s ⟨ha, a1, a2⟩ ⟨hb, b1, b2⟩ e
  unfold placedOk nOk at ha hb
  unfold placedB at e
  simp only [List.append_assoc] at e
  obtain ⟨h1, e2⟩ := byF_pi _ _ _ _ (show a.topic.length < _ by omega) (show b.topic.length < _ by omega) e
  obtain ⟨h2, e3⟩ := nums_pi [a.offset] [b.offset] _ _ (by intro x hx; simp at hx; omega) (by intro x hx; simp at hx; omega) rfl e2
  obtain ⟨h3, e4⟩ := byF_pi _ _ _ _ (show a.record.length < _ by omega) (show b.record.length < _ by omega) e3
  simp only [List.cons.injEq] at h2
  exact ⟨PlacedD.ext' h1 h2.1 h3, e4⟩
structure blkSized (x : BlockD) : Prop where
  batch : bSized x.batch
  placed : ∀ p ∈ x.placed, p.topic.length ≤ 4194304 ∧ p.record.length ≤ 4194304
theorem BlockD.ext' {a b : BlockD} (h1 : a.header = b.header) (h2 : a.batch = b.batch) (h3 : a.placed = b.placed) : a = b := by cases a; cases b; simp_all
theorem block_pi : PI blockB (fun x => blockOk x ∧ blkSized x) := by
  intro a b r s ⟨⟨a1, a2, a3⟩, sa⟩ ⟨⟨b1, b2, b3⟩, sb⟩ e
  unfold blockB at e
  simp only [List.append_assoc] at e
  obtain ⟨h1, e2⟩ := hdr_pi _ _ _ _ a1 b1 e
  obtain ⟨h2, e3⟩ := batchP_pi _ _ _ _ ⟨a2, sa.batch⟩ ⟨b2, sb.batch⟩ e2
  obtain ⟨h3, e4⟩ := puts_pi placed_pi _ _ _ _ ⟨a3.1, fun p hp => ⟨a3.2 p hp, sa.placed p hp⟩⟩ ⟨b3.1, fun p hp => ⟨b3.2 p hp, sb.placed p hp⟩⟩ e3
  exact ⟨BlockD.ext' h1 h2 h3, e4⟩
theorem VoteD.ext' {a b : VoteD} (h1 : a.seq = b.seq) (h2 : a.digest = b.digest) (h3 : a.sign = b.sign) : a = b := by cases a; cases b; simp_all
theorem kVote_pi : PI kVoteB kVoteOk := by
  intro a b r s ⟨a1, a2, a3⟩ ⟨b1, b2, b3⟩ e
  unfold nOk at *
  unfold kVoteB at e
  simp only [List.append_assoc] at e
  obtain ⟨h1, e2⟩ := nums_pi [a.seq, a.digest] [b.seq, b.digest] _ _ (by intro x hx; simp at hx; omega) (by intro x hx; simp at hx; omega) rfl e
  obtain ⟨h2, e3⟩ := signP_pi _ _ _ _ a3 b3 e2
  simp only [List.cons.injEq] at h1
  exact ⟨VoteD.ext' h1.1 h1.2.1 h2, e3⟩
theorem MarkD.ext' {a b : MarkD} (h1 : a.header = b.header) (h2 : a.topics = b.topics) : a = b := by cases a; cases b; simp_all
theorem mark_pi : PI markB (fun m => markOk m ∧ m.topics.length ≤ 4194304) := by
  intro a b r s ⟨a1, a2⟩ ⟨b1, b2⟩ e
  unfold markB at e
  simp only [List.append_assoc] at e
  obtain ⟨h1, e2⟩ := hdr_pi _ _ _ _ a1 b1 e
  obtain ⟨h2, e3⟩ := byF_pi _ _ _ _ (show a.topics.length < _ by omega) (show b.topics.length < _ by omega) e2
  exact ⟨MarkD.ext' h1 h2, e3⟩
theorem VoteOfD.ext' {a b : VoteOfD} (h1 : a.digest = b.digest) (h2 : a.sign = b.sign) : a = b := by cases a; cases b; simp_all
theorem voteOf_pi : PI voteOfB voteOfOk := by
  intro a b r s ⟨a1, a2⟩ ⟨b1, b2⟩ e
  unfold nOk at *
  unfold voteOfB at e
  simp only [List.append_assoc] at e
  obtain ⟨h1, e2⟩ := nums_pi [a.digest] [b.digest] _ _ (by intro x hx; simp at hx; omega) (by intro x hx; simp at hx; omega) rfl e
  obtain ⟨h2, e3⟩ := signP_pi _ _ _ _ a2 b2 e2
  simp only [List.cons.injEq] at h1
  exact ⟨VoteOfD.ext' h1.1 h2, e3⟩
theorem SlotD.ext' {a b : SlotD} (h1 : a.seq = b.seq) (h2 : a.has = b.has) (h3 : a.digest = b.digest) (h4 : a.firstS = b.firstS) (h5 : a.batch = b.batch) (h6 : a.prepares = b.prepares) (h7 : a.commits = b.commits) : a = b := by cases a; cases b; simp_all
theorem slot_pi : PI slotB (fun x => slotOk x ∧ bSized x.batch) := by
  intro a b r s ⟨⟨a1, a2, a3, a4, a5, a6⟩, sa⟩ ⟨⟨b1, b2, b3, b4, b5, b6⟩, sb⟩ e
  unfold nOk at *
  unfold slotB at e
  simp only [List.append_assoc] at e
  obtain ⟨h1, e2⟩ := nums_pi [a.seq] [b.seq] _ _ (by intro x hx; simp at hx; omega) (by intro x hx; simp at hx; omega) rfl e
  obtain ⟨h2, e3⟩ := flag_pi _ _ _ _ trivial trivial e2
  obtain ⟨h3, e4⟩ := nums_pi [a.digest] [b.digest] _ _ (by intro x hx; simp at hx; omega) (by intro x hx; simp at hx; omega) rfl e3
  simp only [List.cons.injEq] at h1 h3
  rw [h2] at e4 a3 a4
  cases hb : b.has with
  | true =>
    rw [hb] at e4
    simp only [if_true, List.append_assoc] at e4
    obtain ⟨h4, e5⟩ := signP_pi _ _ _ _ (a3 hb).1 (b3 hb).1 e4
    obtain ⟨h5, e6⟩ := batchP_pi _ _ _ _ ⟨(a3 hb).2, sa⟩ ⟨(b3 hb).2, sb⟩ e5
    obtain ⟨h6, e7⟩ := puts_pi voteOf_pi _ _ _ _ a5 b5 e6
    obtain ⟨h7, e8⟩ := puts_pi voteOf_pi _ _ _ _ a6 b6 e7
    exact ⟨SlotD.ext' h1.1 h2 h3.1 h4 h5 h6 h7, e8⟩
  | false =>
    rw [hb] at e4
    simp only [Bool.false_eq_true, if_false, List.nil_append] at e4
    obtain ⟨h6, e7⟩ := puts_pi voteOf_pi _ _ _ _ a5 b5 e4
    obtain ⟨h7, e8⟩ := puts_pi voteOf_pi _ _ _ _ a6 b6 e7
    exact ⟨SlotD.ext' h1.1 h2 h3.1 (by rw [(a4 hb).1, (b4 hb).1]) (by rw [(a4 hb).2, (b4 hb).2]) h6 h7, e8⟩
theorem kPrep_pi : PI kPrepB (fun p => kPrepOk p ∧ bSized p.batch) := by
  intro a b r s ⟨⟨a1, a2, a3, a4, a5, a6⟩, sa⟩ ⟨⟨b1, b2, b3, b4, b5, b6⟩, sb⟩ e
  unfold nOk at *
  unfold kPrepB at e
  simp only [List.append_assoc] at e
  obtain ⟨h1, e2⟩ := nums_pi [a.view, a.seq, a.digest] [b.view, b.seq, b.digest] _ _ (by intro x hx; simp at hx; omega) (by intro x hx; simp at hx; omega) rfl e
  obtain ⟨h2, e3⟩ := signP_pi _ _ _ _ a4 b4 e2
  obtain ⟨h3, e4⟩ := puts_pi signP_pi _ _ _ _ a5 b5 e3
  obtain ⟨h4, e5⟩ := batchP_pi _ _ _ _ ⟨a6, sa⟩ ⟨b6, sb⟩ e4
  simp only [List.cons.injEq] at h1
  exact ⟨PreparedD.ext' h1.1 h1.2.1 h1.2.2.1 h2 h3 h4, e5⟩
theorem wait_pi : PI waitB (fun s => waitOk s ∧ opSized s.request.op) := by
  intro a b r s ⟨a1, a2⟩ ⟨b1, b2⟩ e
  obtain ⟨h1, e2⟩ := batchP_pi [a] [b] _ _ ⟨a1, by intro x hx; simp at hx; subst hx; exact a2⟩ ⟨b1, by intro x hx; simp at hx; subst hx; exact b2⟩ e
  simp only [List.cons.injEq, and_true] at h1
  exact ⟨h1, e2⟩
/-- may a core be written? -/
def coreOk (c : CoreD) : Prop :=
  nOk c.view ∧ nOk c.ticks ∧ nOk c.floor ∧ hdrOk c.base ∧ putsOk blockOk c.blocks ∧ kCertOk c.points.stable ∧ putsOk kVoteOk c.points.votes ∧ putsOk kCertOk c.points.certs ∧ putsOk kCertOk c.certs ∧
    putsOk markOk c.marks ∧ putsOk slotOk c.slots ∧ putsOk kPrepOk c.held ∧ putsOk kChgOk c.changes ∧ putsOk waitOk c.pool.waiting ∧ nOk c.timer.length ∧ nOk c.timer.left ∧ putsOk kMsgOk c.news ∧ nOk c.wants
structure coreSized (c : CoreD) : Prop where
  blocks : ∀ x ∈ c.blocks, blkSized x
  topics : c.topics.length ≤ 4194304
  marks : ∀ m ∈ c.marks, m.topics.length ≤ 4194304
  slots : ∀ x ∈ c.slots, bSized x.batch
  held : ∀ p ∈ c.held, bSized p.batch
  changes : ∀ x ∈ c.changes, cSized x
  waiting : ∀ x ∈ c.pool.waiting, opSized x.request.op
  news : ∀ m ∈ c.news, mSized m
theorem CoreD.ext' {a b : CoreD} (h1 : a.view = b.view) (h2 : a.active = b.active) (h3 : a.ticks = b.ticks) (h4 : a.floor = b.floor) (h5 : a.base = b.base) (h6 : a.blocks = b.blocks) (h7 : a.topics = b.topics) (h8 : a.points = b.points) (h9 : a.certs = b.certs) (h10 : a.marks = b.marks) (h11 : a.slots = b.slots) (h12 : a.held = b.held) (h13 : a.changes = b.changes) (h14 : a.pool = b.pool) (h15 : a.timer = b.timer) (h16 : a.news = b.news) (h17 : a.wants = b.wants) : a = b := by
  cases a; cases b; simp_all
theorem PointsD.ext' {a b : PointsD} (h1 : a.stable = b.stable) (h2 : a.votes = b.votes) (h3 : a.certs = b.certs) : a = b := by cases a; cases b; simp_all
theorem putsOk_and {α : Type} {P Q : α → Prop} {l : List α} (h : putsOk P l) (q : ∀ x ∈ l, Q x) : putsOk (fun x => P x ∧ Q x) l := ⟨h.1, fun x hx => ⟨h.2 x hx, q x hx⟩⟩
/-- a core's bytes tell it -/
theorem coreB_inj {a b : CoreD} (ha : coreOk a) (sa : coreSized a) (hb : coreOk b) (sb : coreSized b) (e : coreB a = coreB b) : a = b := by
  obtain ⟨a1, a2, a3, a4, a5, a6, a7, a8, a9, a10, a11, a12, a13, a14, a15, a16, a17, a18⟩ := ha
  obtain ⟨b1, b2, b3, b4, b5, b6, b7, b8, b9, b10, b11, b12, b13, b14, b15, b16, b17, b18⟩ := hb
  unfold nOk at *
  unfold coreB at e
  simp only [List.append_assoc] at e
  obtain ⟨h1, e⟩ := nums_pi [a.view] [b.view] _ _ (by intro x hx; simp at hx; omega) (by intro x hx; simp at hx; omega) rfl e
  obtain ⟨h2, e⟩ := flag_pi _ _ _ _ trivial trivial e
  obtain ⟨h3, e⟩ := nums_pi [a.ticks, a.floor] [b.ticks, b.floor] _ _ (by intro x hx; simp at hx; omega) (by intro x hx; simp at hx; omega) rfl e
  obtain ⟨h4, e⟩ := hdr_pi _ _ _ _ a4 b4 e
  obtain ⟨h5, e⟩ := puts_pi block_pi _ _ _ _ (putsOk_and a5 sa.blocks) (putsOk_and b5 sb.blocks) e
  have la := sa.topics
  have lb := sb.topics
  obtain ⟨h6, e⟩ := byF_pi _ _ _ _ (show a.topics.length < _ by omega) (show b.topics.length < _ by omega) e
  obtain ⟨h7, e⟩ := kCert_pi _ _ _ _ a6 b6 e
  obtain ⟨h8, e⟩ := puts_pi kVote_pi _ _ _ _ a7 b7 e
  obtain ⟨h9, e⟩ := puts_pi kCert_pi _ _ _ _ a8 b8 e
  obtain ⟨h10, e⟩ := puts_pi kCert_pi _ _ _ _ a9 b9 e
  obtain ⟨h11, e⟩ := puts_pi mark_pi _ _ _ _ (putsOk_and a10 sa.marks) (putsOk_and b10 sb.marks) e
  obtain ⟨h12, e⟩ := puts_pi slot_pi _ _ _ _ (putsOk_and a11 sa.slots) (putsOk_and b11 sb.slots) e
  obtain ⟨h13, e⟩ := puts_pi kPrep_pi _ _ _ _ (putsOk_and a12 sa.held) (putsOk_and b12 sb.held) e
  obtain ⟨h14, e⟩ := puts_pi kChg_pi _ _ _ _ (putsOk_and a13 sa.changes) (putsOk_and b13 sb.changes) e
  obtain ⟨h15, e⟩ := puts_pi wait_pi _ _ _ _ (putsOk_and a14 sa.waiting) (putsOk_and b14 sb.waiting) e
  obtain ⟨h16, e⟩ := nums_pi [a.timer.length, a.timer.left] [b.timer.length, b.timer.left] _ _ (by intro x hx; simp at hx; omega) (by intro x hx; simp at hx; omega) rfl e
  obtain ⟨h17, e⟩ := puts_pi kMsg_pi _ _ _ _ (putsOk_and a17 sa.news) (putsOk_and b17 sb.news) e
  obtain ⟨h18, _⟩ := nums_pi [a.wants] [b.wants] [] [] (by intro x hx; simp at hx; omega) (by intro x hx; simp at hx; omega) rfl (by simpa using e)
  simp only [List.cons.injEq] at h1 h3 h16 h18
  refine CoreD.ext' h1.1 h2 h3.1 h3.2.1 h4 h5 h6 (PointsD.ext' h7 h8 h9) h10 h11 h12 h13 h14 ?_ ?_ h17 h18.1
  · cases hp : a.pool; cases hq : b.pool; simp_all
  · cases hp : a.timer; cases hq : b.timer; simp_all
end Go.Proofs.YteaggenihhaajaaGreat
