/- Lemmas and contracts, part 14. -/
import Derived.Test.YteaggenihhaajaaGreatZs13
import Derived.Maps.OwnSet
import Derived.Maps.OwnOps
/- Objects in any order; many objects as one; a map as an object. No program here. -/
namespace Go.Proofs.YteaggenihhaajaaGreat
open Go.RowKit
set_option linter.unusedVariables false

end Go.Proofs.YteaggenihhaajaaGreat

/- Small words: the same or not (eqB); bytes of a reading. -/
namespace Go.Proofs.YteaggenihhaajaaGreat
open Go.RowKit Go.Deep
set_option linter.unusedVariables false

theorem tY.bs {inn : Nat → Prop} {w : World} {v : Value} {a : List UInt8} (h : tY.rd inn w [v] a) : Bs w v a := by
  obtain ⟨u, e, hb, _⟩ := h
  injection e with e _
  subst e
  exact hb
/-- are two data the same? -/
noncomputable def eqB {α : Type} (a b : α) : Bool := @decide (a = b) (Classical.propDecidable _)
theorem eqB_true {α : Type} {a b : α} (h : a = b) : eqB a b = true := by unfold eqB; exact @decide_eq_true _ (Classical.propDecidable _) h
theorem eqB_false {α : Type} {a b : α} (h : ¬ a = b) : eqB a b = false := by unfold eqB; exact @decide_eq_false _ (Classical.propDecidable _) h
theorem eqB_iff {α : Type} {a b : α} : eqB a b = true ↔ a = b := by unfold eqB; exact @decide_eq_true_iff _ (Classical.propDecidable _)
theorem sameOp_eqB (a b : OpD) : sameOp a b = eqB a b := by
  by_cases h : a = b
  · rw [eqB_true h, sameOp_iff.2 h]
  · rw [eqB_false h]
    cases hs : sameOp a b with
    | false => rfl
    | true => exact absurd (sameOp_iff.1 hs) h
end Go.Proofs.YteaggenihhaajaaGreat

/- Which bytes, operations, batches, messages are the same, over data (printed by gen_aq.py). -/
namespace Go.Proofs.YteaggenihhaajaaGreat
open Go.RowKit
set_option linter.unusedVariables false
set_option maxRecDepth 20000

theorem beqE {α : Type} [DecidableEq α] (a b : α) : (a == b) = eqB a b := by
  by_cases h : a = b
  · rw [eqB_true h]; simp [h]
  · rw [eqB_false h]; simp [h]
theorem decE {α : Type} [DecidableEq α] (a b : α) : decide (a = b) = eqB a b := beqE a b
theorem eqB_len {α : Type} {l k : List α} (h : ¬ l.length = k.length) : eqB l k = false := eqB_false (fun e => h (by rw [e]))
theorem eqB_all {α : Type} {l k : List α} {q : Nat} (hl : l.length = k.length) (hq : ¬ q < l.length) (he : l.take q = k.take q) : eqB l k = true := by
  refine eqB_true ?_
  rw [List.take_of_length_le (by omega), List.take_of_length_le (by omega)] at he
  exact he
theorem eqB_no {α : Type} {l k : List α} {q : Nat} {x y : α} (hx : l[q]? = some x) (hy : k[q]? = some y) (h : eqB x y = false) : eqB l k = false := by
  refine eqB_false (fun e => ?_)
  subst e
  rw [hx] at hy
  injection hy with hy
  rw [eqB_true hy] at h
  cases h
theorem eqB_go {α : Type} {l k : List α} {q : Nat} {x y : α} (hx : l[q]? = some x) (hy : k[q]? = some y) (h : eqB x y = true) (he : l.take q = k.take q) : l.take (q + 1) = k.take (q + 1) := by
  rw [List.take_add_one, List.take_add_one, hx, hy, he, eqB_iff.1 h]
theorem sign_eqB (a b : SignD) : ((a.key == b.key) && (a.digest == b.digest)) = eqB a b := by
  cases a; cases b
  rw [Bool.eq_iff_iff, eqB_iff]; simp
theorem head_eqB (a b : HeaderD) : (((((a.seq == b.seq) && (a.prev == b.prev)) && (a.batch == b.batch)) && (a.root == b.root)) && (a.state == b.state)) = eqB a b := by
  cases a; cases b
  rw [Bool.eq_iff_iff, eqB_iff]; simp [and_assoc]
theorem op_eqB (a b : OpD) : eqB a b = ((a.kind == b.kind) && decide (a.topic = b.topic) && decide (a.group = b.group) && (a.offset == b.offset) && eqB a.records b.records) := by
  obtain ⟨a0, a1, a2, a3, a4⟩ := a
  obtain ⟨b0, b1, b2, b3, b4⟩ := b
  rw [Bool.eq_iff_iff, eqB_iff]
  simp [eqB_iff, and_assoc]
theorem request_eqB (a b : RequestD) : eqB a b = ((a.client == b.client) && (a.time == b.time) && eqB a.op b.op) := by
  obtain ⟨a0, a1, a2⟩ := a
  obtain ⟨b0, b1, b2⟩ := b
  rw [Bool.eq_iff_iff, eqB_iff]
  simp [eqB_iff, and_assoc]
theorem signed_eqB (a b : SignedD) : eqB a b = (eqB a.request b.request && (a.sign.key == b.sign.key) && (a.sign.digest == b.sign.digest)) := by
  obtain ⟨a0, ⟨a1key, a1digest⟩⟩ := a
  obtain ⟨b0, ⟨b1key, b1digest⟩⟩ := b
  rw [Bool.eq_iff_iff, eqB_iff]
  simp [eqB_iff, and_assoc]
theorem cert_eqB (a b : CertD) : eqB a b = ((a.seq == b.seq) && (a.digest == b.digest) && eqB a.signs b.signs) := by
  obtain ⟨a0, a1, a2⟩ := a
  obtain ⟨b0, b1, b2⟩ := b
  rw [Bool.eq_iff_iff, eqB_iff]
  simp [eqB_iff, and_assoc]
theorem prepared_eqB (a b : PreparedD) : eqB a b = ((a.view == b.view) && (a.seq == b.seq) && (a.digest == b.digest) && (a.firstS.key == b.firstS.key) && (a.firstS.digest == b.firstS.digest) && eqB a.signs b.signs && eqB a.batch b.batch) := by
  obtain ⟨a0, a1, a2, ⟨a3key, a3digest⟩, a4, a5⟩ := a
  obtain ⟨b0, b1, b2, ⟨b3key, b3digest⟩, b4, b5⟩ := b
  rw [Bool.eq_iff_iff, eqB_iff]
  simp [eqB_iff, and_assoc]
theorem change_eqB (a b : ChangeD) : eqB a b = ((a.view == b.view) && (a.src == b.src) && eqB a.cert b.cert && eqB a.above b.above && (a.sign.key == b.sign.key) && (a.sign.digest == b.sign.digest)) := by
  obtain ⟨a0, a1, a2, a3, ⟨a4key, a4digest⟩⟩ := a
  obtain ⟨b0, b1, b2, b3, ⟨b4key, b4digest⟩⟩ := b
  rw [Bool.eq_iff_iff, eqB_iff]
  simp [eqB_iff, and_assoc]
theorem entry_eqB (a b : EntryD) : eqB a b = ((a.view == b.view) && (a.seq == b.seq) && eqB a.batch b.batch && (a.sign.key == b.sign.key) && (a.sign.digest == b.sign.digest)) := by
  obtain ⟨a0, a1, a2, ⟨a3key, a3digest⟩⟩ := a
  obtain ⟨b0, b1, b2, ⟨b3key, b3digest⟩⟩ := b
  rw [Bool.eq_iff_iff, eqB_iff]
  simp [eqB_iff, and_assoc]
theorem proof_eqB (a b : ProofD) : eqB a b = (decide (a.topic = b.topic) && (a.offset == b.offset) && eqB a.record b.record && eqB a.headers b.headers && (a.index == b.index) && (a.count == b.count) && eqB a.path b.path && eqB a.cert b.cert) := by
  obtain ⟨a0, a1, a2, a3, a4, a5, a6, a7⟩ := a
  obtain ⟨b0, b1, b2, b3, b4, b5, b6, b7⟩ := b
  rw [Bool.eq_iff_iff, eqB_iff]
  simp [eqB_iff, and_assoc]
theorem msg_eqB (a b : MsgD) : eqB a b = ((a.kind == b.kind) && (a.src == b.src) && (a.view == b.view) && (a.seq == b.seq) && (a.digest == b.digest) && (a.client == b.client) && (a.time == b.time) && (a.result.err == b.result.err) && (a.result.offset == b.result.offset) && eqB a.batch b.batch && eqB a.cert b.cert && eqB a.changes b.changes && eqB a.entries b.entries && eqB a.state b.state && decide (a.topic = b.topic) && (a.offset == b.offset) && eqB a.proof b.proof && (a.sign.key == b.sign.key) && (a.sign.digest == b.sign.digest)) := by
  obtain ⟨a0, a1, a2, a3, a4, a5, a6, ⟨a7err, a7offset⟩, a8, a9, a10, a11, a12, a13, a14, a15, ⟨a16key, a16digest⟩⟩ := a
  obtain ⟨b0, b1, b2, b3, b4, b5, b6, ⟨b7err, b7offset⟩, b8, b9, b10, b11, b12, b13, b14, b15, ⟨b16key, b16digest⟩⟩ := b
  rw [Bool.eq_iff_iff, eqB_iff]
  simp [eqB_iff, and_assoc]
theorem bEq_s [Wd] (a b : List UInt8) (ha : a.length ≤ 4194304) (hb : b.length ≤ 4194304) : FnP Tryz.prog 11 [.list 1 (a.map cByte), .list 1 (b.map cByte)] (.bool (eqB a b)) := by
  refine mkS 10 [] Tryz.func11 rfl (by kernel_rfl) ?_
  repeat'
    (conv => arg 2; whnf)
    first
    | refine okByts a rfl ?_
    | refine okByts b rfl ?_
    | refine okAsk (by omega) ?_
    | refine okAsk (by kernel_rfl) ?_
    | refine okBrT ?_
    | refine okBrF ?_
    | refine okBr (fun h => ?_) (fun h => ?_)
    | (refine endBool (.inr rfl) rfl ?_; exact decE a b)
theorem oSame1_s [Wd] (a b : List UInt8) (ha : a.length ≤ 4194304) (hb : b.length ≤ 4194304) : FnP Tryz.prog 206 [.list 1 (a.map cByte), .list 1 (b.map cByte)] (.bool (eqB a b)) := by
  refine mkS 8 [] Tryz.func206 rfl (by kernel_rfl) ?_
  repeat'
    (conv => arg 2; whnf)
    first
    | refine okAsk (by kernel_rfl) ?_
    | refine okBrT ?_
    | refine okBrF ?_
    | refine okBr (fun h => ?_) (fun h => ?_)
    | refine okFn (bEq_s a b ha hb) rfl (Cos.refl _) ?_
    | refine endBool (.inr rfl) rfl rfl
theorem eqRec_s [Wd] (l k : List (List UInt8)) (hl : (dL dY).ok l) (hk : (dL dY).ok k) : FnP Tryz.prog 205 [.list 1 (l.map cRec), .list 1 (k.map cRec), .fn 206 0 []] (.bool (eqB l k)) := by
  have HL : l.length ≤ 4194304 := hl.1
  refine mkS 32 [] Tryz.func205 rfl (by kernel_rfl) ?_
  repeat'
    (conv => arg 2; whnf)
    first
    | refine okAsk (by kernel_rfl) ?_
    | refine okBrT ?_
    | refine okBrF ?_
    | refine okBr (fun h => ?_) (fun h => ?_)
    | (refine endBool (.inr rfl) rfl ?_; exact (eqB_len (by simp at h; omega)).symm)
  have hn : l.length = k.length := by simp at h; omega
  refine okLoop (α := Nat) (fun q => ⟨[(17, .int .i64 q), (16, .int .i64 (l.map cRec).length), (15, .list 1 (l.map cRec)), (2, .fn 206 0 []), (1, .list 1 (k.map cRec))], []⟩) (fun q => q ≤ l.length ∧ l.take q = k.take q) (fun q => l.length - q) 0 ⟨Nat.zero_le _, rfl⟩ (Sv.mk' [] rfl trivial ⟨rfl, rfl, rfl, rfl, rfl, trivial⟩) ?_
  rintro q ⟨hq, he⟩
  repeat'
    (conv => arg 2; whnf)
    first
    | refine okAsk (by kernel_rfl) ?_
    | refine okBrT ?_
    | refine okBrF ?_
    | refine okBr (fun h => ?_) (fun h => ?_)
    | refine okNthMap (l := l) (by simp at h; omega) (fun x hx => ?_)
    | refine okNthMap (l := k) (by simp at h; omega) (fun y hy => ?_)
    | refine okFn (oSame1_s x y (hl.2 x (List.mem_of_getElem? hx)) (hk.2 y (List.mem_of_getElem? hy))) rfl (Cos.refl _) ?_
    | refine okWrap (w64 (by simp at h hq; omega) (by have := HL; simp at h hq; omega)) ?_
    | refine okAgain (q + 1) (Sv.mk' [] rfl trivial ⟨rfl, rfl, rfl, rfl, rfl, trivial⟩) ⟨by have := (List.getElem?_eq_some_iff.1 hx).1; omega, eqB_go hx hy (by simpa using h) he⟩ (by have := (List.getElem?_eq_some_iff.1 hx).1; omega)
    | refine okOut ?_
    | refine okRet ?_
    | (refine endBool (.inr rfl) rfl ?_; have hl := eqB_no hx hy (by simpa using h); exact hl.symm; done)
    | (have hl := eqB_all hn (by simp at h; omega) he; refine endBool (.inr rfl) rfl ?_; exact hl.symm; done)
theorem oSame_s [Wd] (a b : OpD) (ha : dOp.ok a) (hb : dOp.ok b) : FnP Tryz.prog 133 [.agg (cOp a), .agg (cOp b)] (.bool (eqB a b)) := by
  refine mkS 38 [] Tryz.func133 rfl (by kernel_rfl) ?_
  repeat'
    (conv => arg 2; whnf)
    first
    | refine okAsk (by kernel_rfl) ?_
    | refine okBrT ?_
    | refine okBrF ?_
    | refine okBr (fun h => ?_) (fun h => ?_)
    | refine okFn (eqRec_s a.records b.records ha.2.2.2.2 hb.2.2.2.2) rfl (Cos.refl _) ?_
    | (refine endBool (.inr rfl) rfl ?_; rw [op_eqB]; simp_all; done)
    | (exfalso; simp_all; done)
theorem qSame1_s [Wd] (a b : SignedD) (ha : dSigned.ok a) (hb : dSigned.ok b) : FnP Tryz.prog 132 [.agg (cSigned a), .agg (cSigned b)] (.bool (eqB a b)) := by
  refine mkS 37 [] Tryz.func132 rfl (by kernel_rfl) ?_
  repeat'
    (conv => arg 2; whnf)
    first
    | refine okAsk (by kernel_rfl) ?_
    | refine okBrT ?_
    | refine okBrF ?_
    | refine okBr (fun h => ?_) (fun h => ?_)
    | refine okFn (oSame_s a.request.op b.request.op ha.1.2.2 hb.1.2.2) rfl (Cos.refl _) ?_
    | (refine endBool (.inr rfl) rfl ?_; rw [signed_eqB, request_eqB]; simp_all; done)
    | (exfalso; simp_all; done)
theorem eqSigned_s [Wd] (l k : List (SignedD)) (hl : (dL dSigned).ok l) (hk : (dL dSigned).ok k) : FnP Tryz.prog 131 [.list 9 (l.map cSigned), .list 9 (k.map cSigned), .fn 132 0 []] (.bool (eqB l k)) := by
  have HL : l.length ≤ 4194304 := hl.1
  refine mkS 32 [] Tryz.func131 rfl (by kernel_rfl) ?_
  repeat'
    (conv => arg 2; whnf)
    first
    | refine okAsk (by kernel_rfl) ?_
    | refine okBrT ?_
    | refine okBrF ?_
    | refine okBr (fun h => ?_) (fun h => ?_)
    | (refine endBool (.inr rfl) rfl ?_; exact (eqB_len (by simp at h; omega)).symm)
  have hn : l.length = k.length := by simp at h; omega
  refine okLoop (α := Nat) (fun q => ⟨[(17, .int .i64 q), (16, .int .i64 (l.map cSigned).length), (15, .list 9 (l.map cSigned)), (2, .fn 132 0 []), (1, .list 9 (k.map cSigned))], []⟩) (fun q => q ≤ l.length ∧ l.take q = k.take q) (fun q => l.length - q) 0 ⟨Nat.zero_le _, rfl⟩ (Sv.mk' [] rfl trivial ⟨rfl, rfl, rfl, rfl, rfl, trivial⟩) ?_
  rintro q ⟨hq, he⟩
  repeat'
    (conv => arg 2; whnf)
    first
    | refine okAsk (by kernel_rfl) ?_
    | refine okBrT ?_
    | refine okBrF ?_
    | refine okBr (fun h => ?_) (fun h => ?_)
    | refine okNthMap (l := l) (by simp at h; omega) (fun x hx => ?_)
    | refine okNthMap (l := k) (by simp at h; omega) (fun y hy => ?_)
    | refine okFn (qSame1_s x y (hl.2 x (List.mem_of_getElem? hx)) (hk.2 y (List.mem_of_getElem? hy))) rfl (Cos.refl _) ?_
    | refine okWrap (w64 (by simp at h hq; omega) (by have := HL; simp at h hq; omega)) ?_
    | refine okAgain (q + 1) (Sv.mk' [] rfl trivial ⟨rfl, rfl, rfl, rfl, rfl, trivial⟩) ⟨by have := (List.getElem?_eq_some_iff.1 hx).1; omega, eqB_go hx hy (by simpa using h) he⟩ (by have := (List.getElem?_eq_some_iff.1 hx).1; omega)
    | refine okOut ?_
    | refine okRet ?_
    | (refine endBool (.inr rfl) rfl ?_; have hl := eqB_no hx hy (by simpa using h); exact hl.symm; done)
    | (have hl := eqB_all hn (by simp at h; omega) he; refine endBool (.inr rfl) rfl ?_; exact hl.symm; done)
theorem qSame_s [Wd] (l k : List SignedD) (hl : (dL dSigned).ok l) (hk : (dL dSigned).ok k) : FnP Tryz.prog 37 [.list 9 (l.map cSigned), .list 9 (k.map cSigned)] (.bool (eqB l k)) := by
  refine mkS 8 [] Tryz.func37 rfl (by kernel_rfl) ?_
  repeat'
    (conv => arg 2; whnf)
    first
    | refine okAsk (by kernel_rfl) ?_
    | refine okBrT ?_
    | refine okBrF ?_
    | refine okBr (fun h => ?_) (fun h => ?_)
    | refine okFn (eqSigned_s l k hl hk) rfl (Cos.refl _) ?_
    | refine endBool (.inr rfl) rfl rfl
theorem eqSigns_s [Wd] (l k : List (SignD)) (hl : l.length ≤ 4194304) : FnP Tryz.prog 207 [.list 2 (l.map cSign), .list 2 (k.map cSign)] (.bool (eqB l k)) := by
  have HL : l.length ≤ 4194304 := hl
  refine mkS 26 [] Tryz.func207 rfl (by kernel_rfl) ?_
  repeat'
    (conv => arg 2; whnf)
    first
    | refine okAsk (by kernel_rfl) ?_
    | refine okBrT ?_
    | refine okBrF ?_
    | refine okBr (fun h => ?_) (fun h => ?_)
    | (refine endBool (.inr rfl) rfl ?_; exact (eqB_len (by simp at h; omega)).symm)
  have hn : l.length = k.length := by simp at h; omega
  refine okLoop (α := Nat) (fun q => ⟨[(13, .int .i64 q), (12, .int .i64 (l.map cSign).length), (0, .list 2 (l.map cSign)), (1, .list 2 (k.map cSign))], []⟩) (fun q => q ≤ l.length ∧ l.take q = k.take q) (fun q => l.length - q) 0 ⟨Nat.zero_le _, rfl⟩ (Sv.mk' [] rfl trivial ⟨rfl, rfl, rfl, rfl, trivial⟩) ?_
  rintro q ⟨hq, he⟩
  repeat'
    (conv => arg 2; whnf)
    first
    | refine okAsk (by kernel_rfl) ?_
    | refine okBrT ?_
    | refine okBrF ?_
    | refine okBr (fun h => ?_) (fun h => ?_)
    | refine okNthMap (l := l) (by simp at h; omega) (fun x hx => ?_)
    | refine okNthMap (l := k) (by simp at h; omega) (fun y hy => ?_)
    | refine okWrap (w64 (by simp at h hq; omega) (by have := HL; simp at h hq; omega)) ?_
    | refine okAgain (q + 1) (Sv.mk' [] rfl trivial ⟨rfl, rfl, rfl, rfl, trivial⟩) ⟨by have := (List.getElem?_eq_some_iff.1 hx).1; omega, eqB_go hx hy (by rw [← sign_eqB]; rw [Bool.true_and] at h; first | exact (Bool.not_eq_true' _).mp h | exact (Bool.not_eq_false' _).mp h) he⟩ (by have := (List.getElem?_eq_some_iff.1 hx).1; omega)
    | refine okOut ?_
    | refine okRet ?_
    | (refine endBool (.inr rfl) rfl ?_; have hl := eqB_no hx hy (by rw [← sign_eqB]; rw [Bool.true_and] at h; first | exact (Bool.not_eq_true' _).mp h | exact (Bool.not_eq_false' _).mp h); exact hl.symm; done)
    | (have hl := eqB_all hn (by simp at h; omega) he; refine endBool (.inr rfl) rfl ?_; exact hl.symm; done)
theorem eqHeaders_s [Wd] (l k : List (HeaderD)) (hl : l.length ≤ 4194304) : FnP Tryz.prog 209 [.list 5 (l.map cHeader), .list 5 (k.map cHeader)] (.bool (eqB l k)) := by
  have HL : l.length ≤ 4194304 := hl
  refine mkS 26 [] Tryz.func209 rfl (by kernel_rfl) ?_
  repeat'
    (conv => arg 2; whnf)
    first
    | refine okAsk (by kernel_rfl) ?_
    | refine okBrT ?_
    | refine okBrF ?_
    | refine okBr (fun h => ?_) (fun h => ?_)
    | (refine endBool (.inr rfl) rfl ?_; exact (eqB_len (by simp at h; omega)).symm)
  have hn : l.length = k.length := by simp at h; omega
  refine okLoop (α := Nat) (fun q => ⟨[(13, .int .i64 q), (12, .int .i64 (l.map cHeader).length), (0, .list 5 (l.map cHeader)), (1, .list 5 (k.map cHeader))], []⟩) (fun q => q ≤ l.length ∧ l.take q = k.take q) (fun q => l.length - q) 0 ⟨Nat.zero_le _, rfl⟩ (Sv.mk' [] rfl trivial ⟨rfl, rfl, rfl, rfl, trivial⟩) ?_
  rintro q ⟨hq, he⟩
  repeat'
    (conv => arg 2; whnf)
    first
    | refine okAsk (by kernel_rfl) ?_
    | refine okBrT ?_
    | refine okBrF ?_
    | refine okBr (fun h => ?_) (fun h => ?_)
    | refine okNthMap (l := l) (by simp at h; omega) (fun x hx => ?_)
    | refine okNthMap (l := k) (by simp at h; omega) (fun y hy => ?_)
    | refine okWrap (w64 (by simp at h hq; omega) (by have := HL; simp at h hq; omega)) ?_
    | refine okAgain (q + 1) (Sv.mk' [] rfl trivial ⟨rfl, rfl, rfl, rfl, trivial⟩) ⟨by have := (List.getElem?_eq_some_iff.1 hx).1; omega, eqB_go hx hy (by rw [← head_eqB]; rw [Bool.true_and] at h; first | exact (Bool.not_eq_true' _).mp h | exact (Bool.not_eq_false' _).mp h) he⟩ (by have := (List.getElem?_eq_some_iff.1 hx).1; omega)
    | refine okOut ?_
    | refine okRet ?_
    | (refine endBool (.inr rfl) rfl ?_; have hl := eqB_no hx hy (by rw [← head_eqB]; rw [Bool.true_and] at h; first | exact (Bool.not_eq_true' _).mp h | exact (Bool.not_eq_false' _).mp h); exact hl.symm; done)
    | (have hl := eqB_all hn (by simp at h; omega) he; refine endBool (.inr rfl) rfl ?_; exact hl.symm; done)
theorem eqDigests_s [Wd] (l k : List (Int)) (hl : l.length ≤ 4194304) : FnP Tryz.prog 210 [.list 1 (l.map cNum), .list 1 (k.map cNum)] (.bool (eqB l k)) := by
  have HL : l.length ≤ 4194304 := hl
  refine mkS 26 [] Tryz.func210 rfl (by kernel_rfl) ?_
  repeat'
    (conv => arg 2; whnf)
    first
    | refine okAsk (by kernel_rfl) ?_
    | refine okBrT ?_
    | refine okBrF ?_
    | refine okBr (fun h => ?_) (fun h => ?_)
    | (refine endBool (.inr rfl) rfl ?_; exact (eqB_len (by simp at h; omega)).symm)
  have hn : l.length = k.length := by simp at h; omega
  refine okLoop (α := Nat) (fun q => ⟨[(13, .int .i64 q), (12, .int .i64 (l.map cNum).length), (0, .list 1 (l.map cNum)), (1, .list 1 (k.map cNum))], []⟩) (fun q => q ≤ l.length ∧ l.take q = k.take q) (fun q => l.length - q) 0 ⟨Nat.zero_le _, rfl⟩ (Sv.mk' [] rfl trivial ⟨rfl, rfl, rfl, rfl, trivial⟩) ?_
  rintro q ⟨hq, he⟩
  repeat'
    (conv => arg 2; whnf)
    first
    | refine okAsk (by kernel_rfl) ?_
    | refine okBrT ?_
    | refine okBrF ?_
    | refine okBr (fun h => ?_) (fun h => ?_)
    | refine okNthMap (l := l) (by simp at h; omega) (fun x hx => ?_)
    | refine okNthMap (l := k) (by simp at h; omega) (fun y hy => ?_)
    | refine okWrap (w64 (by simp at h hq; omega) (by have := HL; simp at h hq; omega)) ?_
    | refine okAgain (q + 1) (Sv.mk' [] rfl trivial ⟨rfl, rfl, rfl, rfl, trivial⟩) ⟨by have := (List.getElem?_eq_some_iff.1 hx).1; omega, eqB_go hx hy (by rw [← beqE]; simpa using h) he⟩ (by have := (List.getElem?_eq_some_iff.1 hx).1; omega)
    | refine okOut ?_
    | refine okRet ?_
    | (refine endBool (.inr rfl) rfl ?_; have hl := eqB_no hx hy (by rw [← beqE]; simpa using h); exact hl.symm; done)
    | (have hl := eqB_all hn (by simp at h; omega) he; refine endBool (.inr rfl) rfl ?_; exact hl.symm; done)
theorem sameCert_s [Wd] (a b : CertD) (ha : dCert.ok a) (hb : dCert.ok b) : FnP Tryz.prog 135 [.agg (cCert a), .agg (cCert b)] (.bool (eqB a b)) := by
  refine mkS 24 [] Tryz.func135 rfl (by kernel_rfl) ?_
  repeat'
    (conv => arg 2; whnf)
    first
    | refine okAsk (by kernel_rfl) ?_
    | refine okBrT ?_
    | refine okBrF ?_
    | refine okBr (fun h => ?_) (fun h => ?_)
    | refine okFn (eqSigns_s a.signs b.signs ha.2.2.1) rfl (Cos.refl _) ?_
    | (refine endBool (.inr rfl) rfl ?_; rw [cert_eqB]; simp_all; done)
    | (exfalso; simp_all; done)
theorem samePrep_s [Wd] (a b : PreparedD) (ha : dPrepared.ok a) (hb : dPrepared.ok b) : FnP Tryz.prog 208 [.agg (cPrepared a), .agg (cPrepared b)] (.bool (eqB a b)) := by
  refine mkS 45 [] Tryz.func208 rfl (by kernel_rfl) ?_
  repeat'
    (conv => arg 2; whnf)
    first
    | refine okAsk (by kernel_rfl) ?_
    | refine okBrT ?_
    | refine okBrF ?_
    | refine okBr (fun h => ?_) (fun h => ?_)
    | refine okFn (eqSigns_s a.signs b.signs ha.2.2.2.2.1.1) rfl (Cos.refl _) ?_
    | refine okFn (qSame_s a.batch b.batch ha.2.2.2.2.2 hb.2.2.2.2.2) rfl (Cos.refl _) ?_
    | (refine endBool (.inr rfl) rfl ?_; rw [prepared_eqB]; simp_all; done)
    | (exfalso; simp_all; done)
theorem eqPrep_s [Wd] (l k : List (PreparedD)) (hl : (dL dPrepared).ok l) (hk : (dL dPrepared).ok k) : FnP Tryz.prog 34 [.list 7 (l.map cPrepared), .list 7 (k.map cPrepared), .fn 208 0 []] (.bool (eqB l k)) := by
  have HL : l.length ≤ 4194304 := hl.1
  refine mkS 32 [] Tryz.func34 rfl (by kernel_rfl) ?_
  repeat'
    (conv => arg 2; whnf)
    first
    | refine okAsk (by kernel_rfl) ?_
    | refine okBrT ?_
    | refine okBrF ?_
    | refine okBr (fun h => ?_) (fun h => ?_)
    | (refine endBool (.inr rfl) rfl ?_; exact (eqB_len (by simp at h; omega)).symm)
  have hn : l.length = k.length := by simp at h; omega
  refine okLoop (α := Nat) (fun q => ⟨[(17, .int .i64 q), (16, .int .i64 (l.map cPrepared).length), (15, .list 7 (l.map cPrepared)), (2, .fn 208 0 []), (1, .list 7 (k.map cPrepared))], []⟩) (fun q => q ≤ l.length ∧ l.take q = k.take q) (fun q => l.length - q) 0 ⟨Nat.zero_le _, rfl⟩ (Sv.mk' [] rfl trivial ⟨rfl, rfl, rfl, rfl, rfl, trivial⟩) ?_
  rintro q ⟨hq, he⟩
  repeat'
    (conv => arg 2; whnf)
    first
    | refine okAsk (by kernel_rfl) ?_
    | refine okBrT ?_
    | refine okBrF ?_
    | refine okBr (fun h => ?_) (fun h => ?_)
    | refine okNthMap (l := l) (by simp at h; omega) (fun x hx => ?_)
    | refine okNthMap (l := k) (by simp at h; omega) (fun y hy => ?_)
    | refine okFn (samePrep_s x y (hl.2 x (List.mem_of_getElem? hx)) (hk.2 y (List.mem_of_getElem? hy))) rfl (Cos.refl _) ?_
    | refine okWrap (w64 (by simp at h hq; omega) (by have := HL; simp at h hq; omega)) ?_
    | refine okAgain (q + 1) (Sv.mk' [] rfl trivial ⟨rfl, rfl, rfl, rfl, rfl, trivial⟩) ⟨by have := (List.getElem?_eq_some_iff.1 hx).1; omega, eqB_go hx hy (by simpa using h) he⟩ (by have := (List.getElem?_eq_some_iff.1 hx).1; omega)
    | refine okOut ?_
    | refine okRet ?_
    | (refine endBool (.inr rfl) rfl ?_; have hl := eqB_no hx hy (by simpa using h); exact hl.symm; done)
    | (have hl := eqB_all hn (by simp at h; omega) he; refine endBool (.inr rfl) rfl ?_; exact hl.symm; done)
theorem sameChange_s [Wd] (a b : ChangeD) (ha : dChange.ok a) (hb : dChange.ok b) : FnP Tryz.prog 137 [.agg (cChange a), .agg (cChange b)] (.bool (eqB a b)) := by
  refine mkS 38 [] Tryz.func137 rfl (by kernel_rfl) ?_
  repeat'
    (conv => arg 2; whnf)
    first
    | refine okAsk (by kernel_rfl) ?_
    | refine okBrT ?_
    | refine okBrF ?_
    | refine okBr (fun h => ?_) (fun h => ?_)
    | refine okFn (sameCert_s a.cert b.cert ha.2.2.1 hb.2.2.1) rfl (Cos.refl _) ?_
    | refine okFn (eqPrep_s a.above b.above ha.2.2.2.1 hb.2.2.2.1) rfl (Cos.refl _) ?_
    | (refine endBool (.inr rfl) rfl ?_; rw [change_eqB]; simp_all; done)
    | (exfalso; simp_all; done)
theorem sameEntry_s [Wd] (a b : EntryD) (ha : dEntry.ok a) (hb : dEntry.ok b) : FnP Tryz.prog 139 [.agg (cEntry a), .agg (cEntry b)] (.bool (eqB a b)) := by
  refine mkS 31 [] Tryz.func139 rfl (by kernel_rfl) ?_
  repeat'
    (conv => arg 2; whnf)
    first
    | refine okAsk (by kernel_rfl) ?_
    | refine okBrT ?_
    | refine okBrF ?_
    | refine okBr (fun h => ?_) (fun h => ?_)
    | refine okFn (qSame_s a.batch b.batch ha.2.2.1 hb.2.2.1) rfl (Cos.refl _) ?_
    | (refine endBool (.inr rfl) rfl ?_; rw [entry_eqB]; simp_all; done)
    | (exfalso; simp_all; done)
theorem sameProof_s [Wd] (a b : ProofD) (ha : dProof.ok a) (hb : dProof.ok b) : FnP Tryz.prog 140 [.agg (cProof a), .agg (cProof b)] (.bool (eqB a b)) := by
  refine mkS 59 [] Tryz.func140 rfl (by kernel_rfl) ?_
  repeat'
    (conv => arg 2; whnf)
    first
    | refine okAsk (by kernel_rfl) ?_
    | refine okBrT ?_
    | refine okBrF ?_
    | refine okBr (fun h => ?_) (fun h => ?_)
    | refine okFn (bEq_s a.record b.record ha.2.2.1 hb.2.2.1) rfl (Cos.refl _) ?_
    | refine okFn (eqHeaders_s a.headers b.headers ha.2.2.2.1.1) rfl (Cos.refl _) ?_
    | refine okFn (eqDigests_s a.path b.path ha.2.2.2.2.2.2.1.1) rfl (Cos.refl _) ?_
    | refine okFn (sameCert_s a.cert b.cert ha.2.2.2.2.2.2.2 hb.2.2.2.2.2.2.2) rfl (Cos.refl _) ?_
    | (refine endBool (.inr rfl) rfl ?_; rw [proof_eqB]; simp_all; done)
    | (exfalso; simp_all; done)
theorem eqChange_s [Wd] (l k : List (ChangeD)) (hl : (dL dChange).ok l) (hk : (dL dChange).ok k) : FnP Tryz.prog 136 [.list 8 (l.map cChange), .list 8 (k.map cChange), .fn 137 0 []] (.bool (eqB l k)) := by
  have HL : l.length ≤ 4194304 := hl.1
  refine mkS 32 [] Tryz.func136 rfl (by kernel_rfl) ?_
  repeat'
    (conv => arg 2; whnf)
    first
    | refine okAsk (by kernel_rfl) ?_
    | refine okBrT ?_
    | refine okBrF ?_
    | refine okBr (fun h => ?_) (fun h => ?_)
    | (refine endBool (.inr rfl) rfl ?_; exact (eqB_len (by simp at h; omega)).symm)
  have hn : l.length = k.length := by simp at h; omega
  refine okLoop (α := Nat) (fun q => ⟨[(17, .int .i64 q), (16, .int .i64 (l.map cChange).length), (15, .list 8 (l.map cChange)), (2, .fn 137 0 []), (1, .list 8 (k.map cChange))], []⟩) (fun q => q ≤ l.length ∧ l.take q = k.take q) (fun q => l.length - q) 0 ⟨Nat.zero_le _, rfl⟩ (Sv.mk' [] rfl trivial ⟨rfl, rfl, rfl, rfl, rfl, trivial⟩) ?_
  rintro q ⟨hq, he⟩
  repeat'
    (conv => arg 2; whnf)
    first
    | refine okAsk (by kernel_rfl) ?_
    | refine okBrT ?_
    | refine okBrF ?_
    | refine okBr (fun h => ?_) (fun h => ?_)
    | refine okNthMap (l := l) (by simp at h; omega) (fun x hx => ?_)
    | refine okNthMap (l := k) (by simp at h; omega) (fun y hy => ?_)
    | refine okFn (sameChange_s x y (hl.2 x (List.mem_of_getElem? hx)) (hk.2 y (List.mem_of_getElem? hy))) rfl (Cos.refl _) ?_
    | refine okWrap (w64 (by simp at h hq; omega) (by have := HL; simp at h hq; omega)) ?_
    | refine okAgain (q + 1) (Sv.mk' [] rfl trivial ⟨rfl, rfl, rfl, rfl, rfl, trivial⟩) ⟨by have := (List.getElem?_eq_some_iff.1 hx).1; omega, eqB_go hx hy (by simpa using h) he⟩ (by have := (List.getElem?_eq_some_iff.1 hx).1; omega)
    | refine okOut ?_
    | refine okRet ?_
    | (refine endBool (.inr rfl) rfl ?_; have hl := eqB_no hx hy (by simpa using h); exact hl.symm; done)
    | (have hl := eqB_all hn (by simp at h; omega) he; refine endBool (.inr rfl) rfl ?_; exact hl.symm; done)
theorem eqEntry_s [Wd] (l k : List (EntryD)) (hl : (dL dEntry).ok l) (hk : (dL dEntry).ok k) : FnP Tryz.prog 138 [.list 5 (l.map cEntry), .list 5 (k.map cEntry), .fn 139 0 []] (.bool (eqB l k)) := by
  have HL : l.length ≤ 4194304 := hl.1
  refine mkS 32 [] Tryz.func138 rfl (by kernel_rfl) ?_
  repeat'
    (conv => arg 2; whnf)
    first
    | refine okAsk (by kernel_rfl) ?_
    | refine okBrT ?_
    | refine okBrF ?_
    | refine okBr (fun h => ?_) (fun h => ?_)
    | (refine endBool (.inr rfl) rfl ?_; exact (eqB_len (by simp at h; omega)).symm)
  have hn : l.length = k.length := by simp at h; omega
  refine okLoop (α := Nat) (fun q => ⟨[(17, .int .i64 q), (16, .int .i64 (l.map cEntry).length), (15, .list 5 (l.map cEntry)), (2, .fn 139 0 []), (1, .list 5 (k.map cEntry))], []⟩) (fun q => q ≤ l.length ∧ l.take q = k.take q) (fun q => l.length - q) 0 ⟨Nat.zero_le _, rfl⟩ (Sv.mk' [] rfl trivial ⟨rfl, rfl, rfl, rfl, rfl, trivial⟩) ?_
  rintro q ⟨hq, he⟩
  repeat'
    (conv => arg 2; whnf)
    first
    | refine okAsk (by kernel_rfl) ?_
    | refine okBrT ?_
    | refine okBrF ?_
    | refine okBr (fun h => ?_) (fun h => ?_)
    | refine okNthMap (l := l) (by simp at h; omega) (fun x hx => ?_)
    | refine okNthMap (l := k) (by simp at h; omega) (fun y hy => ?_)
    | refine okFn (sameEntry_s x y (hl.2 x (List.mem_of_getElem? hx)) (hk.2 y (List.mem_of_getElem? hy))) rfl (Cos.refl _) ?_
    | refine okWrap (w64 (by simp at h hq; omega) (by have := HL; simp at h hq; omega)) ?_
    | refine okAgain (q + 1) (Sv.mk' [] rfl trivial ⟨rfl, rfl, rfl, rfl, rfl, trivial⟩) ⟨by have := (List.getElem?_eq_some_iff.1 hx).1; omega, eqB_go hx hy (by simpa using h) he⟩ (by have := (List.getElem?_eq_some_iff.1 hx).1; omega)
    | refine okOut ?_
    | refine okRet ?_
    | (refine endBool (.inr rfl) rfl ?_; have hl := eqB_no hx hy (by simpa using h); exact hl.symm; done)
    | (have hl := eqB_all hn (by simp at h; omega) he; refine endBool (.inr rfl) rfl ?_; exact hl.symm; done)
def flatD (a : MsgD) : List D := [.int .i64 a.kind, .int .i64 a.src, .int .i64 a.client, .int .i64 a.view, .int .i64 a.seq, .int .i64 a.time, .int .i64 a.offset, .int .i64 a.digest, .int .i64 a.result.err, .int .i64 a.result.offset, .str a.topic, .int .i64 a.sign.key, .int .i64 a.sign.digest]
theorem flatOf_s [Wd] (a : MsgD) : FnP Tryz.prog 134 [.agg (cMsg a)] (.agg (flatD a)) := by
  refine mkS 26 [] Tryz.func134 rfl (by kernel_rfl) ?_
  repeat'
    (conv => arg 2; whnf)
    first
    | refine okAsk (by kernel_rfl) ?_
    | refine okBrT ?_
    | refine okBrF ?_
    | refine okBr (fun h => ?_) (fun h => ?_)
    | refine endFn0 (.inr rfl) rfl (.refl _) rfl
theorem mSame_s [Wd] (a b : MsgD) (ha : dMsg.ok a) (hb : dMsg.ok b) : FnP Tryz.prog 39 [.agg (cMsg a), .agg (cMsg b)] (.bool (eqB a b)) := by
  refine mkS 52 [(1, ⟨[(0, false), (2, false), (1, true), (3, true), (4, false), (5, false), (6, false), (7, false), (8, false), (9, false), (10, true), (11, false), (12, false), (13, false), (14, false), (15, false), (16, false), (17, true), (18, false), (19, false), (20, false), (21, false), (22, false), (23, false), (24, true), (25, false), (26, false), (27, false), (28, false), (29, false), (30, false), (31, true), (32, false), (33, false), (34, false), (35, false), (36, false), (37, false), (38, true), (39, false), (40, false), (41, false), (42, false), (43, false), (44, false), (45, true), (46, false), (47, false)], []⟩)] Tryz.func39 rfl (by kernel_rfl) ?_
  repeat'
    (conv => arg 2; whnf)
    first
    | refine okAsk (by kernel_rfl) ?_
    | refine okBrT ?_
    | refine okBrF ?_
    | refine okBr (fun h => ?_) (fun h => ?_)
    | refine okFn (flatOf_s _) rfl (Cos.refl _) ?_
    | refine okFn (qSame_s a.batch b.batch ha.2.2.2.2.2.2.2.2.1 hb.2.2.2.2.2.2.2.2.1) rfl (Cos.refl _) ?_
    | refine okFn (sameCert_s a.cert b.cert ha.2.2.2.2.2.2.2.2.2.1 hb.2.2.2.2.2.2.2.2.2.1) rfl (Cos.refl _) ?_
    | refine okFn (eqChange_s a.changes b.changes ha.2.2.2.2.2.2.2.2.2.2.1 hb.2.2.2.2.2.2.2.2.2.2.1) rfl (Cos.refl _) ?_
    | refine okFn (eqEntry_s a.entries b.entries ha.2.2.2.2.2.2.2.2.2.2.2.1 hb.2.2.2.2.2.2.2.2.2.2.2.1) rfl (Cos.refl _) ?_
    | refine okFn (bEq_s a.state b.state ha.2.2.2.2.2.2.2.2.2.2.2.2.1 hb.2.2.2.2.2.2.2.2.2.2.2.2.1) rfl (Cos.refl _) ?_
    | refine okFn (sameProof_s a.proof b.proof ha.2.2.2.2.2.2.2.2.2.2.2.2.2.2.2.1 hb.2.2.2.2.2.2.2.2.2.2.2.2.2.2.2.1) rfl (Cos.refl _) ?_
    | (refine endBool (.inr rfl) rfl ?_; rw [msg_eqB]; simp_all; done)
    | (exfalso; simp_all; done)
end Go.Proofs.YteaggenihhaajaaGreat

/- Which operations, batches, messages are the same, over data: the reference's side (printed by gen_ar.py). -/
namespace Go.Proofs.YteaggenihhaajaaGreat
open Go.RowKit
set_option linter.unusedVariables false
set_option maxRecDepth 20000

theorem okNthAt [Wd] {P : Program} {Q : Exit → S → Prop} {α : Type} {l : List α} {f : α → List D} {q : Nat} {x : α} {c : List D → T} (hx : l[q]? = some x) (h : (c (f x)).ok P Q) : (T.nth (l.map f) (q : Int) c).ok P Q :=
  ⟨f x, Int.natCast_nonneg q, by simp [hx], h⟩
theorem rSigns_s [Wd] (l k : List (SignD)) (hl : l.length ≤ 4194304) : FnP Tryz.prog 184 [.list 2 (l.map cSign), .list 2 (k.map cSign)] (.bool (eqB l k)) := by
  have HL : l.length ≤ 4194304 := hl
  refine mkS 26 [] Tryz.func184 rfl (by kernel_rfl) ?_
  repeat'
    (conv => arg 2; whnf)
    first
    | refine okAsk (by kernel_rfl) ?_
    | refine okBrT ?_
    | refine okBrF ?_
    | refine okBr (fun h => ?_) (fun h => ?_)
    | (refine endBool (.inr rfl) rfl ?_; exact (eqB_len (by simp at h; omega)).symm)
  have hn : l.length = k.length := by simp at h; omega
  refine okLoop (α := Nat) (fun q => ⟨[(5, .int .i64 q), (0, .list 2 (l.map cSign)), (1, .list 2 (k.map cSign))], []⟩) (fun q => q ≤ l.length ∧ l.take q = k.take q) (fun q => l.length - q) 0 ⟨Nat.zero_le _, rfl⟩ (Sv.mk' [] rfl trivial ⟨rfl, rfl, rfl, trivial⟩) ?_
  rintro q ⟨hq, he⟩
  repeat'
    (conv => arg 2; whnf)
    first
    | refine okAsk (by kernel_rfl) ?_
    | refine okBrT ?_
    | refine okBrF ?_
    | refine okBr (fun h => ?_) (fun h => ?_)
    | refine okNthMap (l := l) (by simp at h; omega) (fun x hx => ?_)
    | refine okNthMap (l := k) (by simp at h; omega) (fun y hy => ?_)
    | refine okWrap (w64 (by simp at h hq; omega) (by have := HL; simp at h hq; omega)) ?_
    | refine okAgain (q + 1) (Sv.mk' [] rfl trivial ⟨rfl, rfl, rfl, trivial⟩) ⟨by have := (List.getElem?_eq_some_iff.1 hx).1; omega, eqB_go hx hy (by rw [← sign_eqB]; rw [Bool.true_and] at h; first | exact (Bool.not_eq_true' _).mp h | exact (Bool.not_eq_false' _).mp h) he⟩ (by have := (List.getElem?_eq_some_iff.1 hx).1; omega)
    | refine okOut ?_
    | refine okRet ?_
    | (refine endBool (.inr rfl) rfl ?_; have hl := eqB_no hx hy (by rw [← sign_eqB]; rw [Bool.true_and] at h; first | exact (Bool.not_eq_true' _).mp h | exact (Bool.not_eq_false' _).mp h); exact hl.symm; done)
    | (have hl := eqB_all hn (by simp at h; omega) he; refine endBool (.inr rfl) rfl ?_; exact hl.symm; done)
theorem rCert_s [Wd] (a b : CertD) (ha : dCert.ok a) (hb : dCert.ok b) : FnP Tryz.prog 103 [.agg (cCert a), .agg (cCert b)] (.bool (eqB a b)) := by
  refine mkS 24 [] Tryz.func103 rfl (by kernel_rfl) ?_
  repeat'
    (conv => arg 2; whnf)
    first
    | refine okAsk (by kernel_rfl) ?_
    | refine okBrT ?_
    | refine okBrF ?_
    | refine okBr (fun h => ?_) (fun h => ?_)
    | refine okFn (rSigns_s a.signs b.signs ha.2.2.1) rfl (Cos.refl _) ?_
    | (refine endBool (.inr rfl) rfl ?_; rw [cert_eqB]; simp_all; done)
    | (exfalso; simp_all; done)
theorem rOp_s [Wd] (a b : OpD) (ha : dOp.ok a) (hb : dOp.ok b) : FnP Tryz.prog 187 [.agg (cOp a), .agg (cOp b)] (.bool (eqB a b)) := by
  refine mkS 61 [] Tryz.func187 rfl (by kernel_rfl) ?_
  repeat'
    (conv => arg 2; whnf)
    first
    | refine okAsk (by kernel_rfl) ?_
    | refine okBrT ?_
    | refine okBrF ?_
    | refine okBr (fun h => ?_) (fun h => ?_)
    | (refine endBool (.inr rfl) rfl ?_; rw [op_eqB]; simp_all; done)
    | (refine endBool (.inr rfl) rfl ?_; rw [op_eqB, eqB_len (l := a.records) (k := b.records) (by simp at h; omega)]; simp; done)
    | (exfalso; simp_all; done)
  have HL : a.records.length ≤ 4194304 := ha.2.2.2.2.1
  have hl := ha.2.2.2.2
  have hk := hb.2.2.2.2
  have hn : a.records.length = b.records.length := by
    have e : (a.records.length : Int) = b.records.length := by simp_all
    omega
  refine okLoop (α := Nat) (fun q => ⟨[(5, .int .i64 q), (2, .ptr 0 0), (3, .ptr 1 0)], [.cells 80 (cOp a), .cells 80 (cOp b)]⟩) (fun q => q ≤ a.records.length ∧ a.records.take q = b.records.take q) (fun q => a.records.length - q) 0 ⟨Nat.zero_le _, rfl⟩ (Sv.mk' [0, 1] rfl ⟨⟨rfl, rfl⟩, ⟨rfl, rfl⟩, trivial⟩ ⟨rfl, rfl, rfl, trivial⟩) ?_
  rintro q ⟨hq, he⟩
  repeat'
    (conv => arg 2; whnf)
    first
    | refine okAsk (by kernel_rfl) ?_
    | refine okBrT ?_
    | refine okBrF ?_
    | refine okBr (fun h => ?_) (fun h => ?_)
    | refine okNthMap (l := a.records) (by simp at h; omega) (fun x hx => ?_)
    | refine okNthMap (l := b.records) (by simp at h; omega) (fun y hy => ?_)
    | refine okByts x rfl ?_
    | refine okByts y rfl ?_
    | refine okAsk (by have h2 : y.length ≤ 4194304 := hk.2 y (List.mem_of_getElem? hy); omega) ?_
    | refine okAsk (by have h1 : x.length ≤ 4194304 := hl.2 x (List.mem_of_getElem? hx); omega) ?_
    | refine okWrap (w64 (by simp at h hq; omega) (by have := HL; simp at h hq; omega)) ?_
    | refine okAgain (q + 1) (Sv.mk' [0, 1] rfl ⟨⟨rfl, rfl⟩, ⟨rfl, rfl⟩, trivial⟩ ⟨rfl, rfl, rfl, trivial⟩) ⟨by have := (List.getElem?_eq_some_iff.1 hx).1; omega, eqB_go hx hy (by rw [← decE]; simpa using h) he⟩ (by have := (List.getElem?_eq_some_iff.1 hx).1; omega)
    | refine okOut ?_
    | refine okRet ?_
    | (refine endBool (.inr rfl) rfl ?_; have hl := eqB_no hx hy (by rw [← decE]; simpa using h); rw [op_eqB, hl]; simp; done)
    | (have hl := eqB_all hn (by simp at h; omega) he; refine endBool (.inr rfl) rfl ?_; rw [op_eqB]; simp_all; done)
theorem rReq_s [Wd] (a b : RequestD) (ha : dRequest.ok a) (hb : dRequest.ok b) : FnP Tryz.prog 106 [.agg (cRequest a), .agg (cRequest b)] (.bool (eqB a b)) := by
  refine mkS 24 [] Tryz.func106 rfl (by kernel_rfl) ?_
  repeat'
    (conv => arg 2; whnf)
    first
    | refine okAsk (by kernel_rfl) ?_
    | refine okBrT ?_
    | refine okBrF ?_
    | refine okBr (fun h => ?_) (fun h => ?_)
    | refine okFn (rOp_s a.op b.op ha.2.2 hb.2.2) rfl (Cos.refl _) ?_
    | (refine endBool (.inr rfl) rfl ?_; rw [request_eqB]; simp_all; done)
    | (exfalso; simp_all; done)
theorem rBatch_s [Wd] (l k : List (SignedD)) (hl : (dL dSigned).ok l) (hk : (dL dSigned).ok k) : FnP Tryz.prog 26 [.list 9 (l.map cSigned), .list 9 (k.map cSigned)] (.bool (eqB l k)) := by
  have HL : l.length ≤ 4194304 := hl.1
  refine mkS 42 [] Tryz.func26 rfl (by kernel_rfl) ?_
  repeat'
    (conv => arg 2; whnf)
    first
    | refine okAsk (by kernel_rfl) ?_
    | refine okBrT ?_
    | refine okBrF ?_
    | refine okBr (fun h => ?_) (fun h => ?_)
    | (refine endBool (.inr rfl) rfl ?_; exact (eqB_len (by simp at h; omega)).symm)
  have hn : l.length = k.length := by simp at h; omega
  refine okLoop (α := Nat) (fun q => ⟨[(5, .int .i64 q), (0, .list 9 (l.map cSigned)), (1, .list 9 (k.map cSigned))], []⟩) (fun q => q ≤ l.length ∧ l.take q = k.take q) (fun q => l.length - q) 0 ⟨Nat.zero_le _, rfl⟩ (Sv.mk' [] rfl trivial ⟨rfl, rfl, rfl, trivial⟩) ?_
  rintro q ⟨hq, he⟩
  repeat'
    (conv => arg 2; whnf)
    first
    | refine okAsk (by kernel_rfl) ?_
    | refine okBrT ?_
    | refine okBrF ?_
    | refine okBr (fun h => ?_) (fun h => ?_)
    | refine okNthAt hx ?_
    | refine okNthAt hy ?_
    | refine okNthMap (l := l) (by simp at h; omega) (fun x hx => ?_)
    | refine okNthMap (l := k) (by simp at h; omega) (fun y hy => ?_)
    | refine okFn (rReq_s x.request y.request (hl.2 x (List.mem_of_getElem? hx)).1 (hk.2 y (List.mem_of_getElem? hy)).1) rfl (Cos.refl _) ?_
    | refine okWrap (w64 (by simp at h hq; omega) (by have := HL; simp at h hq; omega)) ?_
    | refine okAgain (q + 1) (Sv.mk' [] rfl trivial ⟨rfl, rfl, rfl, trivial⟩) ⟨by have := (List.getElem?_eq_some_iff.1 hx).1; omega, eqB_go hx hy (by rw [signed_eqB]; simp_all) he⟩ (by have := (List.getElem?_eq_some_iff.1 hx).1; omega)
    | refine okOut ?_
    | refine okRet ?_
    | (refine endBool (.inr rfl) rfl ?_; have hl := eqB_no hx hy (by rw [signed_eqB]; simp_all); exact hl.symm; done)
    | (have hl := eqB_all hn (by simp at h; omega) he; refine endBool (.inr rfl) rfl ?_; exact hl.symm; done)
theorem rPrep_s [Wd] (a b : PreparedD) (ha : dPrepared.ok a) (hb : dPrepared.ok b) : FnP Tryz.prog 188 [.agg (cPrepared a), .agg (cPrepared b)] (.bool (eqB a b)) := by
  refine mkS 45 [] Tryz.func188 rfl (by kernel_rfl) ?_
  repeat'
    (conv => arg 2; whnf)
    first
    | refine okAsk (by kernel_rfl) ?_
    | refine okBrT ?_
    | refine okBrF ?_
    | refine okBr (fun h => ?_) (fun h => ?_)
    | refine okFn (rSigns_s a.signs b.signs ha.2.2.2.2.1.1) rfl (Cos.refl _) ?_
    | refine okFn (rBatch_s a.batch b.batch ha.2.2.2.2.2 hb.2.2.2.2.2) rfl (Cos.refl _) ?_
    | (refine endBool (.inr rfl) rfl ?_; rw [prepared_eqB]; simp_all; done)
    | (exfalso; simp_all; done)
theorem rChange_s [Wd] (a b : ChangeD) (ha : dChange.ok a) (hb : dChange.ok b) : FnP Tryz.prog 107 [.agg (cChange a), .agg (cChange b)] (.bool (eqB a b)) := by
  refine mkS 61 [] Tryz.func107 rfl (by kernel_rfl) ?_
  repeat'
    (conv => arg 2; whnf)
    first
    | refine okAsk (by kernel_rfl) ?_
    | refine okBrT ?_
    | refine okBrF ?_
    | refine okBr (fun h => ?_) (fun h => ?_)
    | refine okFn (rCert_s a.cert b.cert ha.2.2.1 hb.2.2.1) rfl (Cos.refl _) ?_
    | (refine endBool (.inr rfl) rfl ?_; rw [change_eqB]; simp_all; done)
    | (refine endBool (.inr rfl) rfl ?_; rw [change_eqB, eqB_len (l := a.above) (k := b.above) (by simp at h; omega)]; simp; done)
    | (exfalso; simp_all; done)
  have HL : a.above.length ≤ 4194304 := ha.2.2.2.1.1
  have hl := ha.2.2.2.1
  have hk := hb.2.2.2.1
  have hn : a.above.length = b.above.length := by
    have e : (a.above.length : Int) = b.above.length := by simp_all
    omega
  refine okLoop (α := Nat) (fun q => ⟨[(5, .int .i64 q), (2, .ptr 0 0), (3, .ptr 1 0)], [.cells 77 (cChange a), .cells 77 (cChange b)]⟩) (fun q => q ≤ a.above.length ∧ a.above.take q = b.above.take q) (fun q => a.above.length - q) 0 ⟨Nat.zero_le _, rfl⟩ (Sv.mk' [0, 1] rfl ⟨⟨rfl, rfl⟩, ⟨rfl, rfl⟩, trivial⟩ ⟨rfl, rfl, rfl, trivial⟩) ?_
  rintro q ⟨hq, he⟩
  repeat'
    (conv => arg 2; whnf)
    first
    | refine okAsk (by kernel_rfl) ?_
    | refine okBrT ?_
    | refine okBrF ?_
    | refine okBr (fun h => ?_) (fun h => ?_)
    | refine okNthMap (l := a.above) (by simp at h; omega) (fun x hx => ?_)
    | refine okNthMap (l := b.above) (by simp at h; omega) (fun y hy => ?_)
    | refine okFn (rPrep_s x y (hl.2 x (List.mem_of_getElem? hx)) (hk.2 y (List.mem_of_getElem? hy))) rfl (Cos.refl _) ?_
    | refine okWrap (w64 (by simp at h hq; omega) (by have := HL; simp at h hq; omega)) ?_
    | refine okAgain (q + 1) (Sv.mk' [0, 1] rfl ⟨⟨rfl, rfl⟩, ⟨rfl, rfl⟩, trivial⟩ ⟨rfl, rfl, rfl, trivial⟩) ⟨by have := (List.getElem?_eq_some_iff.1 hx).1; omega, eqB_go hx hy (by simpa using h) he⟩ (by have := (List.getElem?_eq_some_iff.1 hx).1; omega)
    | refine okOut ?_
    | refine okRet ?_
    | (refine endBool (.inr rfl) rfl ?_; have hl := eqB_no hx hy (by simpa using h); rw [change_eqB, hl]; simp; done)
    | (have hl := eqB_all hn (by simp at h; omega) he; refine endBool (.inr rfl) rfl ?_; rw [change_eqB]; simp_all; done)
theorem rEntries_s [Wd] (l k : List (EntryD)) (hl : (dL dEntry).ok l) (hk : (dL dEntry).ok k) : FnP Tryz.prog 189 [.list 5 (l.map cEntry), .list 5 (k.map cEntry)] (.bool (eqB l k)) := by
  have HL : l.length ≤ 4194304 := hl.1
  refine mkS 68 [] Tryz.func189 rfl (by kernel_rfl) ?_
  repeat'
    (conv => arg 2; whnf)
    first
    | refine okAsk (by kernel_rfl) ?_
    | refine okBrT ?_
    | refine okBrF ?_
    | refine okBr (fun h => ?_) (fun h => ?_)
    | (refine endBool (.inr rfl) rfl ?_; exact (eqB_len (by simp at h; omega)).symm)
  have hn : l.length = k.length := by simp at h; omega
  refine okLoop (α := Nat) (fun q => ⟨[(5, .int .i64 q), (0, .list 5 (l.map cEntry)), (1, .list 5 (k.map cEntry))], []⟩) (fun q => q ≤ l.length ∧ l.take q = k.take q) (fun q => l.length - q) 0 ⟨Nat.zero_le _, rfl⟩ (Sv.mk' [] rfl trivial ⟨rfl, rfl, rfl, trivial⟩) ?_
  rintro q ⟨hq, he⟩
  repeat'
    (conv => arg 2; whnf)
    first
    | refine okAsk (by kernel_rfl) ?_
    | refine okBrT ?_
    | refine okBrF ?_
    | refine okBr (fun h => ?_) (fun h => ?_)
    | refine okNthAt hx ?_
    | refine okNthAt hy ?_
    | refine okNthMap (l := l) (by simp at h; omega) (fun x hx => ?_)
    | refine okNthMap (l := k) (by simp at h; omega) (fun y hy => ?_)
    | refine okFn (rBatch_s x.batch y.batch (hl.2 x (List.mem_of_getElem? hx)).2.2.1 (hk.2 y (List.mem_of_getElem? hy)).2.2.1) rfl (Cos.refl _) ?_
    | refine okWrap (w64 (by simp at h hq; omega) (by have := HL; simp at h hq; omega)) ?_
    | refine okAgain (q + 1) (Sv.mk' [] rfl trivial ⟨rfl, rfl, rfl, trivial⟩) ⟨by have := (List.getElem?_eq_some_iff.1 hx).1; omega, eqB_go hx hy (by rw [entry_eqB]; simp_all) he⟩ (by have := (List.getElem?_eq_some_iff.1 hx).1; omega)
    | refine okOut ?_
    | refine okRet ?_
    | (refine endBool (.inr rfl) rfl ?_; have hl := eqB_no hx hy (by rw [entry_eqB]; simp_all); exact hl.symm; done)
    | (have hl := eqB_all hn (by simp at h; omega) he; refine endBool (.inr rfl) rfl ?_; exact hl.symm; done)
theorem rProof_s [Wd] (a b : ProofD) (ha : dProof.ok a) (hb : dProof.ok b) : FnP Tryz.prog 190 [.agg (cProof a), .agg (cProof b)] (.bool (eqB a b)) := by
  have la : a.record.length ≤ 4194304 := ha.2.2.1
  have lb : b.record.length ≤ 4194304 := hb.2.2.1
  refine mkS 104 [] Tryz.func190 rfl (by kernel_rfl) ?_
  repeat'
    (conv => arg 2; whnf)
    first
    | refine okAsk (by kernel_rfl) ?_
    | refine okBrT ?_
    | refine okBrF ?_
    | refine okBr (fun h => ?_) (fun h => ?_)
    | refine okByts a.record rfl ?_
    | refine okByts b.record rfl ?_
    | refine okAsk (by omega) ?_
    | refine okFn (rCert_s a.cert b.cert ha.2.2.2.2.2.2.2 hb.2.2.2.2.2.2.2) rfl (Cos.refl _) ?_
    | (refine endBool (.inr rfl) rfl ?_; rw [proof_eqB]; simp_all [← decE]; done)
    | (refine endBool (.inr rfl) rfl ?_; rw [proof_eqB, eqB_len (l := a.headers) (k := b.headers) (by simp at h; omega)]; simp; done)
    | (refine endBool (.inr rfl) rfl ?_; rw [proof_eqB, eqB_len (l := a.path) (k := b.path) (by simp at h; omega)]; simp; done)
    | (exfalso; simp_all; done)
  have HL : a.headers.length ≤ 4194304 := ha.2.2.2.1.1
  have hl := ha.2.2.2.1
  have hk := hb.2.2.2.1
  have hn : a.headers.length = b.headers.length := by
    have e : (a.headers.length : Int) = b.headers.length := by simp_all
    omega
  refine okLoop (α := Nat) (fun q => ⟨[(5, .int .i64 q), (2, .ptr 0 0), (3, .ptr 1 0)], [.cells 120 (cProof a), .cells 120 (cProof b)]⟩) (fun q => q ≤ a.headers.length ∧ a.headers.take q = b.headers.take q) (fun q => a.headers.length - q) 0 ⟨Nat.zero_le _, rfl⟩ (Sv.mk' [0, 1] rfl ⟨⟨rfl, rfl⟩, ⟨rfl, rfl⟩, trivial⟩ ⟨rfl, rfl, rfl, trivial⟩) ?_
  rintro q ⟨hq, he⟩
  repeat'
    (conv => arg 2; whnf)
    first
    | refine okAsk (by kernel_rfl) ?_
    | refine okBrT ?_
    | refine okBrF ?_
    | refine okBr (fun h => ?_) (fun h => ?_)
    | refine okNthMap (l := a.headers) (by simp at h; omega) (fun x hx => ?_)
    | refine okNthMap (l := b.headers) (by simp at h; omega) (fun y hy => ?_)
    | refine okWrap (w64 (by simp at h hq; omega) (by have := HL; simp at h hq; omega)) ?_
    | refine okAgain (q + 1) (Sv.mk' [0, 1] rfl ⟨⟨rfl, rfl⟩, ⟨rfl, rfl⟩, trivial⟩ ⟨rfl, rfl, rfl, trivial⟩) ⟨by have := (List.getElem?_eq_some_iff.1 hx).1; omega, eqB_go hx hy (by rw [← head_eqB]; rw [Bool.true_and] at h; first | exact (Bool.not_eq_true' _).mp h | exact (Bool.not_eq_false' _).mp h) he⟩ (by have := (List.getElem?_eq_some_iff.1 hx).1; omega)
    | refine okOut ?_
    | refine okRet ?_
    | (refine endBool (.inr rfl) rfl ?_; have hl := eqB_no hx hy (by rw [← head_eqB]; rw [Bool.true_and] at h; first | exact (Bool.not_eq_true' _).mp h | exact (Bool.not_eq_false' _).mp h); rw [proof_eqB, hl]; simp; done)
    | (have hl := eqB_all hn (by simp at h; omega) he; refine endBool (.inr rfl) rfl ?_; rw [proof_eqB]; simp_all [← decE]; done)
  have hl0 := eqB_all hn (by simp at h; omega) he
  clear hq he h
  have HL : a.path.length ≤ 4194304 := ha.2.2.2.2.2.2.1.1
  have hl := ha.2.2.2.2.2.2.1
  have hk := hb.2.2.2.2.2.2.1
  have hn : a.path.length = b.path.length := by
    have e : (a.path.length : Int) = b.path.length := by simp_all
    omega
  refine okLoop (α := Nat) (fun q => ⟨[(6, .int .i64 q), (2, .ptr 0 0), (3, .ptr 1 0)], [.cells 120 (cProof a), .cells 120 (cProof b)]⟩) (fun q => q ≤ a.path.length ∧ a.path.take q = b.path.take q) (fun q => a.path.length - q) 0 ⟨Nat.zero_le _, rfl⟩ (Sv.mk' [0, 1] rfl ⟨⟨rfl, rfl⟩, ⟨rfl, rfl⟩, trivial⟩ ⟨rfl, rfl, rfl, trivial⟩) ?_
  rintro q ⟨hq, he⟩
  repeat'
    (conv => arg 2; whnf)
    first
    | refine okAsk (by kernel_rfl) ?_
    | refine okBrT ?_
    | refine okBrF ?_
    | refine okBr (fun h => ?_) (fun h => ?_)
    | refine okNthMap (l := a.path) (by simp at h; omega) (fun x hx => ?_)
    | refine okNthMap (l := b.path) (by simp at h; omega) (fun y hy => ?_)
    | refine okWrap (w64 (by simp at h hq; omega) (by have := HL; simp at h hq; omega)) ?_
    | refine okAgain (q + 1) (Sv.mk' [0, 1] rfl ⟨⟨rfl, rfl⟩, ⟨rfl, rfl⟩, trivial⟩ ⟨rfl, rfl, rfl, trivial⟩) ⟨by have := (List.getElem?_eq_some_iff.1 hx).1; omega, eqB_go hx hy (by rw [← beqE]; simpa using h) he⟩ (by have := (List.getElem?_eq_some_iff.1 hx).1; omega)
    | refine okOut ?_
    | refine okRet ?_
    | (refine endBool (.inr rfl) rfl ?_; have hl := eqB_no hx hy (by rw [← beqE]; simpa using h); rw [proof_eqB, hl]; simp; done)
    | (have hl := eqB_all hn (by simp at h; omega) he; refine endBool (.inr rfl) rfl ?_; rw [proof_eqB]; simp_all [← decE]; done)
theorem rMsg_s [Wd] (a b : MsgD) (ha : dMsg.ok a) (hb : dMsg.ok b) : FnP Tryz.prog 108 [.agg (cMsg a), .agg (cMsg b)] (.bool (eqB a b)) := by
  have la : a.state.length ≤ 4194304 := ha.2.2.2.2.2.2.2.2.2.2.2.2.1
  have lb : b.state.length ≤ 4194304 := hb.2.2.2.2.2.2.2.2.2.2.2.2.1
  refine mkS 148 [] Tryz.func108 rfl (by kernel_rfl) ?_
  repeat'
    (conv => arg 2; whnf)
    first
    | refine okAsk (by kernel_rfl) ?_
    | refine okBrT ?_
    | refine okBrF ?_
    | refine okBr (fun h => ?_) (fun h => ?_)
    | refine okByts a.state rfl ?_
    | refine okByts b.state rfl ?_
    | refine okAsk (by omega) ?_
    | refine okFn (rBatch_s a.batch b.batch ha.2.2.2.2.2.2.2.2.1 hb.2.2.2.2.2.2.2.2.1) rfl (Cos.refl _) ?_
    | refine okFn (rCert_s a.cert b.cert ha.2.2.2.2.2.2.2.2.2.1 hb.2.2.2.2.2.2.2.2.2.1) rfl (Cos.refl _) ?_
    | refine okFn (rEntries_s a.entries b.entries ha.2.2.2.2.2.2.2.2.2.2.2.1 hb.2.2.2.2.2.2.2.2.2.2.2.1) rfl (Cos.refl _) ?_
    | refine okFn (rProof_s a.proof b.proof ha.2.2.2.2.2.2.2.2.2.2.2.2.2.2.2.1 hb.2.2.2.2.2.2.2.2.2.2.2.2.2.2.2.1) rfl (Cos.refl _) ?_
    | (refine endBool (.inr rfl) rfl ?_; rw [msg_eqB]; simp_all [← decE]; done)
    | (refine endBool (.inr rfl) rfl ?_; rw [msg_eqB, eqB_len (l := a.changes) (k := b.changes) (by simp at h; omega)]; simp; done)
    | (refine endBool (.inr rfl) rfl ?_; rw [msg_eqB]; cases hsg : (a.sign.key == b.sign.key) <;> simp_all; done)
    | (refine endBool (.inr rfl) rfl ?_; rw [msg_eqB]; cases hsg : (a.result.err == b.result.err) <;> simp_all; done)
    | (exfalso; simp_all; done)
  have HL : a.changes.length ≤ 4194304 := ha.2.2.2.2.2.2.2.2.2.2.1.1
  have hl := ha.2.2.2.2.2.2.2.2.2.2.1
  have hk := hb.2.2.2.2.2.2.2.2.2.2.1
  have hn : a.changes.length = b.changes.length := by
    have e : (a.changes.length : Int) = b.changes.length := by simp_all
    omega
  refine okLoop (α := Nat) (fun q => ⟨[(5, .int .i64 q), (2, .ptr 0 0), (3, .ptr 1 0)], [.cells 122 (cMsg a), .cells 122 (cMsg b)]⟩) (fun q => q ≤ a.changes.length ∧ a.changes.take q = b.changes.take q) (fun q => a.changes.length - q) 0 ⟨Nat.zero_le _, rfl⟩ (Sv.mk' [0, 1] rfl ⟨⟨rfl, rfl⟩, ⟨rfl, rfl⟩, trivial⟩ ⟨rfl, rfl, rfl, trivial⟩) ?_
  rintro q ⟨hq, he⟩
  repeat'
    (conv => arg 2; whnf)
    first
    | refine okAsk (by kernel_rfl) ?_
    | refine okBrT ?_
    | refine okBrF ?_
    | refine okBr (fun h => ?_) (fun h => ?_)
    | refine okNthMap (l := a.changes) (by simp at h; omega) (fun x hx => ?_)
    | refine okNthMap (l := b.changes) (by simp at h; omega) (fun y hy => ?_)
    | refine okFn (rChange_s x y (hl.2 x (List.mem_of_getElem? hx)) (hk.2 y (List.mem_of_getElem? hy))) rfl (Cos.refl _) ?_
    | refine okWrap (w64 (by simp at h hq; omega) (by have := HL; simp at h hq; omega)) ?_
    | refine okAgain (q + 1) (Sv.mk' [0, 1] rfl ⟨⟨rfl, rfl⟩, ⟨rfl, rfl⟩, trivial⟩ ⟨rfl, rfl, rfl, trivial⟩) ⟨by have := (List.getElem?_eq_some_iff.1 hx).1; omega, eqB_go hx hy (by simpa using h) he⟩ (by have := (List.getElem?_eq_some_iff.1 hx).1; omega)
    | refine okOut ?_
    | refine okRet ?_
    | (refine endBool (.inr rfl) rfl ?_; have hl := eqB_no hx hy (by simpa using h); rw [msg_eqB, hl]; simp; done)
    | (have hl := eqB_all hn (by simp at h; omega) he; refine endBool (.inr rfl) rfl ?_; rw [msg_eqB]; simp_all [← decE]; done)
end Go.Proofs.YteaggenihhaajaaGreat

/- Which slots, prepared certificates, points are the same, over data (printed by gen_dh.py). -/
namespace Go.Proofs.YteaggenihhaajaaGreat
open Go.RowKit
set_option linter.unusedVariables false
set_option maxRecDepth 20000

theorem vote_eqB (a b : VoteD) : eqB a b = ((a.seq == b.seq) && (a.digest == b.digest) && (a.sign.key == b.sign.key) && (a.sign.digest == b.sign.digest)) := by
  obtain ⟨a0, a1, ⟨a2key, a2digest⟩⟩ := a
  obtain ⟨b0, b1, ⟨b2key, b2digest⟩⟩ := b
  rw [Bool.eq_iff_iff, eqB_iff]
  simp [and_assoc]
theorem voteof_eqB (a b : VoteOfD) : eqB a b = ((a.digest == b.digest) && (a.sign.key == b.sign.key) && (a.sign.digest == b.sign.digest)) := by
  obtain ⟨a0, ⟨a1key, a1digest⟩⟩ := a
  obtain ⟨b0, ⟨b1key, b1digest⟩⟩ := b
  rw [Bool.eq_iff_iff, eqB_iff]
  simp [and_assoc]
theorem placed_eqB (a b : PlacedD) : eqB a b = (decide (a.topic = b.topic) && (a.offset == b.offset) && eqB a.record b.record) := by
  obtain ⟨a0, a1, a2⟩ := a
  obtain ⟨b0, b1, b2⟩ := b
  rw [Bool.eq_iff_iff, eqB_iff]
  simp [eqB_iff, and_assoc]
theorem mark_eqB (a b : MarkD) : eqB a b = ((a.header.seq == b.header.seq) && (a.header.prev == b.header.prev) && (a.header.batch == b.header.batch) && (a.header.root == b.header.root) && (a.header.state == b.header.state) && eqB a.topics b.topics) := by
  obtain ⟨⟨a0seq, a0prev, a0batch, a0root, a0state⟩, a1⟩ := a
  obtain ⟨⟨b0seq, b0prev, b0batch, b0root, b0state⟩, b1⟩ := b
  rw [Bool.eq_iff_iff, eqB_iff]
  simp [eqB_iff, and_assoc]
theorem block_eqB (a b : BlockD) : eqB a b = ((a.header.seq == b.header.seq) && (a.header.prev == b.header.prev) && (a.header.batch == b.header.batch) && (a.header.root == b.header.root) && (a.header.state == b.header.state) && eqB a.batch b.batch && eqB a.placed b.placed) := by
  obtain ⟨⟨a0seq, a0prev, a0batch, a0root, a0state⟩, a1, a2⟩ := a
  obtain ⟨⟨b0seq, b0prev, b0batch, b0root, b0state⟩, b1, b2⟩ := b
  rw [Bool.eq_iff_iff, eqB_iff]
  simp [eqB_iff, and_assoc]
theorem slot_eqB (a b : SlotD) : eqB a b = ((a.seq == b.seq) && (a.has == b.has) && (a.digest == b.digest) && (a.firstS.key == b.firstS.key) && (a.firstS.digest == b.firstS.digest) && eqB a.batch b.batch && eqB a.prepares b.prepares && eqB a.commits b.commits) := by
  obtain ⟨a0, a1, a2, ⟨a3key, a3digest⟩, a4, a5, a6⟩ := a
  obtain ⟨b0, b1, b2, ⟨b3key, b3digest⟩, b4, b5, b6⟩ := b
  rw [Bool.eq_iff_iff, eqB_iff]
  simp [eqB_iff, and_assoc]
theorem points_eqB (a b : PointsD) : eqB a b = (eqB a.stable b.stable && eqB a.votes b.votes && eqB a.certs b.certs) := by
  obtain ⟨a0, a1, a2⟩ := a
  obtain ⟨b0, b1, b2⟩ := b
  rw [Bool.eq_iff_iff, eqB_iff]
  simp [eqB_iff, and_assoc]
theorem core_eqB (a b : CoreD) : eqB a b = ((a.view == b.view) && (a.active == b.active) && (a.ticks == b.ticks) && (a.floor == b.floor) && (a.base.seq == b.base.seq) && (a.base.prev == b.base.prev) && (a.base.batch == b.base.batch) && (a.base.root == b.base.root) && (a.base.state == b.base.state) && eqB a.blocks b.blocks && eqB a.topics b.topics && eqB a.points b.points && eqB a.certs b.certs && eqB a.marks b.marks && eqB a.slots b.slots && eqB a.held b.held && eqB a.changes b.changes && eqB a.pool b.pool && (a.timer.length == b.timer.length) && (a.timer.left == b.timer.left) && eqB a.news b.news && (a.wants == b.wants)) := by
  obtain ⟨a0, a1, a2, a3, ⟨a4seq, a4prev, a4batch, a4root, a4state⟩, a5, a6, a7, a8, a9, a10, a11, a12, a13, ⟨a14length, a14left⟩, a15, a16⟩ := a
  obtain ⟨b0, b1, b2, b3, ⟨b4seq, b4prev, b4batch, b4root, b4state⟩, b5, b6, b7, b8, b9, b10, b11, b12, b13, ⟨b14length, b14left⟩, b15, b16⟩ := b
  rw [Bool.eq_iff_iff, eqB_iff]
  simp [eqB_iff, and_assoc]
theorem r13SameSigns_s [Wd] (l k : List (SignD)) (hl : l.length ≤ 4194304) : FnP Tryz.prog 186 [.list 2 (l.map cSign), .list 2 (k.map cSign)] (.bool (eqB l k)) := by
  have HL : l.length ≤ 4194304 := hl
  refine mkS 26 [] Tryz.func186 rfl (by kernel_rfl) ?_
  repeat'
    (conv => arg 2; whnf)
    first
    | refine okAsk (by kernel_rfl) ?_
    | refine okBoth ?_ ?_
    | refine okBrT ?_
    | refine okBrF ?_
    | refine okBr (fun h => ?_) (fun h => ?_)
    | (refine endBool (.inr rfl) rfl ?_; exact (eqB_len (by simp at h; omega)).symm)
  have hn : l.length = k.length := by simp at h; omega
  refine okLoop (α := Nat) (fun q => ⟨[(5, .int .i64 q), (0, .list 2 (l.map cSign)), (1, .list 2 (k.map cSign))], []⟩) (fun q => q ≤ l.length ∧ l.take q = k.take q) (fun q => l.length - q) 0 ⟨Nat.zero_le _, rfl⟩ (Sv.mk' [] rfl trivial ⟨rfl, rfl, rfl, trivial⟩) ?_
  rintro q ⟨hq, he⟩
  repeat'
    (conv => arg 2; whnf)
    first
    | refine okAsk (by kernel_rfl) ?_
    | refine okBoth ?_ ?_
    | refine okBrT ?_
    | refine okBrF ?_
    | refine okBr (fun h => ?_) (fun h => ?_)
    | refine okNthMap (l := l) (by simp at h; omega) (fun x hx => ?_)
    | refine okNthMap (l := k) (by simp at h; omega) (fun y hy => ?_)
    | refine okWrap (w64 (by simp at h hq; omega) (by have := HL; simp at h hq; omega)) ?_
    | refine okAgain (q + 1) (Sv.mk' [] rfl trivial ⟨rfl, rfl, rfl, trivial⟩) ⟨by have := (List.getElem?_eq_some_iff.1 hx).1; omega, eqB_go hx hy (by rw [← sign_eqB]; rw [Bool.true_and] at h; first | exact (Bool.not_eq_true' _).mp h | exact (Bool.not_eq_false' _).mp h) he⟩ (by have := (List.getElem?_eq_some_iff.1 hx).1; omega)
    | refine okOut ?_
    | refine okRet ?_
    | (refine endBool (.inr rfl) rfl ?_; have hl := eqB_no hx hy (by rw [← sign_eqB]; rw [Bool.true_and] at h; first | exact (Bool.not_eq_true' _).mp h | exact (Bool.not_eq_false' _).mp h); exact hl.symm; done)
    | (have hl := eqB_all hn (by simp at h; omega) he; refine endBool (.inr rfl) rfl ?_; exact hl.symm; done)
theorem r13sameVotes_s [Wd] (l k : List (VoteOfD)) (hl : l.length ≤ 4194304) : FnP Tryz.prog 185 [.list 3 (l.map cVoteOf), .list 3 (k.map cVoteOf)] (.bool (eqB l k)) := by
  have HL : l.length ≤ 4194304 := hl
  refine mkS 26 [] Tryz.func185 rfl (by kernel_rfl) ?_
  repeat'
    (conv => arg 2; whnf)
    first
    | refine okAsk (by kernel_rfl) ?_
    | refine okBoth ?_ ?_
    | refine okBrT ?_
    | refine okBrF ?_
    | refine okBr (fun h => ?_) (fun h => ?_)
    | (refine endBool (.inr rfl) rfl ?_; exact (eqB_len (by simp at h; omega)).symm)
  have hn : l.length = k.length := by simp at h; omega
  refine okLoop (α := Nat) (fun q => ⟨[(5, .int .i64 q), (0, .list 3 (l.map cVoteOf)), (1, .list 3 (k.map cVoteOf))], []⟩) (fun q => q ≤ l.length ∧ l.take q = k.take q) (fun q => l.length - q) 0 ⟨Nat.zero_le _, rfl⟩ (Sv.mk' [] rfl trivial ⟨rfl, rfl, rfl, trivial⟩) ?_
  rintro q ⟨hq, he⟩
  repeat'
    (conv => arg 2; whnf)
    first
    | refine okAsk (by kernel_rfl) ?_
    | refine okBoth ?_ ?_
    | refine okBrT ?_
    | refine okBrF ?_
    | refine okBr (fun h => ?_) (fun h => ?_)
    | refine okNthMap (l := l) (by simp at h; omega) (fun x hx => ?_)
    | refine okNthMap (l := k) (by simp at h; omega) (fun y hy => ?_)
    | refine okWrap (w64 (by simp at h hq; omega) (by have := HL; simp at h hq; omega)) ?_
    | refine okAgain (q + 1) (Sv.mk' [] rfl trivial ⟨rfl, rfl, rfl, trivial⟩) ⟨by have := (List.getElem?_eq_some_iff.1 hx).1; omega, eqB_go hx hy (by rw [voteof_eqB]; revert h; cases (x.digest == y.digest) <;> cases (x.sign.key == y.sign.key) <;> cases (x.sign.digest == y.sign.digest) <;> simp) he⟩ (by have := (List.getElem?_eq_some_iff.1 hx).1; omega)
    | refine okOut ?_
    | refine okRet ?_
    | (refine endBool (.inr rfl) rfl ?_; have hl := eqB_no hx hy (by rw [voteof_eqB]; revert h; cases (x.digest == y.digest) <;> cases (x.sign.key == y.sign.key) <;> cases (x.sign.digest == y.sign.digest) <;> simp); exact hl.symm; done)
    | (have hl := eqB_all hn (by simp at h; omega) he; refine endBool (.inr rfl) rfl ?_; exact hl.symm; done)
theorem r13SameProof_s [Wd] (a b : PreparedD) (ha : dPrepared.ok a) (hb : dPrepared.ok b) : FnP Tryz.prog 105 [.agg (cPrepared a), .agg (cPrepared b)] (.bool (eqB a b)) := by
  refine mkS 45 [] Tryz.func105 rfl (by kernel_rfl) ?_
  repeat'
    (conv => arg 2; whnf)
    first
    | refine okAsk (by kernel_rfl) ?_
    | refine okBoth ?_ ?_
    | refine okBrT ?_
    | refine okBrF ?_
    | refine okBr (fun h => ?_) (fun h => ?_)
    | refine okFn (r13SameSigns_s a.signs b.signs ha.2.2.2.2.1.1) rfl (Cos.refl _) ?_
    | refine okFn (rBatch_s a.batch b.batch ha.2.2.2.2.2 hb.2.2.2.2.2) rfl (Cos.refl _) ?_
    | (refine endBool (.inr rfl) rfl ?_; rw [prepared_eqB]; simp_all; done)
    | (exfalso; simp_all; done)
theorem r15SameAll_s [Wd] (l k : List (PreparedD)) (hl : (dL dPrepared).ok l) (hk : (dL dPrepared).ok k) : FnP Tryz.prog 25 [.list 7 (l.map cPrepared), .list 7 (k.map cPrepared)] (.bool (eqB l k)) := by
  have HL : l.length ≤ 4194304 := hl.1
  refine mkS 27 [] Tryz.func25 rfl (by kernel_rfl) ?_
  repeat'
    (conv => arg 2; whnf)
    first
    | refine okAsk (by kernel_rfl) ?_
    | refine okBoth ?_ ?_
    | refine okBrT ?_
    | refine okBrF ?_
    | refine okBr (fun h => ?_) (fun h => ?_)
    | (refine endBool (.inr rfl) rfl ?_; exact (eqB_len (by simp at h; omega)).symm)
  have hn : l.length = k.length := by simp at h; omega
  refine okLoop (α := Nat) (fun q => ⟨[(5, .int .i64 q), (0, .list 7 (l.map cPrepared)), (1, .list 7 (k.map cPrepared))], []⟩) (fun q => q ≤ l.length ∧ l.take q = k.take q) (fun q => l.length - q) 0 ⟨Nat.zero_le _, rfl⟩ (Sv.mk' [] rfl trivial ⟨rfl, rfl, rfl, trivial⟩) ?_
  rintro q ⟨hq, he⟩
  repeat'
    (conv => arg 2; whnf)
    first
    | refine okAsk (by kernel_rfl) ?_
    | refine okBoth ?_ ?_
    | refine okBrT ?_
    | refine okBrF ?_
    | refine okBr (fun h => ?_) (fun h => ?_)
    | refine okNthAt hx ?_
    | refine okNthAt hy ?_
    | refine okNthMap (l := l) (by simp at h; omega) (fun x hx => ?_)
    | refine okNthMap (l := k) (by simp at h; omega) (fun y hy => ?_)
    | refine okFn (r13SameProof_s x y (hl.2 x (List.mem_of_getElem? hx)) (hk.2 y (List.mem_of_getElem? hy))) rfl (Cos.refl _) ?_
    | refine okWrap (w64 (by simp at h hq; omega) (by have := HL; simp at h hq; omega)) ?_
    | refine okAgain (q + 1) (Sv.mk' [] rfl trivial ⟨rfl, rfl, rfl, trivial⟩) ⟨by have := (List.getElem?_eq_some_iff.1 hx).1; omega, eqB_go hx hy (by simpa using h) he⟩ (by have := (List.getElem?_eq_some_iff.1 hx).1; omega)
    | refine okOut ?_
    | refine okRet ?_
    | (refine endBool (.inr rfl) rfl ?_; have hl := eqB_no hx hy (by simpa using h); exact hl.symm; done)
    | (have hl := eqB_all hn (by simp at h; omega) he; refine endBool (.inr rfl) rfl ?_; exact hl.symm; done)
theorem r13Same_s [Wd] (a b : SlotD) (ha : dSlot.ok a) (hb : dSlot.ok b) : FnP Tryz.prog 104 [.agg (cSlot a), .agg (cSlot b)] (.bool (eqB a b)) := by
  refine mkS 52 [] Tryz.func104 rfl (by kernel_rfl) ?_
  repeat'
    (conv => arg 2; whnf)
    first
    | refine okAsk (by kernel_rfl) ?_
    | refine okBoth ?_ ?_
    | refine okBrT ?_
    | refine okBrF ?_
    | refine okBr (fun h => ?_) (fun h => ?_)
    | refine okFn (rBatch_s a.batch b.batch ha.2.2.2.2.1 hb.2.2.2.2.1) rfl (Cos.refl _) ?_
    | refine okFn (r13sameVotes_s a.prepares b.prepares ha.2.2.2.2.2.1.1) rfl (Cos.refl _) ?_
    | refine okFn (r13sameVotes_s a.commits b.commits ha.2.2.2.2.2.2.1) rfl (Cos.refl _) ?_
    | (refine endBool (.inr rfl) rfl ?_; rw [slot_eqB]; simp_all; done)
    | (exfalso; simp_all; done)
theorem r13SameAll_s [Wd] (l k : List (SlotD)) (hl : (dL dSlot).ok l) (hk : (dL dSlot).ok k) : FnP Tryz.prog 24 [.list 8 (l.map cSlot), .list 8 (k.map cSlot)] (.bool (eqB l k)) := by
  have HL : l.length ≤ 4194304 := hl.1
  refine mkS 27 [] Tryz.func24 rfl (by kernel_rfl) ?_
  repeat'
    (conv => arg 2; whnf)
    first
    | refine okAsk (by kernel_rfl) ?_
    | refine okBoth ?_ ?_
    | refine okBrT ?_
    | refine okBrF ?_
    | refine okBr (fun h => ?_) (fun h => ?_)
    | (refine endBool (.inr rfl) rfl ?_; exact (eqB_len (by simp at h; omega)).symm)
  have hn : l.length = k.length := by simp at h; omega
  refine okLoop (α := Nat) (fun q => ⟨[(5, .int .i64 q), (0, .list 8 (l.map cSlot)), (1, .list 8 (k.map cSlot))], []⟩) (fun q => q ≤ l.length ∧ l.take q = k.take q) (fun q => l.length - q) 0 ⟨Nat.zero_le _, rfl⟩ (Sv.mk' [] rfl trivial ⟨rfl, rfl, rfl, trivial⟩) ?_
  rintro q ⟨hq, he⟩
  repeat'
    (conv => arg 2; whnf)
    first
    | refine okAsk (by kernel_rfl) ?_
    | refine okBoth ?_ ?_
    | refine okBrT ?_
    | refine okBrF ?_
    | refine okBr (fun h => ?_) (fun h => ?_)
    | refine okNthAt hx ?_
    | refine okNthAt hy ?_
    | refine okNthMap (l := l) (by simp at h; omega) (fun x hx => ?_)
    | refine okNthMap (l := k) (by simp at h; omega) (fun y hy => ?_)
    | refine okFn (r13Same_s x y (hl.2 x (List.mem_of_getElem? hx)) (hk.2 y (List.mem_of_getElem? hy))) rfl (Cos.refl _) ?_
    | refine okWrap (w64 (by simp at h hq; omega) (by have := HL; simp at h hq; omega)) ?_
    | refine okAgain (q + 1) (Sv.mk' [] rfl trivial ⟨rfl, rfl, rfl, trivial⟩) ⟨by have := (List.getElem?_eq_some_iff.1 hx).1; omega, eqB_go hx hy (by simpa using h) he⟩ (by have := (List.getElem?_eq_some_iff.1 hx).1; omega)
    | refine okOut ?_
    | refine okRet ?_
    | (refine endBool (.inr rfl) rfl ?_; have hl := eqB_no hx hy (by simpa using h); exact hl.symm; done)
    | (have hl := eqB_all hn (by simp at h; omega) he; refine endBool (.inr rfl) rfl ?_; exact hl.symm; done)
theorem rwSameCerts_s [Wd] (l k : List (CertD)) (hl : (dL dCert).ok l) (hk : (dL dCert).ok k) : FnP Tryz.prog 23 [.list 3 (l.map cCert), .list 3 (k.map cCert)] (.bool (eqB l k)) := by
  have HL : l.length ≤ 4194304 := hl.1
  refine mkS 27 [] Tryz.func23 rfl (by kernel_rfl) ?_
  repeat'
    (conv => arg 2; whnf)
    first
    | refine okAsk (by kernel_rfl) ?_
    | refine okBoth ?_ ?_
    | refine okBrT ?_
    | refine okBrF ?_
    | refine okBr (fun h => ?_) (fun h => ?_)
    | (refine endBool (.inr rfl) rfl ?_; exact (eqB_len (by simp at h; omega)).symm)
  have hn : l.length = k.length := by simp at h; omega
  refine okLoop (α := Nat) (fun q => ⟨[(5, .int .i64 q), (0, .list 3 (l.map cCert)), (1, .list 3 (k.map cCert))], []⟩) (fun q => q ≤ l.length ∧ l.take q = k.take q) (fun q => l.length - q) 0 ⟨Nat.zero_le _, rfl⟩ (Sv.mk' [] rfl trivial ⟨rfl, rfl, rfl, trivial⟩) ?_
  rintro q ⟨hq, he⟩
  repeat'
    (conv => arg 2; whnf)
    first
    | refine okAsk (by kernel_rfl) ?_
    | refine okBoth ?_ ?_
    | refine okBrT ?_
    | refine okBrF ?_
    | refine okBr (fun h => ?_) (fun h => ?_)
    | refine okNthAt hx ?_
    | refine okNthAt hy ?_
    | refine okNthMap (l := l) (by simp at h; omega) (fun x hx => ?_)
    | refine okNthMap (l := k) (by simp at h; omega) (fun y hy => ?_)
    | refine okFn (rCert_s x y (hl.2 x (List.mem_of_getElem? hx)) (hk.2 y (List.mem_of_getElem? hy))) rfl (Cos.refl _) ?_
    | refine okWrap (w64 (by simp at h hq; omega) (by have := HL; simp at h hq; omega)) ?_
    | refine okAgain (q + 1) (Sv.mk' [] rfl trivial ⟨rfl, rfl, rfl, trivial⟩) ⟨by have := (List.getElem?_eq_some_iff.1 hx).1; omega, eqB_go hx hy (by simpa using h) he⟩ (by have := (List.getElem?_eq_some_iff.1 hx).1; omega)
    | refine okOut ?_
    | refine okRet ?_
    | (refine endBool (.inr rfl) rfl ?_; have hl := eqB_no hx hy (by simpa using h); exact hl.symm; done)
    | (have hl := eqB_all hn (by simp at h; omega) he; refine endBool (.inr rfl) rfl ?_; exact hl.symm; done)
theorem rwSamePoints_s [Wd] (a b : PointsD) (ha : dPoints.ok a) (hb : dPoints.ok b) : FnP Tryz.prog 22 [.agg (cPoints a), .agg (cPoints b)] (.bool (eqB a b)) := by
  refine mkS 47 [] Tryz.func22 rfl (by kernel_rfl) ?_
  repeat'
    (conv => arg 2; whnf)
    first
    | refine okAsk (by kernel_rfl) ?_
    | refine okBoth ?_ ?_
    | refine okBrT ?_
    | refine okBrF ?_
    | refine okBr (fun h => ?_) (fun h => ?_)
    | refine okFn (rCert_s a.stable b.stable ha.1 hb.1) rfl (Cos.refl _) ?_
    | refine okFn (rwSameCerts_s a.certs b.certs ha.2.2 hb.2.2) rfl (Cos.refl _) ?_
    | (refine endBool (.inr rfl) rfl ?_; rw [points_eqB]; simp_all; done)
    | (refine endBool (.inr rfl) rfl ?_; rw [points_eqB, eqB_len (l := a.votes) (k := b.votes) (by simp at h; omega)]; simp; done)
    | (exfalso; simp_all; done)
  have HL : a.votes.length ≤ 4194304 := ha.2.1.1
  have hl := ha.2.1
  have hk := hb.2.1
  have hn : a.votes.length = b.votes.length := by
    have e : (a.votes.length : Int) = b.votes.length := by simp_all
    omega
  refine okLoop (α := Nat) (fun q => ⟨[(5, .int .i64 q), (2, .ptr 0 0), (3, .ptr 1 0)], [.cells 33 (cPoints a), .cells 33 (cPoints b)]⟩) (fun q => q ≤ a.votes.length ∧ a.votes.take q = b.votes.take q) (fun q => a.votes.length - q) 0 ⟨Nat.zero_le _, rfl⟩ (Sv.mk' [0, 1] rfl ⟨⟨rfl, rfl⟩, ⟨rfl, rfl⟩, trivial⟩ ⟨rfl, rfl, rfl, trivial⟩) ?_
  rintro q ⟨hq, he⟩
  repeat'
    (conv => arg 2; whnf)
    first
    | refine okAsk (by kernel_rfl) ?_
    | refine okBoth ?_ ?_
    | refine okBrT ?_
    | refine okBrF ?_
    | refine okBr (fun h => ?_) (fun h => ?_)
    | refine okNthMap (l := a.votes) (by simp at h; omega) (fun x hx => ?_)
    | refine okNthMap (l := b.votes) (by simp at h; omega) (fun y hy => ?_)
    | refine okWrap (w64 (by simp at h hq; omega) (by have := HL; simp at h hq; omega)) ?_
    | refine okAgain (q + 1) (Sv.mk' [0, 1] rfl ⟨⟨rfl, rfl⟩, ⟨rfl, rfl⟩, trivial⟩ ⟨rfl, rfl, rfl, trivial⟩) ⟨by have := (List.getElem?_eq_some_iff.1 hx).1; omega, eqB_go hx hy (by rw [vote_eqB]; revert h; cases (x.seq == y.seq) <;> cases (x.digest == y.digest) <;> cases (x.sign.key == y.sign.key) <;> cases (x.sign.digest == y.sign.digest) <;> simp) he⟩ (by have := (List.getElem?_eq_some_iff.1 hx).1; omega)
    | refine okOut ?_
    | refine okRet ?_
    | (refine endBool (.inr rfl) rfl ?_; have hl := eqB_no hx hy (by rw [vote_eqB]; revert h; cases (x.seq == y.seq) <;> cases (x.digest == y.digest) <;> cases (x.sign.key == y.sign.key) <;> cases (x.sign.digest == y.sign.digest) <;> simp); rw [points_eqB, hl]; simp; done)
    | (have hl := eqB_all hn (by simp at h; omega) he; refine endBool (.inr rfl) rfl ?_; rw [points_eqB]; simp_all; done)
theorem rwSameBlocks_s [Wd] (l k : List BlockD) (hl : (dL dBlock).ok l) (hk : (dL dBlock).ok k) : FnP Tryz.prog 21 [.list 7 (l.map cBlock), .list 7 (k.map cBlock)] (.bool (eqB l k)) := by
  have HL : l.length ≤ 4194304 := hl.1
  refine mkT 107 [(6, ⟨(.one 0 false (.one 1 false (.one 2 false (.one 3 false (.one 4 false (.one 5 false (.one 6 false (.one 7 false (.one 8 false (.one 9 false (.one 10 false (.one 11 false (.one 12 false (.one 13 false (.one 14 false (.one 15 false (.one 16 false (.one 17 false (.one 18 false (.one 19 false (.one 20 false (.one 21 false (.one 22 true (.one 23 false (.one 24 false (.one 25 false (.one 26 false (.one 27 false (.one 28 false (.one 29 false (.one 32 false (.one 33 false (.one 34 false (.one 35 false (.alt 30 (.one 31 false (.one 36 true (.one 37 false (.one 38 false (.one 39 false .done))))) (.one 36 true (.one 37 false (.one 30 true (.one 31 false (.one 38 false (.one 39 false .done))))))))))))))))))))))))))))))))))))))))), []⟩)] Tryz.func21 rfl (by kernel_rfl) ?_
  repeat'
    (conv => arg 2; whnf)
    first
    | refine okAsk (by kernel_rfl) ?_
    | refine okBoth ?_ ?_
    | refine okBrT ?_
    | refine okBrF ?_
    | refine okBr (fun h => ?_) (fun h => ?_)
    | (refine endBool (.inr rfl) rfl ?_; exact (eqB_len (by simp at h; omega)).symm)
  have hn : l.length = k.length := by simp at h; omega
  refine okLoop (α := Nat) (fun q => ⟨[(5, .int .i64 q), (0, .list 7 (l.map cBlock)), (1, .list 7 (k.map cBlock))], []⟩) (fun q => q ≤ l.length ∧ l.take q = k.take q) (fun q => l.length - q) 0 ⟨Nat.zero_le _, rfl⟩ (Sv.mk' [] rfl trivial ⟨rfl, rfl, rfl, trivial⟩) ?_
  clear h
  rintro q ⟨hq, he⟩
  repeat'
    (conv => arg 2; whnf)
    first
    | refine okAsk (by kernel_rfl) ?_
    | refine okBoth ?_ ?_
    | refine okBrT ?_
    | refine okBrF ?_
    | refine okBr (fun h => ?_) (fun h => ?_)
    | refine okNthAt hx ?_
    | refine okNthAt hy ?_
    | refine okNthMap (l := l) (by simp at h; omega) (fun x hx => ?_)
    | refine okNthMap (l := k) (by simp at h; omega) (fun y hy => ?_)
    | refine okFn (rBatch_s x.batch y.batch (hl.2 x (List.mem_of_getElem? hx)).2.1 (hk.2 y (List.mem_of_getElem? hy)).2.1) rfl (Cos.refl _) ?_
    | refine okOut ?_
    | refine okRet ?_
    | (refine endBool (.inr rfl) rfl ?_; refine (eqB_no hx hy ?_).symm; rw [block_eqB]; first | (rw [eqB_len (l := x.placed) (k := y.placed) (by simp at h; omega)]; simp; done) | (simp_all; done))
    | (refine endBool (.inr rfl) rfl ?_; exact (eqB_all hn (by simp at h; omega) he).symm)
  all_goals
    have hpn : x.placed.length = y.placed.length := by simp at h; omega
    have hPX := (hl.2 x (List.mem_of_getElem? hx)).2.2
    have hPY := (hk.2 y (List.mem_of_getElem? hy)).2.2
    have HP : x.placed.length ≤ 4194304 := hPX.1
    have hqk : eqB x y = eqB x.placed y.placed := by rw [block_eqB]; simp_all
    clear h
    refine okLoop (α := Nat) (fun j => ⟨[(6, .int .i64 j), (5, .int .i64 q), (0, .list 7 (l.map cBlock)), (1, .list 7 (k.map cBlock))], []⟩) (fun j => j ≤ x.placed.length ∧ x.placed.take j = y.placed.take j) (fun j => x.placed.length - j) 0 ⟨Nat.zero_le _, rfl⟩ (Sv.mk' [] rfl trivial ⟨rfl, rfl, rfl, rfl, trivial⟩) ?_
    rintro j ⟨hj, hf⟩
    replace hj : j ≤ x.placed.length := hj
    replace hq : q ≤ l.length := hq
    have hql := (List.getElem?_eq_some_iff.1 hx).1
    repeat'
      (conv => arg 2; whnf)
      first
      | refine okAsk (by kernel_rfl) ?_
      | refine okBoth ?_ ?_
      | refine okBrT ?_
      | refine okBrF ?_
      | refine okBr (fun h => ?_) (fun h => ?_)
      | refine okNthAt hx ?_
      | refine okNthAt hy ?_
      | refine okNthAt hp ?_
      | refine okNthAt hr ?_
      | refine okNthMap (l := x.placed) (by simp at h; omega) (fun p hp => ?_)
      | refine okNthMap (l := y.placed) (by simp at h; omega) (fun r hr => ?_)
      | refine okByts p.record rfl ?_
      | refine okByts r.record rfl ?_
      | refine okAsk (by have h1 : p.record.length ≤ 4194304 := (hPX.2 p (List.mem_of_getElem? hp)).2.2; omega) ?_
      | refine okAsk (by have h1 : r.record.length ≤ 4194304 := (hPY.2 r (List.mem_of_getElem? hr)).2.2; omega) ?_
      | refine okWrap (w64 (by omega) (by omega)) ?_
      | refine okAgain (j + 1) (Sv.mk' [] rfl trivial ⟨rfl, rfl, rfl, rfl, trivial⟩) ⟨by have := (List.getElem?_eq_some_iff.1 hp).1; omega, eqB_go hp hr (by rw [placed_eqB]; simp_all [← decE]) hf⟩ (by have := (List.getElem?_eq_some_iff.1 hp).1; omega)
      | refine okAgain (q + 1) (Sv.mk' [] rfl trivial ⟨rfl, rfl, rfl, trivial⟩) ⟨by omega, eqB_go hx hy (by rw [hqk]; exact eqB_all hpn (by simp at h; omega) hf) he⟩ (by omega)
      | refine okOut ?_
      | refine okRet ?_
      | (refine endBool (.inr rfl) rfl ?_; refine (eqB_no hx hy ?_).symm; rw [hqk]; refine eqB_no hp hr ?_; rw [placed_eqB]; simp_all [← decE]; done)
/-- what of two cores is told last -/
noncomputable def restB (a b : CoreD) : Bool := eqB a.marks b.marks && (eqB a.changes b.changes && eqB a.news b.news)
theorem rwSameRest_s [Wd] (a b : CoreD) (ha : dCore.ok a) (hb : dCore.ok b) : FnP Tryz.prog 27 [.agg (cCore a), .agg (cCore b)] (.bool (restB a b)) := by
  refine mkS 108 [] Tryz.func27 rfl (by kernel_rfl) ?_
  repeat'
    (conv => arg 2; whnf)
    first
    | refine okAsk (by kernel_rfl) ?_
    | refine okBoth ?_ ?_
    | refine okBrT ?_
    | refine okBrF ?_
    | refine okBr (fun h => ?_) (fun h => ?_)
    | (refine endBool (.inr rfl) rfl ?_; unfold restB; rw [eqB_len (l := a.marks) (k := b.marks) (by simp at h; omega)]; simp; done)
    | (refine endBool (.inr rfl) rfl ?_; unfold restB; rw [eqB_len (l := a.changes) (k := b.changes) (by simp at h; omega)]; simp; done)
    | (refine endBool (.inr rfl) rfl ?_; unfold restB; rw [eqB_len (l := a.news) (k := b.news) (by simp at h; omega)]; simp; done)
    | (exfalso; simp_all; done)
  have HL : a.marks.length ≤ 4194304 := ha.2.2.2.2.2.2.2.2.2.1.1
  have hl := ha.2.2.2.2.2.2.2.2.2.1
  have hk := hb.2.2.2.2.2.2.2.2.2.1
  have hn : a.marks.length = b.marks.length := by
    have e : (a.marks.length : Int) = b.marks.length := by simp_all
    omega
  refine okLoop (α := Nat) (fun q => ⟨[(5, .int .i64 q), (2, .ptr 0 0), (3, .ptr 1 0)], [.cells 45 (cCore a), .cells 45 (cCore b)]⟩) (fun q => q ≤ a.marks.length ∧ a.marks.take q = b.marks.take q) (fun q => a.marks.length - q) 0 ⟨Nat.zero_le _, rfl⟩ (Sv.mk' [0, 1] rfl ⟨⟨rfl, rfl⟩, ⟨rfl, rfl⟩, trivial⟩ ⟨rfl, rfl, rfl, trivial⟩) ?_
  rintro q ⟨hq, he⟩
  repeat'
    (conv => arg 2; whnf)
    first
    | refine okAsk (by kernel_rfl) ?_
    | refine okBoth ?_ ?_
    | refine okBrT ?_
    | refine okBrF ?_
    | refine okBr (fun h => ?_) (fun h => ?_)
    | refine okNthAt hx ?_
    | refine okNthAt hy ?_
    | refine okNthMap (l := a.marks) (by simp at h; omega) (fun x hx => ?_)
    | refine okNthMap (l := b.marks) (by simp at h; omega) (fun y hy => ?_)
    | refine okByts x.topics rfl ?_
    | refine okByts y.topics rfl ?_
    | refine okAsk (by have h1 : x.topics.length ≤ 4194304 := (hl.2 x (List.mem_of_getElem? hx)).2; omega) ?_
    | refine okAsk (by have h1 : y.topics.length ≤ 4194304 := (hk.2 y (List.mem_of_getElem? hy)).2; omega) ?_
    | refine okWrap (w64 (by simp at h hq; omega) (by have := HL; simp at h hq; omega)) ?_
    | refine okAgain (q + 1) (Sv.mk' [0, 1] rfl ⟨⟨rfl, rfl⟩, ⟨rfl, rfl⟩, trivial⟩ ⟨rfl, rfl, rfl, trivial⟩) ⟨by have := (List.getElem?_eq_some_iff.1 hx).1; omega, eqB_go hx hy (by rw [mark_eqB]; simp_all [← decE]) he⟩ (by have := (List.getElem?_eq_some_iff.1 hx).1; omega)
    | refine okOut ?_
    | refine okRet ?_
    | (refine endBool (.inr rfl) rfl ?_; have hl := eqB_no hx hy (by rw [mark_eqB]; simp_all [← decE]); unfold restB; rw [hl]; simp; done)
    | (have hl := eqB_all hn (by simp at h; omega) he; refine endBool (.inr rfl) rfl ?_; unfold restB; simp_all; done)
  have hl0 := eqB_all hn (by simp at h; omega) he
  clear hq he h
  have HL : a.changes.length ≤ 4194304 := ha.2.2.2.2.2.2.2.2.2.2.2.2.1.1
  have hl := ha.2.2.2.2.2.2.2.2.2.2.2.2.1
  have hk := hb.2.2.2.2.2.2.2.2.2.2.2.2.1
  have hn : a.changes.length = b.changes.length := by
    have e : (a.changes.length : Int) = b.changes.length := by simp_all
    omega
  refine okLoop (α := Nat) (fun q => ⟨[(6, .int .i64 q), (2, .ptr 0 0), (3, .ptr 1 0)], [.cells 45 (cCore a), .cells 45 (cCore b)]⟩) (fun q => q ≤ a.changes.length ∧ a.changes.take q = b.changes.take q) (fun q => a.changes.length - q) 0 ⟨Nat.zero_le _, rfl⟩ (Sv.mk' [0, 1] rfl ⟨⟨rfl, rfl⟩, ⟨rfl, rfl⟩, trivial⟩ ⟨rfl, rfl, rfl, trivial⟩) ?_
  rintro q ⟨hq, he⟩
  repeat'
    (conv => arg 2; whnf)
    first
    | refine okAsk (by kernel_rfl) ?_
    | refine okBoth ?_ ?_
    | refine okBrT ?_
    | refine okBrF ?_
    | refine okBr (fun h => ?_) (fun h => ?_)
    | refine okNthAt hx ?_
    | refine okNthAt hy ?_
    | refine okNthMap (l := a.changes) (by simp at h; omega) (fun x hx => ?_)
    | refine okNthMap (l := b.changes) (by simp at h; omega) (fun y hy => ?_)
    | refine okFn (rChange_s x y (hl.2 x (List.mem_of_getElem? hx)) (hk.2 y (List.mem_of_getElem? hy))) rfl (Cos.refl _) ?_
    | refine okWrap (w64 (by simp at h hq; omega) (by have := HL; simp at h hq; omega)) ?_
    | refine okAgain (q + 1) (Sv.mk' [0, 1] rfl ⟨⟨rfl, rfl⟩, ⟨rfl, rfl⟩, trivial⟩ ⟨rfl, rfl, rfl, trivial⟩) ⟨by have := (List.getElem?_eq_some_iff.1 hx).1; omega, eqB_go hx hy (by simpa using h) he⟩ (by have := (List.getElem?_eq_some_iff.1 hx).1; omega)
    | refine okOut ?_
    | refine okRet ?_
    | (refine endBool (.inr rfl) rfl ?_; have hl := eqB_no hx hy (by simpa using h); unfold restB; rw [hl]; simp; done)
    | (have hl := eqB_all hn (by simp at h; omega) he; refine endBool (.inr rfl) rfl ?_; unfold restB; simp_all; done)
  have hl1 := eqB_all hn (by simp at h; omega) he
  clear hq he h
  have HL : a.news.length ≤ 4194304 := ha.2.2.2.2.2.2.2.2.2.2.2.2.2.2.2.1.1
  have hl := ha.2.2.2.2.2.2.2.2.2.2.2.2.2.2.2.1
  have hk := hb.2.2.2.2.2.2.2.2.2.2.2.2.2.2.2.1
  have hn : a.news.length = b.news.length := by
    have e : (a.news.length : Int) = b.news.length := by simp_all
    omega
  refine okLoop (α := Nat) (fun q => ⟨[(7, .int .i64 q), (2, .ptr 0 0), (3, .ptr 1 0)], [.cells 45 (cCore a), .cells 45 (cCore b)]⟩) (fun q => q ≤ a.news.length ∧ a.news.take q = b.news.take q) (fun q => a.news.length - q) 0 ⟨Nat.zero_le _, rfl⟩ (Sv.mk' [0, 1] rfl ⟨⟨rfl, rfl⟩, ⟨rfl, rfl⟩, trivial⟩ ⟨rfl, rfl, rfl, trivial⟩) ?_
  rintro q ⟨hq, he⟩
  repeat'
    (conv => arg 2; whnf)
    first
    | refine okAsk (by kernel_rfl) ?_
    | refine okBoth ?_ ?_
    | refine okBrT ?_
    | refine okBrF ?_
    | refine okBr (fun h => ?_) (fun h => ?_)
    | refine okNthAt hx ?_
    | refine okNthAt hy ?_
    | refine okNthMap (l := a.news) (by simp at h; omega) (fun x hx => ?_)
    | refine okNthMap (l := b.news) (by simp at h; omega) (fun y hy => ?_)
    | refine okFn (rMsg_s x y (hl.2 x (List.mem_of_getElem? hx)) (hk.2 y (List.mem_of_getElem? hy))) rfl (Cos.refl _) ?_
    | refine okWrap (w64 (by simp at h hq; omega) (by have := HL; simp at h hq; omega)) ?_
    | refine okAgain (q + 1) (Sv.mk' [0, 1] rfl ⟨⟨rfl, rfl⟩, ⟨rfl, rfl⟩, trivial⟩ ⟨rfl, rfl, rfl, trivial⟩) ⟨by have := (List.getElem?_eq_some_iff.1 hx).1; omega, eqB_go hx hy (by simpa using h) he⟩ (by have := (List.getElem?_eq_some_iff.1 hx).1; omega)
    | refine okOut ?_
    | refine okRet ?_
    | (refine endBool (.inr rfl) rfl ?_; have hl := eqB_no hx hy (by simpa using h); unfold restB; rw [hl]; simp; done)
    | (have hl := eqB_all hn (by simp at h; omega) he; refine endBool (.inr rfl) rfl ?_; unfold restB; simp_all; done)
theorem core_restB (a b : CoreD) : eqB a b = ((((((((((((((a.view == b.view && a.active == b.active) && a.ticks == b.ticks) && a.floor == b.floor) && eqB a.base b.base) && a.wants == b.wants) && ((a.timer.length == b.timer.length) && (a.timer.left == b.timer.left))) && decide (a.topics = b.topics)) && eqB a.blocks b.blocks) && eqB a.points b.points) && eqB a.certs b.certs) && eqB a.slots b.slots) && eqB a.held b.held) && eqB a.pool.waiting b.pool.waiting) && restB a b) := by
  have hp : eqB a.pool b.pool = eqB a.pool.waiting b.pool.waiting := by
    cases a.pool; cases b.pool
    rw [Bool.eq_iff_iff, eqB_iff, eqB_iff]; simp
  rw [core_eqB, hp]
  unfold restB
  rw [decE, ← head_eqB a.base b.base]
  rw [Bool.eq_iff_iff]
  simp only [Bool.and_eq_true]
  constructor
  all_goals (intro h; simp_all)
theorem rwSame_s [Wd] (a b : CoreD) (ha : dCore.ok a) (hb : dCore.ok b) : FnP Tryz.prog 10 [.agg (cCore a), .agg (cCore b)] (.bool (eqB a b)) := by
  have la : a.topics.length ≤ 4194304 := ha.2.2.2.2.2.2.1
  have lb : b.topics.length ≤ 4194304 := hb.2.2.2.2.2.2.1
  refine mkS 110 [] Tryz.func10 rfl (by kernel_rfl) ?_
  repeat'
    (conv => arg 2; whnf)
    first
    | refine okAsk (by kernel_rfl) ?_
    | refine okBoth ?_ ?_
    | refine okBrT ?_
    | refine okBrF ?_
    | refine okBr (fun h => ?_) (fun h => ?_)
    | refine okByts a.topics rfl ?_
    | refine okByts b.topics rfl ?_
    | refine okAsk (by omega) ?_
    | refine okFn (rwSameBlocks_s a.blocks b.blocks ha.2.2.2.2.2.1 hb.2.2.2.2.2.1) rfl (Cos.refl _) ?_
    | refine okFn (rwSamePoints_s a.points b.points ha.2.2.2.2.2.2.2.1 hb.2.2.2.2.2.2.2.1) rfl (Cos.refl _) ?_
    | refine okFn (rwSameCerts_s a.certs b.certs ha.2.2.2.2.2.2.2.2.1 hb.2.2.2.2.2.2.2.2.1) rfl (Cos.refl _) ?_
    | refine okFn (r13SameAll_s a.slots b.slots ha.2.2.2.2.2.2.2.2.2.2.1 hb.2.2.2.2.2.2.2.2.2.2.1) rfl (Cos.refl _) ?_
    | refine okFn (r15SameAll_s a.held b.held ha.2.2.2.2.2.2.2.2.2.2.2.1 hb.2.2.2.2.2.2.2.2.2.2.2.1) rfl (Cos.refl _) ?_
    | refine okFn (rBatch_s a.pool.waiting b.pool.waiting ha.2.2.2.2.2.2.2.2.2.2.2.2.2.1 hb.2.2.2.2.2.2.2.2.2.2.2.2.2.1) rfl (Cos.refl _) ?_
    | refine okFn (rwSameRest_s a b ha hb) rfl (Cos.refl _) ?_
    | (refine endBool (.inr rfl) rfl ?_; rw [core_restB, ← head_eqB a.base b.base]; simp_all; done)
    | (exfalso; simp_all; done)
end Go.Proofs.YteaggenihhaajaaGreat

/- Which cores are the same, over data: the program's side (printed by gen_ya.py). -/
namespace Go.Proofs.YteaggenihhaajaaGreat
open Go.RowKit
set_option linter.unusedVariables false
set_option maxRecDepth 20000

def mC (a : CertD) : MsgD := ⟨0, 0, 0, 0, 0, 0, 0, zResult, [], a, [], [], [], [], 0, zProof, zSign⟩
def mN (a : List ChangeD) : MsgD := ⟨0, 0, 0, 0, 0, 0, 0, zResult, [], zCert, a, [], [], [], 0, zProof, zSign⟩
theorem msgC_eqB (a b : CertD) : eqB (mC a) (mC b) = eqB a b := by
  rw [Bool.eq_iff_iff, eqB_iff, eqB_iff]
  exact ⟨fun h => congrArg MsgD.cert h, fun h => by rw [h]⟩
theorem msgN_eqB (a b : List ChangeD) : eqB (mN a) (mN b) = eqB a b := by
  rw [Bool.eq_iff_iff, eqB_iff, eqB_iff]
  exact ⟨fun h => congrArg MsgD.changes h, fun h => by rw [h]⟩
def zChg1 (p : PreparedD) : ChangeD := ⟨0, 0, zCert, [p], zSign⟩
def Ez (x y : List D) : Prop := x.length = y.length ∧ ∀ (j : Nat) d e, x[j]? = some d → y[j]? = some e → e = d ∨ (d = .nils ∧ ∃ m, e = .list m [])
theorem Ez.nil : Ez [] [] := ⟨rfl, fun j d e h => by simp at h⟩
theorem Ez.cons {d e : D} {x y : List D} (h : e = d ∨ (d = .nils ∧ ∃ m, e = .list m [])) (k : Ez x y) : Ez (d :: x) (e :: y) := by
  refine ⟨by simp [k.1], fun j a b h1 h2 => ?_⟩
  cases j with
  | zero => simp at h1 h2; subst h1 h2; exact h
  | succ j => simp at h1 h2; exact k.2 j a b h1 h2
theorem Ez.one {n : Nat} {x y : List D} (h : Ez x y) : Co (.list n [x]) (.list n [y]) := by
  refine .list n [x] [y] rfl (fun i u v h1 h2 => ?_)
  cases i with
  | zero => simp at h1 h2; subst h1 h2; exact ⟨h.1, h.2⟩
  | succ i => simp at h1
theorem chg1_eqB (a b : PreparedD) : eqB [zChg1 a] [zChg1 b] = eqB a b := by
  rw [Bool.eq_iff_iff, eqB_iff, eqB_iff]
  exact ⟨fun h => by unfold zChg1 at h; injection h with h; injection h with h1 h2 h3 h4 h5; injection h4, fun h => by rw [h]⟩
theorem okI0 : dI.ok 0 := by unfold dI; exact ⟨by decide, by decide⟩
theorem okL0 {α : Type} {d : Dt α} : (dL d).ok [] := ⟨Nat.zero_le _, fun _ h => (List.not_mem_nil h).elim⟩
theorem okY0 : dY.ok [] := Nat.zero_le _
theorem okS0 : dS.ok [] := Nat.zero_le _
theorem okz_Sign : dSign.ok zSign := ⟨okI0, okI0⟩
theorem okz_Result : dResult.ok zResult := ⟨okI0, okI0⟩
theorem okz_Cert : dCert.ok zCert := ⟨okI0, okI0, okL0⟩
theorem okz_Proof : dProof.ok zProof := ⟨okS0, okI0, okY0, okL0, okI0, okI0, okL0, okz_Cert⟩
theorem okm_Cert {a : CertD} (h : dCert.ok a) : dMsg.ok (mC a) := ⟨okI0, okI0, okI0, okI0, okI0, okI0, okI0, okz_Result, okL0, h, okL0, okL0, okY0, okS0, okI0, okz_Proof, okz_Sign⟩
theorem okm_Changes {a : List ChangeD} (h : (dL dChange).ok a) : dMsg.ok (mN a) := ⟨okI0, okI0, okI0, okI0, okI0, okI0, okI0, okz_Result, okL0, okz_Cert, h, okL0, okY0, okS0, okI0, okz_Proof, okz_Sign⟩
theorem okc_Prep {a : PreparedD} (h : dPrepared.ok a) : (dL dChange).ok [zChg1 a] := by
  refine ⟨by show (1 : Nat) ≤ 4194304; decide, fun x hx => ?_⟩
  rw [List.mem_singleton] at hx
  subst hx
  refine ⟨okI0, okI0, okz_Cert, ⟨by show (1 : Nat) ≤ 4194304; decide, fun y hy => ?_⟩, okz_Sign⟩
  replace hy : y ∈ [a] := hy
  rw [List.mem_singleton] at hy
  subst hy
  exact h
theorem stSameCert_s [Wd] (a b : CertD) (ha : dCert.ok a) (hb : dCert.ok b) : FnP Tryz.prog 125 [.agg (cCert a), .agg (cCert b)] (.bool (eqB a b)) := by
  refine mkS 10 [] Tryz.func125 rfl (by kernel_rfl) ?_
  repeat'
    (conv => arg 2; whnf)
    first
    | refine okAsk (by kernel_rfl) ?_
    | refine okBoth ?_ ?_
    | refine okBrT ?_
    | refine okBrF ?_
    | refine okBr (fun h => ?_) (fun h => ?_)
    | refine okFn (mSame_s (mC a) (mC b) (okm_Cert ha) (okm_Cert hb)) rfl (Cos.cons (Cos.mkAgg (by repeat' first | exact Cos.nil | refine Cos.cons (.refl _) ?_ | refine Cos.cons (.nil _) ?_)) (Cos.cons (Cos.mkAgg (by repeat' first | exact Cos.nil | refine Cos.cons (.refl _) ?_ | refine Cos.cons (.nil _) ?_)) .nil)) ?_
    | refine endBool (.inr rfl) rfl ?_
  exact msgC_eqB a b
theorem stSameChanges_s [Wd] (a b : List ChangeD) (ha : (dL dChange).ok a) (hb : (dL dChange).ok b) : FnP Tryz.prog 36 [.list 8 (a.map cChange), .list 8 (b.map cChange)] (.bool (eqB a b)) := by
  refine mkS 10 [] Tryz.func36 rfl (by kernel_rfl) ?_
  repeat'
    (conv => arg 2; whnf)
    first
    | refine okAsk (by kernel_rfl) ?_
    | refine okBoth ?_ ?_
    | refine okBrT ?_
    | refine okBrF ?_
    | refine okBr (fun h => ?_) (fun h => ?_)
    | refine okFn (mSame_s (mN a) (mN b) (okm_Changes ha) (okm_Changes hb)) rfl (Cos.cons (Cos.mkAgg (by repeat' first | exact Cos.nil | refine Cos.cons (.refl _) ?_ | refine Cos.cons (.nil _) ?_)) (Cos.cons (Cos.mkAgg (by repeat' first | exact Cos.nil | refine Cos.cons (.refl _) ?_ | refine Cos.cons (.nil _) ?_)) .nil)) ?_
    | refine endBool (.inr rfl) rfl ?_
  exact msgN_eqB a b
theorem stSamePrepared_s [Wd] (a b : PreparedD) (ha : dPrepared.ok a) (hb : dPrepared.ok b) : FnP Tryz.prog 35 [.agg (cPrepared a), .agg (cPrepared b)] (.bool (eqB a b)) := by
  refine mkS' true 14 [] Tryz.func35 rfl (by kernel_rfl) ?_
  repeat'
    (conv => arg 2; whnf)
    first
    | refine okAsk (by kernel_rfl) ?_
    | refine okBoth ?_ ?_
    | refine okBrT ?_
    | refine okBrF ?_
    | refine okBr (fun h => ?_) (fun h => ?_)
    | refine okFn (stSameChanges_s [zChg1 a] [zChg1 b] (okc_Prep ha) (okc_Prep hb)) rfl (Cos.cons (Ez.one (by repeat' first | exact Ez.nil | refine Ez.cons (.inl rfl) ?_ | refine Ez.cons (.inr ⟨rfl, _, rfl⟩) ?_)) (Cos.cons (Ez.one (by repeat' first | exact Ez.nil | refine Ez.cons (.inl rfl) ?_ | refine Ez.cons (.inr ⟨rfl, _, rfl⟩) ?_)) .nil)) ?_
    | refine endBool (.inr rfl) rfl ?_
  exact chg1_eqB a b
theorem eqVote_s [Wd] (l k : List (VoteD)) (hl : l.length ≤ 4194304) : FnP Tryz.prog 126 [.list 4 (l.map cVote), .list 4 (k.map cVote)] (.bool (eqB l k)) := by
  have HL : l.length ≤ 4194304 := hl
  refine mkS 26 [] Tryz.func126 rfl (by kernel_rfl) ?_
  repeat'
    (conv => arg 2; whnf)
    first
    | refine okAsk (by kernel_rfl) ?_
    | refine okBoth ?_ ?_
    | refine okBrT ?_
    | refine okBrF ?_
    | refine okBr (fun h => ?_) (fun h => ?_)
    | (refine endBool (.inr rfl) rfl ?_; exact (eqB_len (by simp at h; omega)).symm)
  have hn : l.length = k.length := by simp at h; omega
  refine okLoop (α := Nat) (fun q => ⟨[(13, .int .i64 q), (12, .int .i64 (l.map cVote).length), (0, .list 4 (l.map cVote)), (1, .list 4 (k.map cVote))], []⟩) (fun q => q ≤ l.length ∧ l.take q = k.take q) (fun q => l.length - q) 0 ⟨Nat.zero_le _, rfl⟩ (Sv.mk' [] rfl trivial ⟨rfl, rfl, rfl, rfl, trivial⟩) ?_
  rintro q ⟨hq, he⟩
  repeat'
    (conv => arg 2; whnf)
    first
    | refine okAsk (by kernel_rfl) ?_
    | refine okBoth ?_ ?_
    | refine okBrT ?_
    | refine okBrF ?_
    | refine okBr (fun h => ?_) (fun h => ?_)
    | refine okNthMap (l := l) (by simp at h; omega) (fun x hx => ?_)
    | refine okNthMap (l := k) (by simp at h; omega) (fun y hy => ?_)
    | refine okWrap (w64 (by simp at h hq; omega) (by have := HL; simp at h hq; omega)) ?_
    | refine okAgain (q + 1) (Sv.mk' [] rfl trivial ⟨rfl, rfl, rfl, rfl, trivial⟩) ⟨by have := (List.getElem?_eq_some_iff.1 hx).1; omega, eqB_go hx hy (by rw [vote_eqB]; revert h; cases (x.seq == y.seq) <;> cases (x.digest == y.digest) <;> cases (x.sign.key == y.sign.key) <;> cases (x.sign.digest == y.sign.digest) <;> simp) he⟩ (by have := (List.getElem?_eq_some_iff.1 hx).1; omega)
    | refine okOut ?_
    | refine okRet ?_
    | (refine endBool (.inr rfl) rfl ?_; have hl := eqB_no hx hy (by rw [vote_eqB]; revert h; cases (x.seq == y.seq) <;> cases (x.digest == y.digest) <;> cases (x.sign.key == y.sign.key) <;> cases (x.sign.digest == y.sign.digest) <;> simp); exact hl.symm; done)
    | (have hl := eqB_all hn (by simp at h; omega) he; refine endBool (.inr rfl) rfl ?_; exact hl.symm; done)
theorem eqVoteOf_s [Wd] (l k : List (VoteOfD)) (hl : l.length ≤ 4194304) : FnP Tryz.prog 130 [.list 3 (l.map cVoteOf), .list 3 (k.map cVoteOf)] (.bool (eqB l k)) := by
  have HL : l.length ≤ 4194304 := hl
  refine mkS 26 [] Tryz.func130 rfl (by kernel_rfl) ?_
  repeat'
    (conv => arg 2; whnf)
    first
    | refine okAsk (by kernel_rfl) ?_
    | refine okBoth ?_ ?_
    | refine okBrT ?_
    | refine okBrF ?_
    | refine okBr (fun h => ?_) (fun h => ?_)
    | (refine endBool (.inr rfl) rfl ?_; exact (eqB_len (by simp at h; omega)).symm)
  have hn : l.length = k.length := by simp at h; omega
  refine okLoop (α := Nat) (fun q => ⟨[(13, .int .i64 q), (12, .int .i64 (l.map cVoteOf).length), (0, .list 3 (l.map cVoteOf)), (1, .list 3 (k.map cVoteOf))], []⟩) (fun q => q ≤ l.length ∧ l.take q = k.take q) (fun q => l.length - q) 0 ⟨Nat.zero_le _, rfl⟩ (Sv.mk' [] rfl trivial ⟨rfl, rfl, rfl, rfl, trivial⟩) ?_
  rintro q ⟨hq, he⟩
  repeat'
    (conv => arg 2; whnf)
    first
    | refine okAsk (by kernel_rfl) ?_
    | refine okBoth ?_ ?_
    | refine okBrT ?_
    | refine okBrF ?_
    | refine okBr (fun h => ?_) (fun h => ?_)
    | refine okNthMap (l := l) (by simp at h; omega) (fun x hx => ?_)
    | refine okNthMap (l := k) (by simp at h; omega) (fun y hy => ?_)
    | refine okWrap (w64 (by simp at h hq; omega) (by have := HL; simp at h hq; omega)) ?_
    | refine okAgain (q + 1) (Sv.mk' [] rfl trivial ⟨rfl, rfl, rfl, rfl, trivial⟩) ⟨by have := (List.getElem?_eq_some_iff.1 hx).1; omega, eqB_go hx hy (by rw [voteof_eqB]; revert h; cases (x.digest == y.digest) <;> cases (x.sign.key == y.sign.key) <;> cases (x.sign.digest == y.sign.digest) <;> simp) he⟩ (by have := (List.getElem?_eq_some_iff.1 hx).1; omega)
    | refine okOut ?_
    | refine okRet ?_
    | (refine endBool (.inr rfl) rfl ?_; have hl := eqB_no hx hy (by rw [voteof_eqB]; revert h; cases (x.digest == y.digest) <;> cases (x.sign.key == y.sign.key) <;> cases (x.sign.digest == y.sign.digest) <;> simp); exact hl.symm; done)
    | (have hl := eqB_all hn (by simp at h; omega) he; refine endBool (.inr rfl) rfl ?_; exact hl.symm; done)
theorem stSamePlaced_s [Wd] (a b : PlacedD) (ha : dPlaced.ok a) (hb : dPlaced.ok b) : FnP Tryz.prog 124 [.agg (cPlaced a), .agg (cPlaced b)] (.bool (eqB a b)) := by
  refine mkS 24 [] Tryz.func124 rfl (by kernel_rfl) ?_
  repeat'
    (conv => arg 2; whnf)
    first
    | refine okAsk (by kernel_rfl) ?_
    | refine okBoth ?_ ?_
    | refine okBrT ?_
    | refine okBrF ?_
    | refine okBr (fun h => ?_) (fun h => ?_)
    | refine okFn (bEq_s a.record b.record ha.2.2 hb.2.2) rfl (Cos.refl _) ?_
    | (refine endBool (.inr rfl) rfl ?_; rw [placed_eqB]; simp_all; done)
    | (exfalso; simp_all; done)
theorem eqPlaced_s [Wd] (l k : List (PlacedD)) (hl : (dL dPlaced).ok l) (hk : (dL dPlaced).ok k) : FnP Tryz.prog 123 [.list 3 (l.map cPlaced), .list 3 (k.map cPlaced), .fn 124 0 []] (.bool (eqB l k)) := by
  have HL : l.length ≤ 4194304 := hl.1
  refine mkS 32 [] Tryz.func123 rfl (by kernel_rfl) ?_
  repeat'
    (conv => arg 2; whnf)
    first
    | refine okAsk (by kernel_rfl) ?_
    | refine okBoth ?_ ?_
    | refine okBrT ?_
    | refine okBrF ?_
    | refine okBr (fun h => ?_) (fun h => ?_)
    | (refine endBool (.inr rfl) rfl ?_; exact (eqB_len (by simp at h; omega)).symm)
  have hn : l.length = k.length := by simp at h; omega
  refine okLoop (α := Nat) (fun q => ⟨[(17, .int .i64 q), (16, .int .i64 (l.map cPlaced).length), (15, .list 3 (l.map cPlaced)), (2, .fn 124 0 []), (1, .list 3 (k.map cPlaced))], []⟩) (fun q => q ≤ l.length ∧ l.take q = k.take q) (fun q => l.length - q) 0 ⟨Nat.zero_le _, rfl⟩ (Sv.mk' [] rfl trivial ⟨rfl, rfl, rfl, rfl, rfl, trivial⟩) ?_
  rintro q ⟨hq, he⟩
  repeat'
    (conv => arg 2; whnf)
    first
    | refine okAsk (by kernel_rfl) ?_
    | refine okBoth ?_ ?_
    | refine okBrT ?_
    | refine okBrF ?_
    | refine okBr (fun h => ?_) (fun h => ?_)
    | refine okNthMap (l := l) (by simp at h; omega) (fun x hx => ?_)
    | refine okNthMap (l := k) (by simp at h; omega) (fun y hy => ?_)
    | refine okFn (stSamePlaced_s x y (hl.2 x (List.mem_of_getElem? hx)) (hk.2 y (List.mem_of_getElem? hy))) rfl (Cos.refl _) ?_
    | refine okWrap (w64 (by simp at h hq; omega) (by have := HL; simp at h hq; omega)) ?_
    | refine okAgain (q + 1) (Sv.mk' [] rfl trivial ⟨rfl, rfl, rfl, rfl, rfl, trivial⟩) ⟨by have := (List.getElem?_eq_some_iff.1 hx).1; omega, eqB_go hx hy (by simpa using h) he⟩ (by have := (List.getElem?_eq_some_iff.1 hx).1; omega)
    | refine okOut ?_
    | refine okRet ?_
    | (refine endBool (.inr rfl) rfl ?_; have hl := eqB_no hx hy (by simpa using h); exact hl.symm; done)
    | (have hl := eqB_all hn (by simp at h; omega) he; refine endBool (.inr rfl) rfl ?_; exact hl.symm; done)
theorem stSameBlock_s [Wd] (a b : BlockD) (ha : dBlock.ok a) (hb : dBlock.ok b) : FnP Tryz.prog 30 [.agg (cBlock a), .agg (cBlock b)] (.bool (eqB a b)) := by
  refine mkS 24 [] Tryz.func30 rfl (by kernel_rfl) ?_
  repeat'
    (conv => arg 2; whnf)
    first
    | refine okAsk (by kernel_rfl) ?_
    | refine okBoth ?_ ?_
    | refine okBrT ?_
    | refine okBrF ?_
    | refine okBr (fun h => ?_) (fun h => ?_)
    | refine okFn (qSame_s a.batch b.batch ha.2.1 hb.2.1) rfl (Cos.refl _) ?_
    | refine okFn (eqPlaced_s a.placed b.placed ha.2.2 hb.2.2) rfl (Cos.refl _) ?_
    | (refine endBool (.inr rfl) rfl ?_; rw [block_eqB]; simp_all; done)
    | (exfalso; simp_all; done)
theorem stSameMark_s [Wd] (a b : MarkD) (ha : dMark.ok a) (hb : dMark.ok b) : FnP Tryz.prog 129 [.agg (cMark a), .agg (cMark b)] (.bool (eqB a b)) := by
  refine mkS 17 [] Tryz.func129 rfl (by kernel_rfl) ?_
  repeat'
    (conv => arg 2; whnf)
    first
    | refine okAsk (by kernel_rfl) ?_
    | refine okBoth ?_ ?_
    | refine okBrT ?_
    | refine okBrF ?_
    | refine okBr (fun h => ?_) (fun h => ?_)
    | refine okFn (bEq_s a.topics b.topics ha.2 hb.2) rfl (Cos.refl _) ?_
    | (refine endBool (.inr rfl) rfl ?_; rw [mark_eqB]; simp_all; done)
    | (exfalso; simp_all; done)
theorem stSameSlot_s [Wd] (a b : SlotD) (ha : dSlot.ok a) (hb : dSlot.ok b) : FnP Tryz.prog 33 [.agg (cSlot a), .agg (cSlot b)] (.bool (eqB a b)) := by
  refine mkS 52 [] Tryz.func33 rfl (by kernel_rfl) ?_
  repeat'
    (conv => arg 2; whnf)
    first
    | refine okAsk (by kernel_rfl) ?_
    | refine okBoth ?_ ?_
    | refine okBrT ?_
    | refine okBrF ?_
    | refine okBr (fun h => ?_) (fun h => ?_)
    | refine okFn (qSame_s a.batch b.batch ha.2.2.2.2.1 hb.2.2.2.2.1) rfl (Cos.refl _) ?_
    | refine okFn (eqVoteOf_s a.prepares b.prepares ha.2.2.2.2.2.1.1) rfl (Cos.refl _) ?_
    | refine okFn (eqVoteOf_s a.commits b.commits ha.2.2.2.2.2.2.1) rfl (Cos.refl _) ?_
    | (refine endBool (.inr rfl) rfl ?_; rw [slot_eqB]; simp_all; done)
    | (exfalso; simp_all; done)
theorem eqBlock_s [Wd] (l k : List (BlockD)) (hl : (dL dBlock).ok l) (hk : (dL dBlock).ok k) : FnP Tryz.prog 29 [.list 7 (l.map cBlock), .list 7 (k.map cBlock), .fn 30 0 []] (.bool (eqB l k)) := by
  have HL : l.length ≤ 4194304 := hl.1
  refine mkS 32 [] Tryz.func29 rfl (by kernel_rfl) ?_
  repeat'
    (conv => arg 2; whnf)
    first
    | refine okAsk (by kernel_rfl) ?_
    | refine okBoth ?_ ?_
    | refine okBrT ?_
    | refine okBrF ?_
    | refine okBr (fun h => ?_) (fun h => ?_)
    | (refine endBool (.inr rfl) rfl ?_; exact (eqB_len (by simp at h; omega)).symm)
  have hn : l.length = k.length := by simp at h; omega
  refine okLoop (α := Nat) (fun q => ⟨[(17, .int .i64 q), (16, .int .i64 (l.map cBlock).length), (15, .list 7 (l.map cBlock)), (2, .fn 30 0 []), (1, .list 7 (k.map cBlock))], []⟩) (fun q => q ≤ l.length ∧ l.take q = k.take q) (fun q => l.length - q) 0 ⟨Nat.zero_le _, rfl⟩ (Sv.mk' [] rfl trivial ⟨rfl, rfl, rfl, rfl, rfl, trivial⟩) ?_
  rintro q ⟨hq, he⟩
  repeat'
    (conv => arg 2; whnf)
    first
    | refine okAsk (by kernel_rfl) ?_
    | refine okBoth ?_ ?_
    | refine okBrT ?_
    | refine okBrF ?_
    | refine okBr (fun h => ?_) (fun h => ?_)
    | refine okNthMap (l := l) (by simp at h; omega) (fun x hx => ?_)
    | refine okNthMap (l := k) (by simp at h; omega) (fun y hy => ?_)
    | refine okFn (stSameBlock_s x y (hl.2 x (List.mem_of_getElem? hx)) (hk.2 y (List.mem_of_getElem? hy))) rfl (Cos.refl _) ?_
    | refine okWrap (w64 (by simp at h hq; omega) (by have := HL; simp at h hq; omega)) ?_
    | refine okAgain (q + 1) (Sv.mk' [] rfl trivial ⟨rfl, rfl, rfl, rfl, rfl, trivial⟩) ⟨by have := (List.getElem?_eq_some_iff.1 hx).1; omega, eqB_go hx hy (by simpa using h) he⟩ (by have := (List.getElem?_eq_some_iff.1 hx).1; omega)
    | refine okOut ?_
    | refine okRet ?_
    | (refine endBool (.inr rfl) rfl ?_; have hl := eqB_no hx hy (by simpa using h); exact hl.symm; done)
    | (have hl := eqB_all hn (by simp at h; omega) he; refine endBool (.inr rfl) rfl ?_; exact hl.symm; done)
theorem eqMark_s [Wd] (l k : List (MarkD)) (hl : (dL dMark).ok l) (hk : (dL dMark).ok k) : FnP Tryz.prog 128 [.list 6 (l.map cMark), .list 6 (k.map cMark), .fn 129 0 []] (.bool (eqB l k)) := by
  have HL : l.length ≤ 4194304 := hl.1
  refine mkS 32 [] Tryz.func128 rfl (by kernel_rfl) ?_
  repeat'
    (conv => arg 2; whnf)
    first
    | refine okAsk (by kernel_rfl) ?_
    | refine okBoth ?_ ?_
    | refine okBrT ?_
    | refine okBrF ?_
    | refine okBr (fun h => ?_) (fun h => ?_)
    | (refine endBool (.inr rfl) rfl ?_; exact (eqB_len (by simp at h; omega)).symm)
  have hn : l.length = k.length := by simp at h; omega
  refine okLoop (α := Nat) (fun q => ⟨[(17, .int .i64 q), (16, .int .i64 (l.map cMark).length), (15, .list 6 (l.map cMark)), (2, .fn 129 0 []), (1, .list 6 (k.map cMark))], []⟩) (fun q => q ≤ l.length ∧ l.take q = k.take q) (fun q => l.length - q) 0 ⟨Nat.zero_le _, rfl⟩ (Sv.mk' [] rfl trivial ⟨rfl, rfl, rfl, rfl, rfl, trivial⟩) ?_
  rintro q ⟨hq, he⟩
  repeat'
    (conv => arg 2; whnf)
    first
    | refine okAsk (by kernel_rfl) ?_
    | refine okBoth ?_ ?_
    | refine okBrT ?_
    | refine okBrF ?_
    | refine okBr (fun h => ?_) (fun h => ?_)
    | refine okNthMap (l := l) (by simp at h; omega) (fun x hx => ?_)
    | refine okNthMap (l := k) (by simp at h; omega) (fun y hy => ?_)
    | refine okFn (stSameMark_s x y (hl.2 x (List.mem_of_getElem? hx)) (hk.2 y (List.mem_of_getElem? hy))) rfl (Cos.refl _) ?_
    | refine okWrap (w64 (by simp at h hq; omega) (by have := HL; simp at h hq; omega)) ?_
    | refine okAgain (q + 1) (Sv.mk' [] rfl trivial ⟨rfl, rfl, rfl, rfl, rfl, trivial⟩) ⟨by have := (List.getElem?_eq_some_iff.1 hx).1; omega, eqB_go hx hy (by simpa using h) he⟩ (by have := (List.getElem?_eq_some_iff.1 hx).1; omega)
    | refine okOut ?_
    | refine okRet ?_
    | (refine endBool (.inr rfl) rfl ?_; have hl := eqB_no hx hy (by simpa using h); exact hl.symm; done)
    | (have hl := eqB_all hn (by simp at h; omega) he; refine endBool (.inr rfl) rfl ?_; exact hl.symm; done)
theorem eqSlot_s [Wd] (l k : List (SlotD)) (hl : (dL dSlot).ok l) (hk : (dL dSlot).ok k) : FnP Tryz.prog 32 [.list 8 (l.map cSlot), .list 8 (k.map cSlot), .fn 33 0 []] (.bool (eqB l k)) := by
  have HL : l.length ≤ 4194304 := hl.1
  refine mkS 32 [] Tryz.func32 rfl (by kernel_rfl) ?_
  repeat'
    (conv => arg 2; whnf)
    first
    | refine okAsk (by kernel_rfl) ?_
    | refine okBoth ?_ ?_
    | refine okBrT ?_
    | refine okBrF ?_
    | refine okBr (fun h => ?_) (fun h => ?_)
    | (refine endBool (.inr rfl) rfl ?_; exact (eqB_len (by simp at h; omega)).symm)
  have hn : l.length = k.length := by simp at h; omega
  refine okLoop (α := Nat) (fun q => ⟨[(17, .int .i64 q), (16, .int .i64 (l.map cSlot).length), (15, .list 8 (l.map cSlot)), (2, .fn 33 0 []), (1, .list 8 (k.map cSlot))], []⟩) (fun q => q ≤ l.length ∧ l.take q = k.take q) (fun q => l.length - q) 0 ⟨Nat.zero_le _, rfl⟩ (Sv.mk' [] rfl trivial ⟨rfl, rfl, rfl, rfl, rfl, trivial⟩) ?_
  rintro q ⟨hq, he⟩
  repeat'
    (conv => arg 2; whnf)
    first
    | refine okAsk (by kernel_rfl) ?_
    | refine okBoth ?_ ?_
    | refine okBrT ?_
    | refine okBrF ?_
    | refine okBr (fun h => ?_) (fun h => ?_)
    | refine okNthMap (l := l) (by simp at h; omega) (fun x hx => ?_)
    | refine okNthMap (l := k) (by simp at h; omega) (fun y hy => ?_)
    | refine okFn (stSameSlot_s x y (hl.2 x (List.mem_of_getElem? hx)) (hk.2 y (List.mem_of_getElem? hy))) rfl (Cos.refl _) ?_
    | refine okWrap (w64 (by simp at h hq; omega) (by have := HL; simp at h hq; omega)) ?_
    | refine okAgain (q + 1) (Sv.mk' [] rfl trivial ⟨rfl, rfl, rfl, rfl, rfl, trivial⟩) ⟨by have := (List.getElem?_eq_some_iff.1 hx).1; omega, eqB_go hx hy (by simpa using h) he⟩ (by have := (List.getElem?_eq_some_iff.1 hx).1; omega)
    | refine okOut ?_
    | refine okRet ?_
    | (refine endBool (.inr rfl) rfl ?_; have hl := eqB_no hx hy (by simpa using h); exact hl.symm; done)
    | (have hl := eqB_all hn (by simp at h; omega) he; refine endBool (.inr rfl) rfl ?_; exact hl.symm; done)
theorem eqCert_s [Wd] (l k : List (CertD)) (hl : (dL dCert).ok l) (hk : (dL dCert).ok k) : FnP Tryz.prog 127 [.list 3 (l.map cCert), .list 3 (k.map cCert), .fn 125 0 []] (.bool (eqB l k)) := by
  have HL : l.length ≤ 4194304 := hl.1
  refine mkS 32 [] Tryz.func127 rfl (by kernel_rfl) ?_
  repeat'
    (conv => arg 2; whnf)
    first
    | refine okAsk (by kernel_rfl) ?_
    | refine okBoth ?_ ?_
    | refine okBrT ?_
    | refine okBrF ?_
    | refine okBr (fun h => ?_) (fun h => ?_)
    | (refine endBool (.inr rfl) rfl ?_; exact (eqB_len (by simp at h; omega)).symm)
  have hn : l.length = k.length := by simp at h; omega
  refine okLoop (α := Nat) (fun q => ⟨[(17, .int .i64 q), (16, .int .i64 (l.map cCert).length), (15, .list 3 (l.map cCert)), (2, .fn 125 0 []), (1, .list 3 (k.map cCert))], []⟩) (fun q => q ≤ l.length ∧ l.take q = k.take q) (fun q => l.length - q) 0 ⟨Nat.zero_le _, rfl⟩ (Sv.mk' [] rfl trivial ⟨rfl, rfl, rfl, rfl, rfl, trivial⟩) ?_
  rintro q ⟨hq, he⟩
  repeat'
    (conv => arg 2; whnf)
    first
    | refine okAsk (by kernel_rfl) ?_
    | refine okBoth ?_ ?_
    | refine okBrT ?_
    | refine okBrF ?_
    | refine okBr (fun h => ?_) (fun h => ?_)
    | refine okNthMap (l := l) (by simp at h; omega) (fun x hx => ?_)
    | refine okNthMap (l := k) (by simp at h; omega) (fun y hy => ?_)
    | refine okFn (stSameCert_s x y (hl.2 x (List.mem_of_getElem? hx)) (hk.2 y (List.mem_of_getElem? hy))) rfl (Cos.refl _) ?_
    | refine okWrap (w64 (by simp at h hq; omega) (by have := HL; simp at h hq; omega)) ?_
    | refine okAgain (q + 1) (Sv.mk' [] rfl trivial ⟨rfl, rfl, rfl, rfl, rfl, trivial⟩) ⟨by have := (List.getElem?_eq_some_iff.1 hx).1; omega, eqB_go hx hy (by simpa using h) he⟩ (by have := (List.getElem?_eq_some_iff.1 hx).1; omega)
    | refine okOut ?_
    | refine okRet ?_
    | (refine endBool (.inr rfl) rfl ?_; have hl := eqB_no hx hy (by simpa using h); exact hl.symm; done)
    | (have hl := eqB_all hn (by simp at h; omega) he; refine endBool (.inr rfl) rfl ?_; exact hl.symm; done)
theorem eqHeld_s [Wd] (l k : List (PreparedD)) (hl : (dL dPrepared).ok l) (hk : (dL dPrepared).ok k) : FnP Tryz.prog 34 [.list 7 (l.map cPrepared), .list 7 (k.map cPrepared), .fn 35 0 []] (.bool (eqB l k)) := by
  have HL : l.length ≤ 4194304 := hl.1
  refine mkS 32 [] Tryz.func34 rfl (by kernel_rfl) ?_
  repeat'
    (conv => arg 2; whnf)
    first
    | refine okAsk (by kernel_rfl) ?_
    | refine okBoth ?_ ?_
    | refine okBrT ?_
    | refine okBrF ?_
    | refine okBr (fun h => ?_) (fun h => ?_)
    | (refine endBool (.inr rfl) rfl ?_; exact (eqB_len (by simp at h; omega)).symm)
  have hn : l.length = k.length := by simp at h; omega
  refine okLoop (α := Nat) (fun q => ⟨[(17, .int .i64 q), (16, .int .i64 (l.map cPrepared).length), (15, .list 7 (l.map cPrepared)), (2, .fn 35 0 []), (1, .list 7 (k.map cPrepared))], []⟩) (fun q => q ≤ l.length ∧ l.take q = k.take q) (fun q => l.length - q) 0 ⟨Nat.zero_le _, rfl⟩ (Sv.mk' [] rfl trivial ⟨rfl, rfl, rfl, rfl, rfl, trivial⟩) ?_
  rintro q ⟨hq, he⟩
  repeat'
    (conv => arg 2; whnf)
    first
    | refine okAsk (by kernel_rfl) ?_
    | refine okBoth ?_ ?_
    | refine okBrT ?_
    | refine okBrF ?_
    | refine okBr (fun h => ?_) (fun h => ?_)
    | refine okNthMap (l := l) (by simp at h; omega) (fun x hx => ?_)
    | refine okNthMap (l := k) (by simp at h; omega) (fun y hy => ?_)
    | refine okFn (stSamePrepared_s x y (hl.2 x (List.mem_of_getElem? hx)) (hk.2 y (List.mem_of_getElem? hy))) rfl (Cos.refl _) ?_
    | refine okWrap (w64 (by simp at h hq; omega) (by have := HL; simp at h hq; omega)) ?_
    | refine okAgain (q + 1) (Sv.mk' [] rfl trivial ⟨rfl, rfl, rfl, rfl, rfl, trivial⟩) ⟨by have := (List.getElem?_eq_some_iff.1 hx).1; omega, eqB_go hx hy (by simpa using h) he⟩ (by have := (List.getElem?_eq_some_iff.1 hx).1; omega)
    | refine okOut ?_
    | refine okRet ?_
    | (refine endBool (.inr rfl) rfl ?_; have hl := eqB_no hx hy (by simpa using h); exact hl.symm; done)
    | (have hl := eqB_all hn (by simp at h; omega) he; refine endBool (.inr rfl) rfl ?_; exact hl.symm; done)
theorem eqMsg_s [Wd] (l k : List (MsgD)) (hl : (dL dMsg).ok l) (hk : (dL dMsg).ok k) : FnP Tryz.prog 38 [.list 30 (l.map cMsg), .list 30 (k.map cMsg), .fn 39 0 []] (.bool (eqB l k)) := by
  have HL : l.length ≤ 4194304 := hl.1
  refine mkS 32 [] Tryz.func38 rfl (by kernel_rfl) ?_
  repeat'
    (conv => arg 2; whnf)
    first
    | refine okAsk (by kernel_rfl) ?_
    | refine okBoth ?_ ?_
    | refine okBrT ?_
    | refine okBrF ?_
    | refine okBr (fun h => ?_) (fun h => ?_)
    | (refine endBool (.inr rfl) rfl ?_; exact (eqB_len (by simp at h; omega)).symm)
  have hn : l.length = k.length := by simp at h; omega
  refine okLoop (α := Nat) (fun q => ⟨[(17, .int .i64 q), (16, .int .i64 (l.map cMsg).length), (15, .list 30 (l.map cMsg)), (2, .fn 39 0 []), (1, .list 30 (k.map cMsg))], []⟩) (fun q => q ≤ l.length ∧ l.take q = k.take q) (fun q => l.length - q) 0 ⟨Nat.zero_le _, rfl⟩ (Sv.mk' [] rfl trivial ⟨rfl, rfl, rfl, rfl, rfl, trivial⟩) ?_
  rintro q ⟨hq, he⟩
  repeat'
    (conv => arg 2; whnf)
    first
    | refine okAsk (by kernel_rfl) ?_
    | refine okBoth ?_ ?_
    | refine okBrT ?_
    | refine okBrF ?_
    | refine okBr (fun h => ?_) (fun h => ?_)
    | refine okNthMap (l := l) (by simp at h; omega) (fun x hx => ?_)
    | refine okNthMap (l := k) (by simp at h; omega) (fun y hy => ?_)
    | refine okFn (mSame_s x y (hl.2 x (List.mem_of_getElem? hx)) (hk.2 y (List.mem_of_getElem? hy))) rfl (Cos.refl _) ?_
    | refine okWrap (w64 (by simp at h hq; omega) (by have := HL; simp at h hq; omega)) ?_
    | refine okAgain (q + 1) (Sv.mk' [] rfl trivial ⟨rfl, rfl, rfl, rfl, rfl, trivial⟩) ⟨by have := (List.getElem?_eq_some_iff.1 hx).1; omega, eqB_go hx hy (by simpa using h) he⟩ (by have := (List.getElem?_eq_some_iff.1 hx).1; omega)
    | refine okOut ?_
    | refine okRet ?_
    | (refine endBool (.inr rfl) rfl ?_; have hl := eqB_no hx hy (by simpa using h); exact hl.symm; done)
    | (have hl := eqB_all hn (by simp at h; omega) he; refine endBool (.inr rfl) rfl ?_; exact hl.symm; done)
noncomputable def pointsB (a b : CoreD) : Bool := (((eqB a.points.stable b.points.stable && eqB a.points.votes b.points.votes) && eqB a.points.certs b.points.certs) && eqB a.certs b.certs) && eqB a.marks b.marks
theorem stSamePoints_s [Wd] (a b : CoreD) (ha : dCore.ok a) (hb : dCore.ok b) : FnP Tryz.prog 31 [.agg (cCore a), .agg (cCore b)] (.bool (pointsB a b)) := by
  refine mkS 44 [] Tryz.func31 rfl (by kernel_rfl) ?_
  repeat'
    (conv => arg 2; whnf)
    first
    | refine okAsk (by kernel_rfl) ?_
    | refine okBoth ?_ ?_
    | refine okBrT ?_
    | refine okBrF ?_
    | refine okBr (fun h => ?_) (fun h => ?_)
    | refine okFn (stSameCert_s a.points.stable b.points.stable ha.2.2.2.2.2.2.2.1.1 hb.2.2.2.2.2.2.2.1.1) rfl (Cos.refl _) ?_
    | refine okFn (eqVote_s a.points.votes b.points.votes ha.2.2.2.2.2.2.2.1.2.1.1) rfl (Cos.refl _) ?_
    | refine okFn (eqCert_s a.points.certs b.points.certs ha.2.2.2.2.2.2.2.1.2.2 hb.2.2.2.2.2.2.2.1.2.2) rfl (Cos.refl _) ?_
    | refine okFn (eqCert_s a.certs b.certs ha.2.2.2.2.2.2.2.2.1 hb.2.2.2.2.2.2.2.2.1) rfl (Cos.refl _) ?_
    | refine okFn (eqMark_s a.marks b.marks ha.2.2.2.2.2.2.2.2.2.1 hb.2.2.2.2.2.2.2.2.2.1) rfl (Cos.refl _) ?_
    | (refine endBool (.inr rfl) rfl ?_; unfold pointsB; simp_all; done)
    | (exfalso; simp_all; done)
theorem core_progB (a b : CoreD) : eqB a b = ((((((((((((((a.view == b.view && a.active == b.active) && a.ticks == b.ticks) && a.floor == b.floor) && eqB a.base b.base) && eqB a.blocks b.blocks) && eqB a.topics b.topics) && pointsB a b) && eqB a.slots b.slots) && eqB a.held b.held) && eqB a.changes b.changes) && eqB a.pool.waiting b.pool.waiting) && ((a.timer.length == b.timer.length) && (a.timer.left == b.timer.left))) && eqB a.news b.news) && a.wants == b.wants) := by
  rw [core_restB]
  unfold pointsB restB
  rw [points_eqB, decE]
  rw [Bool.eq_iff_iff]
  simp only [Bool.and_eq_true]
  constructor
  all_goals (intro h; simp_all)
theorem stSame_s [Wd] (a b : CoreD) (ha : dCore.ok a) (hb : dCore.ok b) : FnP Tryz.prog 15 [.agg (cCore a), .agg (cCore b)] (.bool (eqB a b)) := by
  refine mkS 108 [] Tryz.func15 rfl (by kernel_rfl) ?_
  repeat'
    (conv => arg 2; whnf)
    first
    | refine okAsk (by kernel_rfl) ?_
    | refine okBoth ?_ ?_
    | refine okBrT ?_
    | refine okBrF ?_
    | refine okBr (fun h => ?_) (fun h => ?_)
    | refine okFn (eqBlock_s a.blocks b.blocks ha.2.2.2.2.2.1 hb.2.2.2.2.2.1) rfl (Cos.refl _) ?_
    | refine okFn (bEq_s a.topics b.topics ha.2.2.2.2.2.2.1 hb.2.2.2.2.2.2.1) rfl (Cos.refl _) ?_
    | refine okFn (stSamePoints_s a b ha hb) rfl (Cos.refl _) ?_
    | refine okFn (eqSlot_s a.slots b.slots ha.2.2.2.2.2.2.2.2.2.2.1 hb.2.2.2.2.2.2.2.2.2.2.1) rfl (Cos.refl _) ?_
    | refine okFn (eqHeld_s a.held b.held ha.2.2.2.2.2.2.2.2.2.2.2.1 hb.2.2.2.2.2.2.2.2.2.2.2.1) rfl (Cos.refl _) ?_
    | refine okFn (stSameChanges_s a.changes b.changes ha.2.2.2.2.2.2.2.2.2.2.2.2.1 hb.2.2.2.2.2.2.2.2.2.2.2.2.1) rfl (Cos.refl _) ?_
    | refine okFn (qSame_s a.pool.waiting b.pool.waiting ha.2.2.2.2.2.2.2.2.2.2.2.2.2.1 hb.2.2.2.2.2.2.2.2.2.2.2.2.2.1) rfl (Cos.refl _) ?_
    | refine okFn (eqMsg_s a.news b.news ha.2.2.2.2.2.2.2.2.2.2.2.2.2.2.2.1 hb.2.2.2.2.2.2.2.2.2.2.2.2.2.2.2.1) rfl (Cos.refl _) ?_
    | (refine endBool (.inr rfl) rfl ?_; rw [core_progB, ← head_eqB a.base b.base]; simp_all; done)
    | (exfalso; simp_all; done)
end Go.Proofs.YteaggenihhaajaaGreat

/- Clone: lists of their own, over data with colours (printed by gen_yb.py). -/
namespace Go.Proofs.YteaggenihhaajaaGreat
open Go.RowKit
set_option linter.unusedVariables false
set_option maxRecDepth 20000

theorem bClone_o [Wd] (l : List UInt8) (hl : l.length ≤ 4194304) : FnP Tryz.prog 42 [.list 1 (l.map cByte)] (.own 1 (l.map cByte)) := by
  refine mkS' false 8 [] Tryz.func42 rfl (by kernel_rfl) ?_
  repeat'
    (conv => arg 2; whnf)
    first
    | refine okAsk (by kernel_rfl) ?_
    | refine okAsk (by simp [maxLen]; omega) ?_
    | refine okBoth ?_ ?_
    | refine okBrT ?_
    | refine okBrF ?_
    | refine okBr (fun h => ?_) (fun h => ?_)
    | (have e : l = [] := by simpa using h
       subst e
       refine endFn0 (.inr rfl) rfl (.nilo _) rfl)
    | refine endFn [1, 1001] (.inr rfl) rfl (.refl _) rfl
theorem scVote_o [Wd] (l : List VoteD) (hl : l.length ≤ 4194304) : FnP Tryz.prog 44 [.list 4 (l.map cVote)] (.own 4 (l.map cVote)) := by
  refine mkS' false 8 [] Tryz.func44 rfl (by kernel_rfl) ?_
  repeat'
    (conv => arg 2; whnf)
    first
    | refine okAsk (by kernel_rfl) ?_
    | refine okAsk (by simp [maxLen]; omega) ?_
    | refine okBoth ?_ ?_
    | refine okBrT ?_
    | refine okBrF ?_
    | refine okBr (fun h => ?_) (fun h => ?_)
    | (have e : l = [] := by simpa using h
       subst e
       refine endFn0 (.inr rfl) rfl (.nilo _) rfl)
    | refine endFn [1, 1001] (.inr rfl) rfl (.refl _) rfl
theorem scVoteOf_o [Wd] (l : List VoteOfD) (hl : l.length ≤ 4194304) : FnP Tryz.prog 143 [.list 3 (l.map cVoteOf)] (.own 3 (l.map cVoteOf)) := by
  refine mkS' false 8 [] Tryz.func143 rfl (by kernel_rfl) ?_
  repeat'
    (conv => arg 2; whnf)
    first
    | refine okAsk (by kernel_rfl) ?_
    | refine okAsk (by simp [maxLen]; omega) ?_
    | refine okBoth ?_ ?_
    | refine okBrT ?_
    | refine okBrF ?_
    | refine okBr (fun h => ?_) (fun h => ?_)
    | (have e : l = [] := by simpa using h
       subst e
       refine endFn0 (.inr rfl) rfl (.nilo _) rfl)
    | refine endFn [1, 1001] (.inr rfl) rfl (.refl _) rfl
theorem scSign_o [Wd] (l : List SignD) (hl : l.length ≤ 4194304) : FnP Tryz.prog 211 [.list 2 (l.map cSign)] (.own 2 (l.map cSign)) := by
  refine mkS' false 8 [] Tryz.func211 rfl (by kernel_rfl) ?_
  repeat'
    (conv => arg 2; whnf)
    first
    | refine okAsk (by kernel_rfl) ?_
    | refine okAsk (by simp [maxLen]; omega) ?_
    | refine okBoth ?_ ?_
    | refine okBrT ?_
    | refine okBrF ?_
    | refine okBr (fun h => ?_) (fun h => ?_)
    | (have e : l = [] := by simpa using h
       subst e
       refine endFn0 (.inr rfl) rfl (.nilo _) rfl)
    | refine endFn [1, 1001] (.inr rfl) rfl (.refl _) rfl
theorem scHeader_o [Wd] (l : List HeaderD) (hl : l.length ≤ 4194304) : FnP Tryz.prog 148 [.list 5 (l.map cHeader)] (.own 5 (l.map cHeader)) := by
  refine mkS' false 8 [] Tryz.func148 rfl (by kernel_rfl) ?_
  repeat'
    (conv => arg 2; whnf)
    first
    | refine okAsk (by kernel_rfl) ?_
    | refine okAsk (by simp [maxLen]; omega) ?_
    | refine okBoth ?_ ?_
    | refine okBrT ?_
    | refine okBrF ?_
    | refine okBr (fun h => ?_) (fun h => ?_)
    | (have e : l = [] := by simpa using h
       subst e
       refine endFn0 (.inr rfl) rfl (.nilo _) rfl)
    | refine endFn [1, 1001] (.inr rfl) rfl (.refl _) rfl
theorem scDigest_o [Wd] (l : List Int) (hl : l.length ≤ 4194304) : FnP Tryz.prog 149 [.list 1 (l.map cNum)] (.own 1 (l.map cNum)) := by
  refine mkS' false 8 [] Tryz.func149 rfl (by kernel_rfl) ?_
  repeat'
    (conv => arg 2; whnf)
    first
    | refine okAsk (by kernel_rfl) ?_
    | refine okAsk (by simp [maxLen]; omega) ?_
    | refine okBoth ?_ ?_
    | refine okBrT ?_
    | refine okBrF ?_
    | refine okBr (fun h => ?_) (fun h => ?_)
    | (have e : l = [] := by simpa using h
       subst e
       refine endFn0 (.inr rfl) rfl (.nilo _) rfl)
    | refine endFn [1, 1001] (.inr rfl) rfl (.refl _) rfl
end Go.Proofs.YteaggenihhaajaaGreat

/- Clone: each thing of a list in memory of its own, over data with colours (printed by gen_yc.py). -/
namespace Go.Proofs.YteaggenihhaajaaGreat
open Go.RowKit
set_option linter.unusedVariables false
set_option maxRecDepth 20000

theorem take_go {α : Type} {l : List α} {i : Nat} {x : α} (hx : l[i]? = some x) {k : List α} (hk : k = l.take i) : k ++ [x] = l.take (i + 1) := by
  rw [List.take_add_one, hx, hk]; rfl
theorem take_all {α : Type} {l k : List α} {i : Nat} (hk : k = l.take i) (h : ¬ i < l.length) : k = l := by
  rw [hk, List.take_of_length_le (by omega)]
def oPlaced (s : PlacedD) : List D := [.str s.topic, .int .i64 s.offset, .own 1 (s.record.map cByte)]
theorem stClonePlaced_o [Wd] (s : PlacedD) (hs : dPlaced.ok s) : FnP Tryz.prog 142 [.agg (cPlaced s)] (.agg (oPlaced s)) := by
  refine mkS 8 [] Tryz.func142 rfl (by kernel_rfl) ?_
  repeat'
    (conv => arg 2; whnf)
    first
    | refine okAsk (by kernel_rfl) ?_
    | refine okBoth ?_ ?_
    | refine okBrT ?_
    | refine okBrF ?_
    | refine okBr (fun h => ?_) (fun h => ?_)
    | refine okFn (bClone_o s.record hs.2.2) rfl (Cos.refl _) ?_
    | refine endFn0 (.inr rfl) rfl (.refl _) rfl
theorem eachPlaced_o [Wd] (l : List PlacedD) (hl : (dL dPlaced).ok l) : FnP Tryz.prog 141 [.list 3 (l.map cPlaced), .fn 142 0 []] (.own 3 (l.map oPlaced)) := by
  have HL : l.length ≤ 4194304 := hl.1
  refine mkS 22 [] Tryz.func141 rfl (by kernel_rfl) ?_
  conv => arg 2; whnf
  refine okLoop (α := Nat × List PlacedD) (fun a => match a.2 with
    | [] => ⟨[(10, .int .i64 a.1), (9, .int .i64 (l.map cPlaced).length), (8, .list 3 (l.map cPlaced)), (5, .nils), (1, .fn 142 0 [])], []⟩
    | x :: k => ⟨[(10, .int .i64 a.1), (9, .int .i64 (l.map cPlaced).length), (8, .list 3 (l.map cPlaced)), (5, .row 0), (1, .fn 142 0 [])], [.row 71 3 ((x :: k).map oPlaced)]⟩) (fun a => a.1 ≤ l.length ∧ a.2 = l.take a.1) (fun a => l.length - a.1) (0, []) ⟨Nat.zero_le _, rfl⟩ (Sv.mk' [] rfl trivial ⟨rfl, rfl, rfl, rfl, rfl, trivial⟩) ?_
  rintro ⟨i, out⟩ ⟨hi, ho⟩
  replace hi : i ≤ l.length := hi
  replace ho : out = l.take i := ho
  have ho2 : out.length = i := by rw [ho, List.length_take]; omega
  cases out with
  | nil =>
    repeat'
      (conv => arg 2; whnf)
      first
      | refine okAsk (by kernel_rfl) ?_
      | refine okBoth ?_ ?_
      | refine okBrT ?_
      | refine okBrF ?_
      | refine okBr (fun h => ?_) (fun h => ?_)
      | refine okNthMap (l := l) (by simp at h; omega) (fun x (hx : l[i]? = some x) => ?_)
      | refine okFn (stClonePlaced_o x (hl.2 x (List.mem_of_getElem? hx))) rfl (Cos.refl _) ?_
      | refine okAsk (by have := (List.getElem?_eq_some_iff.1 hx).1; constructor <;> (simp only [List.length_cons, List.length_nil, maxLen] at ho2 ⊢; omega)) ?_
      | refine okWrap (w64 (by (try dsimp only); omega) (by have h9 := (List.getElem?_eq_some_iff.1 hx).1; (try dsimp only); omega)) ?_
      | refine okAgain (i + 1, [x]) (Sv.mk' [1] rfl ⟨⟨rfl, rfl⟩, trivial⟩ ⟨rfl, rfl, rfl, rfl, rfl, trivial⟩) ⟨by have := (List.getElem?_eq_some_iff.1 hx).1; show i + 1 ≤ l.length; omega, take_go hx ho⟩ (by have := (List.getElem?_eq_some_iff.1 hx).1; show l.length - (i + 1) < l.length - i; omega)
      | refine okOut ?_
      | refine okRet ?_
      | (have e := take_all ho (by simp at h; omega)
         subst e
         refine endFn0 (.inr rfl) rfl (.nilo _) rfl)
      | fail
  | cons z out =>
    repeat'
      (conv => arg 2; whnf)
      first
      | refine okAsk (by kernel_rfl) ?_
      | refine okBoth ?_ ?_
      | refine okBrT ?_
      | refine okBrF ?_
      | refine okBr (fun h => ?_) (fun h => ?_)
      | refine okNthMap (l := l) (by simp at h; omega) (fun x (hx : l[i]? = some x) => ?_)
      | refine okFn (stClonePlaced_o x (hl.2 x (List.mem_of_getElem? hx))) rfl (Cos.refl _) ?_
      | refine okAsk (by have := (List.getElem?_eq_some_iff.1 hx).1; constructor <;> (simp only [List.length_cons, List.length_nil, List.length_map, maxLen] at ho2 ⊢; omega)) ?_
      | refine okWrap (w64 (by (try dsimp only); omega) (by have h9 := (List.getElem?_eq_some_iff.1 hx).1; (try dsimp only); omega)) ?_
      | refine okAgain (i + 1, ((z :: out) ++ [(x : PlacedD)])) (Sv.mk' [2] rfl ⟨⟨rfl, by simp; rfl⟩, trivial⟩ ⟨rfl, rfl, rfl, rfl, rfl, trivial⟩) ⟨by have := (List.getElem?_eq_some_iff.1 hx).1; show i + 1 ≤ l.length; omega, take_go hx ho⟩ (by have := (List.getElem?_eq_some_iff.1 hx).1; show l.length - (i + 1) < l.length - i; omega)
      | refine okOut ?_
      | refine okRet ?_
      | (have e := take_all ho (by simp at h; omega)
         subst e
         refine endFn [0, 1000] (.inr rfl) rfl (.refl _) rfl)
      | fail
end Go.Proofs.YteaggenihhaajaaGreat

/- Clone: operations, batches, over data with colours (printed by gen_yd.py). -/
namespace Go.Proofs.YteaggenihhaajaaGreat
open Go.RowKit
set_option linter.unusedVariables false
set_option maxRecDepth 20000

def oRec (b : List UInt8) : List D := [.own 1 (b.map cByte)]
def oOp (s : OpD) : List D := [.int .i64 s.kind, .str s.topic, .str s.group, .int .i64 s.offset, .own 1 (s.records.map oRec)]
def oSigned (s : SignedD) : List D := [.int .i64 s.request.client, .int .i64 s.request.time, .int .i64 s.request.op.kind, .str s.request.op.topic, .str s.request.op.group, .int .i64 s.request.op.offset, .own 1 (s.request.op.records.map oRec), .int .i64 s.sign.key, .int .i64 s.sign.digest]
theorem oClone_o [Wd] (o : OpD) (ho : dOp.ok o) : FnP Tryz.prog 150 [.agg (cOp o)] (.agg (oOp o)) := by
  obtain ⟨k0, t0, g0, o0, r⟩ := o
  have hl : (dL dY).ok r := ho.2.2.2.2
  clear ho
  have HL : r.length ≤ 4194304 := hl.1
  refine mkS 22 [] Tryz.func150 rfl (by kernel_rfl) ?_
  conv => arg 2; whnf
  refine okLoop (α := Nat × List (List UInt8)) (fun a => match a.2 with
    | [] => ⟨[(9, .int .i64 a.1), (8, .int .i64 (r.map cRec).length), (7, .list 1 (r.map cRec)), (3, .nils), (2, .ptr 1 0), (1, .ptr 0 0)], [.cells 80 [.int .i64 k0, .str t0, .str g0, .int .i64 o0, .list 1 (r.map cRec)], .cells 80 [.int .i64 0, .str [], .str [], .int .i64 0, .nils]]⟩
    | x :: k => ⟨[(9, .int .i64 a.1), (8, .int .i64 (r.map cRec).length), (7, .list 1 (r.map cRec)), (3, .row 2), (2, .ptr 1 0), (1, .ptr 0 0)], [.cells 80 [.int .i64 k0, .str t0, .str g0, .int .i64 o0, .list 1 (r.map cRec)], .cells 80 [.int .i64 0, .str [], .str [], .int .i64 0, .nils], .row 69 1 ((x :: k).map oRec)]⟩) (fun a => a.1 ≤ r.length ∧ a.2 = r.take a.1) (fun a => r.length - a.1) (0, []) ⟨Nat.zero_le _, rfl⟩ (Sv.mk' [0, 1] rfl ⟨⟨rfl, rfl⟩, ⟨rfl, rfl⟩, trivial⟩ ⟨rfl, rfl, rfl, rfl, rfl, rfl, trivial⟩) ?_
  rintro ⟨i, out⟩ ⟨hi, ho⟩
  replace hi : i ≤ r.length := hi
  replace ho : out = r.take i := ho
  have ho2 : out.length = i := by rw [ho, List.length_take]; omega
  cases out with
  | nil =>
    repeat'
      (conv => arg 2; whnf)
      first
      | refine okAsk (by kernel_rfl) ?_
      | refine okBoth ?_ ?_
      | refine okBrT ?_
      | refine okBrF ?_
      | refine okBr (fun h => ?_) (fun h => ?_)
      | refine okNthMap (l := r) (by simp at h; omega) (fun x (hx : r[i]? = some x) => ?_)
      | refine okFn (bClone_o x (hl.2 x (List.mem_of_getElem? hx))) rfl (Cos.refl _) ?_
      | refine okAsk (by have := (List.getElem?_eq_some_iff.1 hx).1; constructor <;> (simp only [List.length_cons, List.length_nil, maxLen] at ho2 ⊢; omega)) ?_
      | refine okWrap (w64 (by (try dsimp only); omega) (by have h9 := (List.getElem?_eq_some_iff.1 hx).1; (try dsimp only); omega)) ?_
      | refine okAgain (i + 1, ([x] : List ((List UInt8)))) (Sv.mk' [0, 1, 2] rfl ⟨⟨rfl, rfl⟩, ⟨rfl, rfl⟩, ⟨rfl, rfl⟩, trivial⟩ ⟨rfl, rfl, rfl, rfl, rfl, rfl, trivial⟩) ⟨by have := (List.getElem?_eq_some_iff.1 hx).1; show i + 1 ≤ r.length; omega, take_go hx ho⟩ (by have := (List.getElem?_eq_some_iff.1 hx).1; show r.length - (i + 1) < r.length - i; omega)
      | refine okOut ?_
      | refine okRet ?_
      | (have e := take_all ho (by simp at h; omega)
         subst e
         refine endFn0 (.inr rfl) rfl (Cos.mkAgg (by repeat' first | exact Cos.nil | refine Cos.cons (.refl _) ?_ | refine Cos.cons (.nilo _) ?_)) rfl)
      | fail
  | cons z out =>
    repeat'
      (conv => arg 2; whnf)
      first
      | refine okAsk (by kernel_rfl) ?_
      | refine okBoth ?_ ?_
      | refine okBrT ?_
      | refine okBrF ?_
      | refine okBr (fun h => ?_) (fun h => ?_)
      | refine okNthMap (l := r) (by simp at h; omega) (fun x (hx : r[i]? = some x) => ?_)
      | refine okFn (bClone_o x (hl.2 x (List.mem_of_getElem? hx))) rfl (Cos.refl _) ?_
      | refine okAsk (by have := (List.getElem?_eq_some_iff.1 hx).1; constructor <;> (simp only [List.length_cons, List.length_nil, List.length_map, maxLen] at ho2 ⊢; omega)) ?_
      | refine okWrap (w64 (by (try dsimp only); omega) (by have h9 := (List.getElem?_eq_some_iff.1 hx).1; (try dsimp only); omega)) ?_
      | refine okAgain (i + 1, ((z :: out) ++ [(x : (List UInt8))])) (Sv.mk' [0, 1, 3] rfl ⟨⟨rfl, rfl⟩, ⟨rfl, rfl⟩, ⟨rfl, by simp; rfl⟩, trivial⟩ ⟨rfl, rfl, rfl, rfl, rfl, rfl, trivial⟩) ⟨by have := (List.getElem?_eq_some_iff.1 hx).1; show i + 1 ≤ r.length; omega, take_go hx ho⟩ (by have := (List.getElem?_eq_some_iff.1 hx).1; show r.length - (i + 1) < r.length - i; omega)
      | refine okOut ?_
      | refine okRet ?_
      | (have e := take_all ho (by simp at h; omega)
         subst e
         refine endFn [2, 1002] (.inr rfl) rfl (.refl _) rfl)
      | fail
theorem qClone_o [Wd] (l : List SignedD) (hs : (dL dSigned).ok l) : FnP Tryz.prog 56 [.list 9 (l.map cSigned)] (.own 9 (l.map oSigned)) := by
  have hl := hs
  have HL : l.length ≤ 4194304 := hl.1
  refine mkS 24 [] Tryz.func56 rfl (by kernel_rfl) ?_
  conv => arg 2; whnf
  refine okLoop (α := Nat × List SignedD) (fun a => match a.2 with
    | [] => ⟨[(8, .int .i64 a.1), (7, .int .i64 (l.map cSigned).length), (6, .list 9 (l.map cSigned)), (3, .nils), (2, .nils)], []⟩
    | x :: k => ⟨[(8, .int .i64 a.1), (7, .int .i64 (l.map cSigned).length), (6, .list 9 (l.map cSigned)), (3, .row 0), (2, .nils)], [.row 84 9 ((x :: k).map oSigned)]⟩) (fun a => a.1 ≤ l.length ∧ a.2 = l.take a.1) (fun a => l.length - a.1) (0, []) ⟨Nat.zero_le _, rfl⟩ (Sv.mk' [] rfl trivial ⟨rfl, rfl, rfl, rfl, rfl, trivial⟩) ?_
  rintro ⟨i, out⟩ ⟨hi, ho⟩
  replace hi : i ≤ l.length := hi
  replace ho : out = l.take i := ho
  have ho2 : out.length = i := by rw [ho, List.length_take]; omega
  cases out with
  | nil =>
    repeat'
      (conv => arg 2; whnf)
      first
      | refine okAsk (by kernel_rfl) ?_
      | refine okBoth ?_ ?_
      | refine okBrT ?_
      | refine okBrF ?_
      | refine okBr (fun h => ?_) (fun h => ?_)
      | refine okNthMap (l := l) (by simp at h; omega) (fun x (hx : l[i]? = some x) => ?_)
      | refine okFn (oClone_o x.request.op (hl.2 x (List.mem_of_getElem? hx)).1.2.2) rfl (Cos.refl _) ?_
      | refine okAsk (by have := (List.getElem?_eq_some_iff.1 hx).1; constructor <;> (simp only [List.length_cons, List.length_nil, maxLen] at ho2 ⊢; omega)) ?_
      | refine okWrap (w64 (by (try dsimp only); omega) (by have h9 := (List.getElem?_eq_some_iff.1 hx).1; (try dsimp only); omega)) ?_
      | refine okAgain (i + 1, ([x] : List (SignedD))) (Sv.mk' [1] rfl ⟨⟨rfl, rfl⟩, trivial⟩ ⟨rfl, rfl, rfl, rfl, rfl, trivial⟩) ⟨by have := (List.getElem?_eq_some_iff.1 hx).1; show i + 1 ≤ l.length; omega, take_go hx ho⟩ (by have := (List.getElem?_eq_some_iff.1 hx).1; show l.length - (i + 1) < l.length - i; omega)
      | refine okOut ?_
      | refine okRet ?_
      | (have e := take_all ho (by simp at h; omega)
         subst e
         refine endFn0 (.inr rfl) rfl (.nilo _) rfl)
      | fail
  | cons z out =>
    repeat'
      (conv => arg 2; whnf)
      first
      | refine okAsk (by kernel_rfl) ?_
      | refine okBoth ?_ ?_
      | refine okBrT ?_
      | refine okBrF ?_
      | refine okBr (fun h => ?_) (fun h => ?_)
      | refine okNthMap (l := l) (by simp at h; omega) (fun x (hx : l[i]? = some x) => ?_)
      | refine okFn (oClone_o x.request.op (hl.2 x (List.mem_of_getElem? hx)).1.2.2) rfl (Cos.refl _) ?_
      | refine okAsk (by have := (List.getElem?_eq_some_iff.1 hx).1; constructor <;> (simp only [List.length_cons, List.length_nil, List.length_map, maxLen] at ho2 ⊢; omega)) ?_
      | refine okWrap (w64 (by (try dsimp only); omega) (by have h9 := (List.getElem?_eq_some_iff.1 hx).1; (try dsimp only); omega)) ?_
      | refine okAgain (i + 1, ((z :: out) ++ [(x : SignedD)])) (Sv.mk' [2] rfl ⟨⟨rfl, by simp; rfl⟩, trivial⟩ ⟨rfl, rfl, rfl, rfl, rfl, trivial⟩) ⟨by have := (List.getElem?_eq_some_iff.1 hx).1; show i + 1 ≤ l.length; omega, take_go hx ho⟩ (by have := (List.getElem?_eq_some_iff.1 hx).1; show l.length - (i + 1) < l.length - i; omega)
      | refine okOut ?_
      | refine okRet ?_
      | (have e := take_all ho (by simp at h; omega)
         subst e
         refine endFn [0, 1000] (.inr rfl) rfl (.refl _) rfl)
      | fail
end Go.Proofs.YteaggenihhaajaaGreat

/- Clone: certificates, marks, blocks, slots, over data with colours (printed by gen_ye.py). -/
namespace Go.Proofs.YteaggenihhaajaaGreat
open Go.RowKit
set_option linter.unusedVariables false
set_option maxRecDepth 20000

def oCert (s : CertD) : List D := [.int .i64 s.seq, .int .i64 s.digest, .own 2 (s.signs.map cSign)]
def oMark (s : MarkD) : List D := [.int .i64 s.header.seq, .int .i64 s.header.prev, .int .i64 s.header.batch, .int .i64 s.header.root, .int .i64 s.header.state, .own 1 (s.topics.map cByte)]
def oBlock (s : BlockD) : List D := [.int .i64 s.header.seq, .int .i64 s.header.prev, .int .i64 s.header.batch, .int .i64 s.header.root, .int .i64 s.header.state, .own 9 (s.batch.map oSigned), .own 3 (s.placed.map oPlaced)]
def oSlot (s : SlotD) : List D := [.int .i64 s.seq, .bool s.has, .int .i64 s.digest, .int .i64 s.firstS.key, .int .i64 s.firstS.digest, .own 9 (s.batch.map oSigned), .own 3 (s.prepares.map cVoteOf), .own 3 (s.commits.map cVoteOf)]
theorem mCloneCert_o [Wd] (s : CertD) (hs : dCert.ok s) : FnP Tryz.prog 144 [.agg (cCert s)] (.agg (oCert s)) := by
  refine mkS 8 [] Tryz.func144 rfl (by kernel_rfl) ?_
  repeat'
    (conv => arg 2; whnf)
    first
    | refine okAsk (by kernel_rfl) ?_
    | refine okBoth ?_ ?_
    | refine okBrT ?_
    | refine okBrF ?_
    | refine okBr (fun h => ?_) (fun h => ?_)
    | refine okFn (scSign_o s.signs hs.2.2.1) rfl (Cos.refl _) ?_
    | refine endFn0 (.inr rfl) rfl (.refl _) rfl
theorem stCloneMark_o [Wd] (s : MarkD) (hs : dMark.ok s) : FnP Tryz.prog 47 [.agg (cMark s)] (.agg (oMark s)) := by
  refine mkS 8 [] Tryz.func47 rfl (by kernel_rfl) ?_
  repeat'
    (conv => arg 2; whnf)
    first
    | refine okAsk (by kernel_rfl) ?_
    | refine okBoth ?_ ?_
    | refine okBrT ?_
    | refine okBrF ?_
    | refine okBr (fun h => ?_) (fun h => ?_)
    | refine okFn (bClone_o s.topics hs.2) rfl (Cos.refl _) ?_
    | refine endFn0 (.inr rfl) rfl (.refl _) rfl
theorem stCloneBlock_o [Wd] (s : BlockD) (hs : dBlock.ok s) : FnP Tryz.prog 41 [.agg (cBlock s)] (.agg (oBlock s)) := by
  refine mkT 12 [(1, ⟨(.one 0 false (.one 3 false (.alt 1 (.alt 2 (.one 4 true (.one 6 false (.one 5 true (.one 7 true (.one 8 false (.one 9 true .done)))))) (.one 4 true (.one 2 true (.one 6 false (.one 5 true (.one 7 true (.one 8 false (.one 9 true .done)))))))) (.one 4 true (.one 1 true (.one 2 true (.one 6 false (.one 5 true (.one 7 true (.one 8 false (.one 9 true .done))))))))))), [0]⟩)] Tryz.func41 rfl (by kernel_rfl) ?_
  repeat'
    (conv => arg 2; whnf)
    first
    | refine okAsk (by kernel_rfl) ?_
    | refine okBoth ?_ ?_
    | refine okBrT ?_
    | refine okBrF ?_
    | refine okBr (fun h => ?_) (fun h => ?_)
    | refine okFn (qClone_o s.batch hs.2.1) rfl (Cos.refl _) ?_
    | refine okFn (eachPlaced_o s.placed hs.2.2) rfl (Cos.refl _) ?_
    | refine endFn0 (.inr rfl) rfl (.refl _) rfl
theorem stCloneSlot_o [Wd] (s : SlotD) (hs : dSlot.ok s) : FnP Tryz.prog 49 [.agg (cSlot s)] (.agg (oSlot s)) := by
  refine mkT 16 [(1, ⟨(.one 0 false (.one 3 false (.one 6 false (.alt 1 (.alt 2 (.alt 4 (.alt 5 (.one 7 true (.one 9 false (.one 8 true (.one 10 true (.one 11 false (.one 12 true (.one 13 false (.one 14 true .done)))))))) (.one 7 true (.one 9 false (.one 5 true (.one 8 true (.one 10 true (.one 11 false (.one 12 true (.one 13 false (.one 14 true .done)))))))))) (.one 7 true (.one 4 true (.one 9 false (.one 5 true (.one 8 true (.one 10 true (.one 11 false (.one 12 true (.one 13 false (.one 14 true .done))))))))))) (.alt 4 (.alt 2 (.alt 5 (.one 7 true (.one 9 false (.one 8 true (.one 10 true (.one 11 false (.one 12 true (.one 13 false (.one 14 true .done)))))))) (.one 7 true (.one 9 false (.one 5 true (.one 8 true (.one 10 true (.one 11 false (.one 12 true (.one 13 false (.one 14 true .done)))))))))) (.one 7 true (.one 2 true (.one 9 false (.one 5 true (.one 8 true (.one 10 true (.one 11 false (.one 12 true (.one 13 false (.one 14 true .done))))))))))) (.one 7 true (.alt 2 (.one 4 true (.one 9 false (.one 5 true (.one 8 true (.one 10 true (.one 11 false (.one 12 true (.one 13 false (.one 14 true .done))))))))) (.one 4 true (.one 2 true (.one 9 false (.one 5 true (.one 8 true (.one 10 true (.one 11 false (.one 12 true (.one 13 false (.one 14 true .done)))))))))))))) (.alt 4 (.alt 1 (.alt 2 (.alt 5 (.one 7 true (.one 9 false (.one 8 true (.one 10 true (.one 11 false (.one 12 true (.one 13 false (.one 14 true .done)))))))) (.one 7 true (.one 9 false (.one 5 true (.one 8 true (.one 10 true (.one 11 false (.one 12 true (.one 13 false (.one 14 true .done)))))))))) (.one 7 true (.one 2 true (.one 9 false (.one 5 true (.one 8 true (.one 10 true (.one 11 false (.one 12 true (.one 13 false (.one 14 true .done))))))))))) (.one 7 true (.one 1 true (.one 2 true (.one 9 false (.one 5 true (.one 8 true (.one 10 true (.one 11 false (.one 12 true (.one 13 false (.one 14 true .done)))))))))))) (.one 7 true (.alt 1 (.alt 2 (.one 4 true (.one 9 false (.one 5 true (.one 8 true (.one 10 true (.one 11 false (.one 12 true (.one 13 false (.one 14 true .done))))))))) (.one 4 true (.one 2 true (.one 9 false (.one 5 true (.one 8 true (.one 10 true (.one 11 false (.one 12 true (.one 13 false (.one 14 true .done))))))))))) (.one 4 true (.one 1 true (.one 2 true (.one 9 false (.one 5 true (.one 8 true (.one 10 true (.one 11 false (.one 12 true (.one 13 false (.one 14 true .done)))))))))))))))))), [0]⟩)] Tryz.func49 rfl (by kernel_rfl) ?_
  repeat'
    (conv => arg 2; whnf)
    first
    | refine okAsk (by kernel_rfl) ?_
    | refine okBoth ?_ ?_
    | refine okBrT ?_
    | refine okBrF ?_
    | refine okBr (fun h => ?_) (fun h => ?_)
    | refine okFn (qClone_o s.batch hs.2.2.2.2.1) rfl (Cos.refl _) ?_
    | refine okFn (scVoteOf_o s.prepares hs.2.2.2.2.2.1.1) rfl (Cos.refl _) ?_
    | refine okFn (scVoteOf_o s.commits hs.2.2.2.2.2.2.1) rfl (Cos.refl _) ?_
    | refine endFn0 (.inr rfl) rfl (.refl _) rfl
theorem eachMark_o [Wd] (l : List MarkD) (hl : (dL dMark).ok l) : FnP Tryz.prog 46 [.list 6 (l.map cMark), .fn 47 0 []] (.own 6 (l.map oMark)) := by
  have HL : l.length ≤ 4194304 := hl.1
  refine mkS 22 [] Tryz.func46 rfl (by kernel_rfl) ?_
  conv => arg 2; whnf
  refine okLoop (α := Nat × List MarkD) (fun a => match a.2 with
    | [] => ⟨[(10, .int .i64 a.1), (9, .int .i64 (l.map cMark).length), (8, .list 6 (l.map cMark)), (5, .nils), (1, .fn 47 0 [])], []⟩
    | x :: k => ⟨[(10, .int .i64 a.1), (9, .int .i64 (l.map cMark).length), (8, .list 6 (l.map cMark)), (5, .row 0), (1, .fn 47 0 [])], [.row 73 6 ((x :: k).map oMark)]⟩) (fun a => a.1 ≤ l.length ∧ a.2 = l.take a.1) (fun a => l.length - a.1) (0, []) ⟨Nat.zero_le _, rfl⟩ (Sv.mk' [] rfl trivial ⟨rfl, rfl, rfl, rfl, rfl, trivial⟩) ?_
  rintro ⟨i, out⟩ ⟨hi, ho⟩
  replace hi : i ≤ l.length := hi
  replace ho : out = l.take i := ho
  have ho2 : out.length = i := by rw [ho, List.length_take]; omega
  cases out with
  | nil =>
    repeat'
      (conv => arg 2; whnf)
      first
      | refine okAsk (by kernel_rfl) ?_
      | refine okBoth ?_ ?_
      | refine okBrT ?_
      | refine okBrF ?_
      | refine okBr (fun h => ?_) (fun h => ?_)
      | refine okNthMap (l := l) (by simp at h; omega) (fun x (hx : l[i]? = some x) => ?_)
      | refine okFn (stCloneMark_o x (hl.2 x (List.mem_of_getElem? hx))) rfl (Cos.refl _) ?_
      | refine okAsk (by have := (List.getElem?_eq_some_iff.1 hx).1; constructor <;> (simp only [List.length_cons, List.length_nil, maxLen] at ho2 ⊢; omega)) ?_
      | refine okWrap (w64 (by (try dsimp only); omega) (by have h9 := (List.getElem?_eq_some_iff.1 hx).1; (try dsimp only); omega)) ?_
      | refine okAgain (i + 1, [x]) (Sv.mk' [1] rfl ⟨⟨rfl, rfl⟩, trivial⟩ ⟨rfl, rfl, rfl, rfl, rfl, trivial⟩) ⟨by have := (List.getElem?_eq_some_iff.1 hx).1; show i + 1 ≤ l.length; omega, take_go hx ho⟩ (by have := (List.getElem?_eq_some_iff.1 hx).1; show l.length - (i + 1) < l.length - i; omega)
      | refine okOut ?_
      | refine okRet ?_
      | (have e := take_all ho (by simp at h; omega)
         subst e
         refine endFn0 (.inr rfl) rfl (.nilo _) rfl)
      | fail
  | cons z out =>
    repeat'
      (conv => arg 2; whnf)
      first
      | refine okAsk (by kernel_rfl) ?_
      | refine okBoth ?_ ?_
      | refine okBrT ?_
      | refine okBrF ?_
      | refine okBr (fun h => ?_) (fun h => ?_)
      | refine okNthMap (l := l) (by simp at h; omega) (fun x (hx : l[i]? = some x) => ?_)
      | refine okFn (stCloneMark_o x (hl.2 x (List.mem_of_getElem? hx))) rfl (Cos.refl _) ?_
      | refine okAsk (by have := (List.getElem?_eq_some_iff.1 hx).1; constructor <;> (simp only [List.length_cons, List.length_nil, List.length_map, maxLen] at ho2 ⊢; omega)) ?_
      | refine okWrap (w64 (by (try dsimp only); omega) (by have h9 := (List.getElem?_eq_some_iff.1 hx).1; (try dsimp only); omega)) ?_
      | refine okAgain (i + 1, ((z :: out) ++ [(x : MarkD)])) (Sv.mk' [2] rfl ⟨⟨rfl, by simp; rfl⟩, trivial⟩ ⟨rfl, rfl, rfl, rfl, rfl, trivial⟩) ⟨by have := (List.getElem?_eq_some_iff.1 hx).1; show i + 1 ≤ l.length; omega, take_go hx ho⟩ (by have := (List.getElem?_eq_some_iff.1 hx).1; show l.length - (i + 1) < l.length - i; omega)
      | refine okOut ?_
      | refine okRet ?_
      | (have e := take_all ho (by simp at h; omega)
         subst e
         refine endFn [0, 1000] (.inr rfl) rfl (.refl _) rfl)
      | fail
theorem eachBlock_o [Wd] (l : List BlockD) (hl : (dL dBlock).ok l) : FnP Tryz.prog 40 [.list 7 (l.map cBlock), .fn 41 0 []] (.own 7 (l.map oBlock)) := by
  have HL : l.length ≤ 4194304 := hl.1
  refine mkS 22 [] Tryz.func40 rfl (by kernel_rfl) ?_
  conv => arg 2; whnf
  refine okLoop (α := Nat × List BlockD) (fun a => match a.2 with
    | [] => ⟨[(10, .int .i64 a.1), (9, .int .i64 (l.map cBlock).length), (8, .list 7 (l.map cBlock)), (5, .nils), (1, .fn 41 0 [])], []⟩
    | x :: k => ⟨[(10, .int .i64 a.1), (9, .int .i64 (l.map cBlock).length), (8, .list 7 (l.map cBlock)), (5, .row 0), (1, .fn 41 0 [])], [.row 68 7 ((x :: k).map oBlock)]⟩) (fun a => a.1 ≤ l.length ∧ a.2 = l.take a.1) (fun a => l.length - a.1) (0, []) ⟨Nat.zero_le _, rfl⟩ (Sv.mk' [] rfl trivial ⟨rfl, rfl, rfl, rfl, rfl, trivial⟩) ?_
  rintro ⟨i, out⟩ ⟨hi, ho⟩
  replace hi : i ≤ l.length := hi
  replace ho : out = l.take i := ho
  have ho2 : out.length = i := by rw [ho, List.length_take]; omega
  cases out with
  | nil =>
    repeat'
      (conv => arg 2; whnf)
      first
      | refine okAsk (by kernel_rfl) ?_
      | refine okBoth ?_ ?_
      | refine okBrT ?_
      | refine okBrF ?_
      | refine okBr (fun h => ?_) (fun h => ?_)
      | refine okNthMap (l := l) (by simp at h; omega) (fun x (hx : l[i]? = some x) => ?_)
      | refine okFn (stCloneBlock_o x (hl.2 x (List.mem_of_getElem? hx))) rfl (Cos.refl _) ?_
      | refine okAsk (by have := (List.getElem?_eq_some_iff.1 hx).1; constructor <;> (simp only [List.length_cons, List.length_nil, maxLen] at ho2 ⊢; omega)) ?_
      | refine okWrap (w64 (by (try dsimp only); omega) (by have h9 := (List.getElem?_eq_some_iff.1 hx).1; (try dsimp only); omega)) ?_
      | refine okAgain (i + 1, [x]) (Sv.mk' [1] rfl ⟨⟨rfl, rfl⟩, trivial⟩ ⟨rfl, rfl, rfl, rfl, rfl, trivial⟩) ⟨by have := (List.getElem?_eq_some_iff.1 hx).1; show i + 1 ≤ l.length; omega, take_go hx ho⟩ (by have := (List.getElem?_eq_some_iff.1 hx).1; show l.length - (i + 1) < l.length - i; omega)
      | refine okOut ?_
      | refine okRet ?_
      | (have e := take_all ho (by simp at h; omega)
         subst e
         refine endFn0 (.inr rfl) rfl (.nilo _) rfl)
      | fail
  | cons z out =>
    repeat'
      (conv => arg 2; whnf)
      first
      | refine okAsk (by kernel_rfl) ?_
      | refine okBoth ?_ ?_
      | refine okBrT ?_
      | refine okBrF ?_
      | refine okBr (fun h => ?_) (fun h => ?_)
      | refine okNthMap (l := l) (by simp at h; omega) (fun x (hx : l[i]? = some x) => ?_)
      | refine okFn (stCloneBlock_o x (hl.2 x (List.mem_of_getElem? hx))) rfl (Cos.refl _) ?_
      | refine okAsk (by have := (List.getElem?_eq_some_iff.1 hx).1; constructor <;> (simp only [List.length_cons, List.length_nil, List.length_map, maxLen] at ho2 ⊢; omega)) ?_
      | refine okWrap (w64 (by (try dsimp only); omega) (by have h9 := (List.getElem?_eq_some_iff.1 hx).1; (try dsimp only); omega)) ?_
      | refine okAgain (i + 1, ((z :: out) ++ [(x : BlockD)])) (Sv.mk' [2] rfl ⟨⟨rfl, by simp; rfl⟩, trivial⟩ ⟨rfl, rfl, rfl, rfl, rfl, trivial⟩) ⟨by have := (List.getElem?_eq_some_iff.1 hx).1; show i + 1 ≤ l.length; omega, take_go hx ho⟩ (by have := (List.getElem?_eq_some_iff.1 hx).1; show l.length - (i + 1) < l.length - i; omega)
      | refine okOut ?_
      | refine okRet ?_
      | (have e := take_all ho (by simp at h; omega)
         subst e
         refine endFn [0, 1000] (.inr rfl) rfl (.refl _) rfl)
      | fail
theorem eachSlot_o [Wd] (l : List SlotD) (hl : (dL dSlot).ok l) : FnP Tryz.prog 48 [.list 8 (l.map cSlot), .fn 49 0 []] (.own 8 (l.map oSlot)) := by
  have HL : l.length ≤ 4194304 := hl.1
  refine mkS 22 [] Tryz.func48 rfl (by kernel_rfl) ?_
  conv => arg 2; whnf
  refine okLoop (α := Nat × List SlotD) (fun a => match a.2 with
    | [] => ⟨[(10, .int .i64 a.1), (9, .int .i64 (l.map cSlot).length), (8, .list 8 (l.map cSlot)), (5, .nils), (1, .fn 49 0 [])], []⟩
    | x :: k => ⟨[(10, .int .i64 a.1), (9, .int .i64 (l.map cSlot).length), (8, .list 8 (l.map cSlot)), (5, .row 0), (1, .fn 49 0 [])], [.row 63 8 ((x :: k).map oSlot)]⟩) (fun a => a.1 ≤ l.length ∧ a.2 = l.take a.1) (fun a => l.length - a.1) (0, []) ⟨Nat.zero_le _, rfl⟩ (Sv.mk' [] rfl trivial ⟨rfl, rfl, rfl, rfl, rfl, trivial⟩) ?_
  rintro ⟨i, out⟩ ⟨hi, ho⟩
  replace hi : i ≤ l.length := hi
  replace ho : out = l.take i := ho
  have ho2 : out.length = i := by rw [ho, List.length_take]; omega
  cases out with
  | nil =>
    repeat'
      (conv => arg 2; whnf)
      first
      | refine okAsk (by kernel_rfl) ?_
      | refine okBoth ?_ ?_
      | refine okBrT ?_
      | refine okBrF ?_
      | refine okBr (fun h => ?_) (fun h => ?_)
      | refine okNthMap (l := l) (by simp at h; omega) (fun x (hx : l[i]? = some x) => ?_)
      | refine okFn (stCloneSlot_o x (hl.2 x (List.mem_of_getElem? hx))) rfl (Cos.refl _) ?_
      | refine okAsk (by have := (List.getElem?_eq_some_iff.1 hx).1; constructor <;> (simp only [List.length_cons, List.length_nil, maxLen] at ho2 ⊢; omega)) ?_
      | refine okWrap (w64 (by (try dsimp only); omega) (by have h9 := (List.getElem?_eq_some_iff.1 hx).1; (try dsimp only); omega)) ?_
      | refine okAgain (i + 1, [x]) (Sv.mk' [1] rfl ⟨⟨rfl, rfl⟩, trivial⟩ ⟨rfl, rfl, rfl, rfl, rfl, trivial⟩) ⟨by have := (List.getElem?_eq_some_iff.1 hx).1; show i + 1 ≤ l.length; omega, take_go hx ho⟩ (by have := (List.getElem?_eq_some_iff.1 hx).1; show l.length - (i + 1) < l.length - i; omega)
      | refine okOut ?_
      | refine okRet ?_
      | (have e := take_all ho (by simp at h; omega)
         subst e
         refine endFn0 (.inr rfl) rfl (.nilo _) rfl)
      | fail
  | cons z out =>
    repeat'
      (conv => arg 2; whnf)
      first
      | refine okAsk (by kernel_rfl) ?_
      | refine okBoth ?_ ?_
      | refine okBrT ?_
      | refine okBrF ?_
      | refine okBr (fun h => ?_) (fun h => ?_)
      | refine okNthMap (l := l) (by simp at h; omega) (fun x (hx : l[i]? = some x) => ?_)
      | refine okFn (stCloneSlot_o x (hl.2 x (List.mem_of_getElem? hx))) rfl (Cos.refl _) ?_
      | refine okAsk (by have := (List.getElem?_eq_some_iff.1 hx).1; constructor <;> (simp only [List.length_cons, List.length_nil, List.length_map, maxLen] at ho2 ⊢; omega)) ?_
      | refine okWrap (w64 (by (try dsimp only); omega) (by have h9 := (List.getElem?_eq_some_iff.1 hx).1; (try dsimp only); omega)) ?_
      | refine okAgain (i + 1, ((z :: out) ++ [(x : SlotD)])) (Sv.mk' [2] rfl ⟨⟨rfl, by simp; rfl⟩, trivial⟩ ⟨rfl, rfl, rfl, rfl, rfl, trivial⟩) ⟨by have := (List.getElem?_eq_some_iff.1 hx).1; show i + 1 ≤ l.length; omega, take_go hx ho⟩ (by have := (List.getElem?_eq_some_iff.1 hx).1; show l.length - (i + 1) < l.length - i; omega)
      | refine okOut ?_
      | refine okRet ?_
      | (have e := take_all ho (by simp at h; omega)
         subst e
         refine endFn [0, 1000] (.inr rfl) rfl (.refl _) rfl)
      | fail
end Go.Proofs.YteaggenihhaajaaGreat

/- Clone: lists that are turned behind their cloning: a row of one's own for answer (printed by gen_yf.py). -/
namespace Go.Proofs.YteaggenihhaajaaGreat
open Go.RowKit
set_option linter.unusedVariables false
set_option maxRecDepth 20000

theorem okCallP [Wd] {P : Program} {Q : Exit → S → Prop} {f : FuncId} {ar ar' : List D} {hs hb : List AO} {c : D → List AO → T} {Post : D → List AO → Prop} (σ : List Nat) (hF : FnS P f ar hs Post) (V : View σ hb hs) (hc : Cos ar' (D.ren.rl σ ar)) (hM : (σ.all fun o => (foot hb ar').elem o) = true) (k : ∀ r hs', Post r hs' → (c (r.ren (upS hb σ hs hs')) (upH hb σ hs hs')).ok P Q) : (T.call f ar' hb c).ok P Q :=
  ⟨_, hF.big V hc (fun o ho => by have := List.all_eq_true.1 hM o ho; simpa using this), fun r' h' ⟨r0, h0, hp, e3, e4⟩ => by subst e3 e4; exact k r0 h0 hp⟩
theorem endObjP [Wd] {P : Program} {tb : TT} {rs : List ResultVar} {e : Exit} {s : S} {h : List AO} {r : D} {h' : List AO} {ds : List D} {Post : D → List AO → Prop} (σ : List Nat) (he : e = .normal ∨ e = .ret) (hr : resD tb s rs = some ds) (hn : nodupB σ = true) (hv : vwP s.h σ σ h') (hk : keepP 0 h σ h') (hco : Co (resV ds) (r.ren σ)) (hp : Post r h') :
    (T.leaf e s).ok P (Lf tb rs h Post) :=
  ⟨he, [], ds, by rw [frz_nil]; exact hr, σ, r, _, h', by rw [frz_nil]; exact .mk' hn hv, hco, rfl, fun o t cs h1 => by have := keepP_ok hk o t cs h1; simpa using this, hp⟩
/-- a list cloned: nil, or a row of one's own -/
def RowPost (t n : Nat) (xs : List (List D)) (r : D) (h' : List AO) : Prop := (xs = [] ∧ r = .nils ∧ h' = []) ∨ (r = .row 0 ∧ h' = [.row t n xs])
theorem scChange_r [Wd] (l : List ChangeD) (hl : l.length ≤ 4194304) : FnS Tryz.prog 145 [.list 8 (l.map cChange)] [] (RowPost 77 8 (l.map cChange)) := by
  refine mkS' false 8 [] Tryz.func145 rfl (by kernel_rfl) ?_
  repeat'
    (conv => arg 2; whnf)
    first
    | refine okAsk (by kernel_rfl) ?_
    | refine okAsk (by simp [maxLen]; omega) ?_
    | refine okBoth ?_ ?_
    | refine okBrT ?_
    | refine okBrF ?_
    | refine okBr (fun h => ?_) (fun h => ?_)
    | exact endObjP (r := .nils) (h' := []) [] (.inr rfl) rfl rfl trivial trivial (.refl _) (.inl ⟨by simpa using h, rfl, rfl⟩)
    | exact endObjP (r := .row 0) (h' := [.row 77 8 (l.map cChange)]) [1] (.inr rfl) rfl rfl ⟨⟨rfl, rfl⟩, trivial⟩ trivial (.refl _) (.inr ⟨rfl, rfl⟩)
theorem scEntry_r [Wd] (l : List EntryD) (hl : l.length ≤ 4194304) : FnS Tryz.prog 146 [.list 5 (l.map cEntry)] [] (RowPost 225 5 (l.map cEntry)) := by
  refine mkS' false 8 [] Tryz.func146 rfl (by kernel_rfl) ?_
  repeat'
    (conv => arg 2; whnf)
    first
    | refine okAsk (by kernel_rfl) ?_
    | refine okAsk (by simp [maxLen]; omega) ?_
    | refine okBoth ?_ ?_
    | refine okBrT ?_
    | refine okBrF ?_
    | refine okBr (fun h => ?_) (fun h => ?_)
    | exact endObjP (r := .nils) (h' := []) [] (.inr rfl) rfl rfl trivial trivial (.refl _) (.inl ⟨by simpa using h, rfl, rfl⟩)
    | exact endObjP (r := .row 0) (h' := [.row 225 5 (l.map cEntry)]) [1] (.inr rfl) rfl rfl ⟨⟨rfl, rfl⟩, trivial⟩ trivial (.refl _) (.inr ⟨rfl, rfl⟩)
theorem scPrepared_r [Wd] (l : List PreparedD) (hl : l.length ≤ 4194304) : FnS Tryz.prog 212 [.list 7 (l.map cPrepared)] [] (RowPost 75 7 (l.map cPrepared)) := by
  refine mkS' false 8 [] Tryz.func212 rfl (by kernel_rfl) ?_
  repeat'
    (conv => arg 2; whnf)
    first
    | refine okAsk (by kernel_rfl) ?_
    | refine okAsk (by simp [maxLen]; omega) ?_
    | refine okBoth ?_ ?_
    | refine okBrT ?_
    | refine okBrF ?_
    | refine okBr (fun h => ?_) (fun h => ?_)
    | exact endObjP (r := .nils) (h' := []) [] (.inr rfl) rfl rfl trivial trivial (.refl _) (.inl ⟨by simpa using h, rfl, rfl⟩)
    | exact endObjP (r := .row 0) (h' := [.row 75 7 (l.map cPrepared)]) [1] (.inr rfl) rfl rfl ⟨⟨rfl, rfl⟩, trivial⟩ trivial (.refl _) (.inr ⟨rfl, rfl⟩)
end Go.Proofs.YteaggenihhaajaaGreat

/- message.cloneChange, message.Clone over data with colours (printed by gen_yg.py). -/
namespace Go.Proofs.YteaggenihhaajaaGreat
open Go.RowKit
set_option linter.unusedVariables false
set_option maxRecDepth 20000

theorem mix_get {α β : Type} {l : List α} {f g : α → β} {i : Nat} {x : α} (h : l[i]? = some x) : ((l.take i).map f ++ (l.drop i).map g)[i]? = some (g x) := by
  have hl := (List.getElem?_eq_some_iff.1 h).1
  rw [List.getElem?_append_right (by simp; omega)]
  simp only [List.length_map, List.length_take, Nat.min_eq_left (Nat.le_of_lt hl), Nat.sub_self, List.getElem?_map, List.getElem?_drop, Nat.add_zero, h, Option.map_some]
theorem mix_set {α β : Type} {l : List α} {f g : α → β} {i : Nat} {x : α} (h : l[i]? = some x) : ((l.take i).map f ++ (l.drop i).map g).set i (f x) = (l.take (i + 1)).map f ++ (l.drop (i + 1)).map g := by
  have hl := (List.getElem?_eq_some_iff.1 h).1
  rw [List.set_append_right _ _ (by simp; omega)]
  simp only [List.length_map, List.length_take, Nat.min_eq_left (Nat.le_of_lt hl), Nat.sub_self]
  rw [List.drop_eq_getElem_cons hl, List.map_cons, List.set_cons_zero, List.take_add_one, h]
  have : l[i] = x := (List.getElem?_eq_some_iff.1 h).2
  simp
theorem mix_set2 {α β : Type} {l : List α} {f g : α → β} {i : Nat} {x : α} {y : β} (h : l[i]? = some x) : (((l.take i).map f ++ (l.drop i).map g).set i y).set i (f x) = (l.take (i + 1)).map f ++ (l.drop (i + 1)).map g := by
  rw [List.set_set]; exact mix_set h
theorem mix_len {α β : Type} (l : List α) (f g : α → β) (i : Nat) : ((l.take i).map f ++ (l.drop i).map g).length = l.length := by
  simp only [List.length_append, List.length_map, List.length_take, List.length_drop]; omega
theorem mix_end {α β : Type} {l : List α} {f g : α → β} {i : Nat} (h0 : i ≤ l.length) (h : ¬ i < l.length) : (l.take i).map f ++ (l.drop i).map g = l.map f := by
  rw [List.take_of_length_le (by omega), List.drop_of_length_le (by omega)]; simp
section
variable [Wd] {P : Program} {Q : Exit → S → Prop}
theorem okNthMx {α : Type} {l : List α} {f g : α → List D} {i : Nat} {q : Int} {c : List D → T} {x : α} (hx : l[i]? = some x) (hq : q = (i : Int)) (h : (c (g x)).ok P Q) : (T.nth ((l.take i).map f ++ (l.drop i).map g) q c).ok P Q := by
  subst hq
  exact okNth (g x) (by omega) (by rw [Int.toNat_natCast]; exact mix_get hx) h
theorem okNthSet {xs : List (List D)} {i j : Nat} {q : Int} {c : List D → T} {y : List D} (hj : j = i) (hq : q = (i : Int)) (hi : i < xs.length) (h : (c y).ok P Q) : (T.nth (xs.set j y) q c).ok P Q := by
  subst hq hj
  exact okNth y (by omega) (by rw [Int.toNat_natCast, List.getElem?_set_self hi]) h
end
def oPrepared (s : PreparedD) : List D := [.int .i64 s.view, .int .i64 s.seq, .int .i64 s.digest, .int .i64 s.firstS.key, .int .i64 s.firstS.digest, .own 2 (s.signs.map cSign), .own 9 (s.batch.map oSigned)]
def oChange (s : ChangeD) : List D := [.int .i64 s.view, .int .i64 s.src, .int .i64 s.cert.seq, .int .i64 s.cert.digest, .own 2 (s.cert.signs.map cSign), .own 7 (s.above.map oPrepared), .int .i64 s.sign.key, .int .i64 s.sign.digest]
def oEntry (s : EntryD) : List D := [.int .i64 s.view, .int .i64 s.seq, .own 9 (s.batch.map oSigned), .int .i64 s.sign.key, .int .i64 s.sign.digest]
theorem mCloneChange_o [Wd] (s : ChangeD) (hs : dChange.ok s) : FnP Tryz.prog 147 [.agg (cChange s)] (.agg (oChange s)) := by
  obtain ⟨vw, sr, ct, l, sg⟩ := s
  have hl : (dL dPrepared).ok l := hs.2.2.2.1
  have hct : dCert.ok ct := hs.2.2.1
  clear hs
  have HL : l.length ≤ 4194304 := hl.1
  refine mkT 44 [(6, ⟨PT.of [(0, false), (1, false), (2, false), (3, false), (4, false), (5, false), (6, false), (7, false), (8, false), (9, true), (10, false), (11, false), (12, true)], [0, 1, 2, 3, 1012]⟩), (7, ⟨PT.of [(0, false), (1, false), (2, false), (3, false), (4, false), (5, false), (6, false), (7, false), (8, false), (9, true), (10, false), (11, false), (12, true)], [0, 1, 2, 3, 1012]⟩)] Tryz.func147 rfl (by kernel_rfl) ?_
  repeat'
    (conv => arg 2; whnf)
    first
    | refine okAsk (by kernel_rfl) ?_
    | refine okBoth ?_ ?_
    | refine okBrT ?_
    | refine okBrF ?_
    | refine okBr (fun h => ?_) (fun h => ?_)
    | refine okFn (mCloneCert_o ct hct) rfl (Cos.refl _) ?_
    | refine okCallP [] (scPrepared_r l hl.1) (.mk' rfl trivial) (Cos.refl _) rfl (fun r hs' hp => ?_)
  rcases hp with ⟨e, rfl, rfl⟩ | ⟨rfl, rfl⟩
  · replace e : l = [] := List.map_eq_nil_iff.1 e
    subst e
    conv => arg 2; whnf
    refine okLoop (α := Unit) (fun a => ⟨[(15, .int .i64 0), (14, .int .i64 0), (2, .ptr 1 0), (1, .ptr 0 0)], [.cells 77 [.int .i64 vw, .int .i64 sr, .int .i64 ct.seq, .int .i64 ct.digest, .own 2 (ct.signs.map cSign), .nils, .int .i64 sg.key, .int .i64 sg.digest], .cells 77 [.int .i64 0, .int .i64 0, .int .i64 0, .int .i64 0, .nils, .nils, .int .i64 0, .int .i64 0]]⟩) (fun a => True) (fun a => 0) () trivial (Sv.mk' [0, 1] rfl ⟨⟨rfl, rfl⟩, ⟨rfl, rfl⟩, trivial⟩ ⟨rfl, rfl, rfl, rfl, trivial⟩) ?_
    rintro a -
    repeat'
      (conv => arg 2; whnf)
      first
      | refine okAsk (by kernel_rfl) ?_
      | refine okBoth ?_ ?_
      | refine okBrT ?_
      | refine okBrF ?_
      | refine okBr (fun h => ?_) (fun h => ?_)
      | refine okOut ?_
      | refine endFn0 (.inr rfl) rfl (Cos.mkAgg (by repeat' first | exact Cos.nil | refine Cos.cons (.refl _) ?_ | refine Cos.cons (.nilo _) ?_)) rfl
      | fail
  · conv => arg 2; whnf
    refine okLoop (α := Nat) (fun i => ⟨[(15, .int .i64 i), (14, .int .i64 (l.map cPrepared).length), (2, .ptr 1 0), (1, .ptr 0 0)], [.cells 77 [.int .i64 vw, .int .i64 sr, .int .i64 ct.seq, .int .i64 ct.digest, .own 2 (ct.signs.map cSign), .row 2, .int .i64 sg.key, .int .i64 sg.digest], .cells 77 [.int .i64 0, .int .i64 0, .int .i64 0, .int .i64 0, .nils, .nils, .int .i64 0, .int .i64 0], .row 75 7 ((l.take i).map oPrepared ++ (l.drop i).map cPrepared)]⟩) (fun i => i ≤ l.length) (fun i => l.length - i) 0 (Nat.zero_le _) (Sv.mk' [0, 1, 2] rfl ⟨⟨rfl, rfl⟩, ⟨rfl, rfl⟩, ⟨rfl, rfl⟩, trivial⟩ ⟨rfl, rfl, rfl, rfl, trivial⟩) ?_
    intro i (hi : i ≤ l.length)
    conv => arg 2; whnf
    refine okBr (fun h => ?_) (fun h => ?_)
    · obtain ⟨x, hx⟩ : ∃ x, l[i]? = some x := ⟨_, List.getElem?_eq_getElem (by simpa using h)⟩
      have h9 := (List.getElem?_eq_some_iff.1 hx).1
      repeat'
        (conv => arg 2; whnf)
        first
        | refine okAsk (by kernel_rfl) ?_
        | refine okBoth ?_ ?_
        | refine okBrT ?_
        | refine okBrF ?_
        | refine okAsk (by simp only [List.length_set, mix_len]; omega) ?_
        | refine okNthMx hx rfl ?_
        | refine okNthSet rfl rfl (by rw [mix_len]; exact h9) ?_
        | refine okFn (scSign_o x.signs (hl.2 x (List.mem_of_getElem? hx)).2.2.2.2.1.1) rfl (Cos.refl _) ?_
        | refine okFn (qClone_o x.batch (hl.2 x (List.mem_of_getElem? hx)).2.2.2.2.2) rfl (Cos.refl _) ?_
        | refine okWrap (w64 (by (try dsimp only); omega) (by (try dsimp only); omega)) ?_
        | refine okAgain (i + 1) (Sv.mk' [0, 1, 2] rfl ⟨⟨rfl, rfl⟩, ⟨rfl, rfl⟩, ⟨rfl, congrArg (AO.row 75 7) (mix_set2 hx)⟩, trivial⟩ ⟨rfl, rfl, rfl, rfl, trivial⟩) (by show i + 1 ≤ l.length; omega) (by show l.length - (i + 1) < l.length - i; omega)
        | fail
    · rw [mix_end hi (by simpa using h)]
      repeat'
        (conv => arg 2; whnf)
        first
        | refine okAsk (by kernel_rfl) ?_
        | refine okOut ?_
        | refine endFn [2, 1002] (.inr rfl) rfl (.refl _) rfl
        | fail
def oMsg (s : MsgD) : List D := [.int .i64 s.kind, .int .i64 s.src, .int .i64 s.view, .int .i64 s.seq, .int .i64 s.digest, .int .i64 s.client, .int .i64 s.time, .int .i64 s.result.err, .int .i64 s.result.offset, .own 9 (s.batch.map oSigned), .int .i64 s.cert.seq, .int .i64 s.cert.digest, .own 2 (s.cert.signs.map cSign), .own 8 (s.changes.map oChange), .own 5 (s.entries.map oEntry), .own 1 (s.state.map cByte), .str s.topic, .int .i64 s.offset, .str s.proof.topic, .int .i64 s.proof.offset, .own 1 (s.proof.record.map cByte), .own 5 (s.proof.headers.map cHeader), .int .i64 s.proof.index, .int .i64 s.proof.count, .own 1 (s.proof.path.map cNum), .int .i64 s.proof.cert.seq, .int .i64 s.proof.cert.digest, .own 2 (s.proof.cert.signs.map cSign), .int .i64 s.sign.key, .int .i64 s.sign.digest]
def mMid (s : MsgD) (c e : D) : List D := [.int .i64 s.kind, .int .i64 s.src, .int .i64 s.view, .int .i64 s.seq, .int .i64 s.digest, .int .i64 s.client, .int .i64 s.time, .int .i64 s.result.err, .int .i64 s.result.offset, .own 9 (s.batch.map oSigned), .int .i64 s.cert.seq, .int .i64 s.cert.digest, .own 2 (s.cert.signs.map cSign), c, e, .own 1 (s.state.map cByte), .str s.topic, .int .i64 s.offset, .str s.proof.topic, .int .i64 s.proof.offset, .list 1 (s.proof.record.map cByte), .list 5 (s.proof.headers.map cHeader), .int .i64 s.proof.index, .int .i64 s.proof.count, .list 1 (s.proof.path.map cNum), .int .i64 s.proof.cert.seq, .int .i64 s.proof.cert.digest, .list 2 (s.proof.cert.signs.map cSign), .int .i64 s.sign.key, .int .i64 s.sign.digest]
def mZero : List D := [.int .i64 0, .int .i64 0, .int .i64 0, .int .i64 0, .int .i64 0, .int .i64 0, .int .i64 0, .int .i64 0, .int .i64 0, .nils, .int .i64 0, .int .i64 0, .nils, .nils, .nils, .nils, .str [], .int .i64 0, .str [], .int .i64 0, .nils, .nils, .int .i64 0, .int .i64 0, .nils, .int .i64 0, .int .i64 0, .nils, .int .i64 0, .int .i64 0]
theorem mClone_o [Wd] (s : MsgD) (hs : dMsg.ok s) : FnP Tryz.prog 55 [.agg (cMsg s)] (.agg (oMsg s)) := by
  have hb : (dL dSigned).ok s.batch := hs.2.2.2.2.2.2.2.2.1
  have hct : dCert.ok s.cert := hs.2.2.2.2.2.2.2.2.2.1
  have hch0 : (dL dChange).ok s.changes := hs.2.2.2.2.2.2.2.2.2.2.1
  have hen0 : (dL dEntry).ok s.entries := hs.2.2.2.2.2.2.2.2.2.2.2.1
  have hst : s.state.length ≤ 4194304 := hs.2.2.2.2.2.2.2.2.2.2.2.2.1
  have hpr : dProof.ok s.proof := hs.2.2.2.2.2.2.2.2.2.2.2.2.2.2.2.1
  clear hs
  have HC : s.changes.length ≤ 4194304 := hch0.1
  have HE : s.entries.length ≤ 4194304 := hen0.1
  refine mkT 86 [(1, ⟨PT.of [(0, false), (1, false), (3, false), (4, false), (6, false), (7, false), (2, true), (9, false), (5, true), (8, true), (10, true), (11, false), (12, true), (13, false), (14, true)], [0, 1, 2, 3, 1010, 1012, 1014]⟩), (2, ⟨PT.of [(0, false), (1, false), (3, false), (4, false), (2, true), (6, false), (5, true), (7, true), (8, false), (9, true)], [0, 1, 2, 3, 1007, 1009]⟩), (6, ⟨PT.of [(0, false), (1, false), (2, false), (3, false), (4, false), (5, false), (6, false), (7, false), (8, true), (9, false), (10, true)], [0, 1, 2, 3, 1010]⟩), (11, ⟨PT.of [(0, false), (1, false), (2, false), (3, false), (4, false), (5, false), (6, false), (7, false), (8, false), (9, true), (10, false), (11, false), (12, true)], [0, 1, 2, 3, 1012]⟩), (13, ⟨PT.of [(0, false), (1, false), (2, false), (4, false), (5, false), (6, false), (8, false), (9, false), (10, false), (3, true), (12, false), (13, false), (7, true), (11, true), (14, true), (15, false), (16, false), (17, true), (18, false), (19, false), (20, true)], [0, 1, 2, 3, 1014, 1017, 1020]⟩)] Tryz.func55 rfl (by kernel_rfl) ?_
  repeat'
    (conv => arg 2; whnf)
    first
    | refine okAsk (by kernel_rfl) ?_
    | refine okBoth ?_ ?_
    | refine okFn (qClone_o s.batch hb) rfl (Cos.refl _) ?_
    | refine okFn (mCloneCert_o s.cert hct) rfl (Cos.refl _) ?_
    | refine okFn (bClone_o s.state hst) rfl (Cos.refl _) ?_
    | refine okCallP [] (scChange_r s.changes hch0.1) (.mk' rfl trivial) (Cos.refl _) rfl (fun r hs' hp => ?_)
  rcases hp with ⟨hch, rfl, rfl⟩ | ⟨rfl, rfl⟩
  · skip
    repeat'
      (conv => arg 2; whnf)
      first
      | refine okAsk (by kernel_rfl) ?_
      | refine okCallP [] (scEntry_r s.entries hen0.1) (.mk' rfl trivial) (Cos.refl _) rfl (fun r hs' hp => ?_)
    rcases hp with ⟨hen, rfl, rfl⟩ | ⟨rfl, rfl⟩
    · repeat'
        (conv => arg 2; whnf)
        first
        | refine okAsk (by kernel_rfl) ?_
        | refine okBoth ?_ ?_
      conv => arg 2; whnf
      refine okLoop (α := Unit) (fun a => ⟨[(28, .int .i64 0), (27, .int .i64 0), (2, .ptr 1 0), (1, .ptr 0 0)], [.cells 122 (mMid s (.nils) (.nils)), .cells 122 mZero]⟩) (fun a => True) (fun a => 0) () trivial (Sv.mk' [0, 1] rfl ⟨⟨rfl, rfl⟩, ⟨rfl, rfl⟩, trivial⟩ ⟨rfl, rfl, rfl, rfl, trivial⟩) ?_
      rintro a -
      · skip
        repeat'
          (conv => arg 2; whnf)
          first
          | refine okAsk (by kernel_rfl) ?_
          | refine okBoth ?_ ?_
          | refine okBrT ?_
          | refine okBrF ?_
          | refine okOut ?_
        conv => arg 2; whnf
        refine okLoop (α := Unit) (fun a => ⟨[(45, .int .i64 0), (44, .int .i64 0), (2, .ptr 1 0), (1, .ptr 0 0)], [.cells 122 (mMid s (.nils) (.nils)), .cells 122 mZero]⟩) (fun a => True) (fun a => 0) () trivial (Sv.mk' [0, 1] rfl ⟨⟨rfl, rfl⟩, ⟨rfl, rfl⟩, trivial⟩ ⟨rfl, rfl, rfl, rfl, trivial⟩) ?_
        rintro a -
        · skip
          repeat'
            (conv => arg 2; whnf)
            first
            | refine okAsk (by kernel_rfl) ?_
            | refine okBoth ?_ ?_
            | refine okBrT ?_
            | refine okBrF ?_
            | refine okOut ?_
            | refine okFn (bClone_o s.proof.record hpr.2.2.1) rfl (Cos.refl _) ?_
            | refine okFn (scHeader_o s.proof.headers hpr.2.2.2.1.1) rfl (Cos.refl _) ?_
            | refine okFn (scDigest_o s.proof.path hpr.2.2.2.2.2.2.1.1) rfl (Cos.refl _) ?_
            | refine okFn (mCloneCert_o s.proof.cert hpr.2.2.2.2.2.2.2) rfl (Cos.refl _) ?_
            | refine endFn [] (.inr rfl) rfl (.refl _) rfl
            | refine endFn [] (.inr rfl) rfl (Cos.mkAgg (by unfold oMsg; rw [List.map_eq_nil_iff.1 hen]; rw [List.map_eq_nil_iff.1 hch]; repeat' first | exact Cos.nil | refine Cos.cons (.refl _) ?_ | refine Cos.cons (.nilo _) ?_)) rfl
            | fail
    · repeat'
        (conv => arg 2; whnf)
        first
        | refine okAsk (by kernel_rfl) ?_
        | refine okBoth ?_ ?_
      conv => arg 2; whnf
      refine okLoop (α := Unit) (fun a => ⟨[(28, .int .i64 0), (27, .int .i64 0), (2, .ptr 1 0), (1, .ptr 0 0)], [.cells 122 (mMid s (.nils) (.row 2)), .cells 122 mZero, .row 225 5 (s.entries.map cEntry)]⟩) (fun a => True) (fun a => 0) () trivial (Sv.mk' [0, 1, 2] rfl ⟨⟨rfl, rfl⟩, ⟨rfl, rfl⟩, ⟨rfl, rfl⟩, trivial⟩ ⟨rfl, rfl, rfl, rfl, trivial⟩) ?_
      rintro a -
      · skip
        repeat'
          (conv => arg 2; whnf)
          first
          | refine okAsk (by kernel_rfl) ?_
          | refine okBoth ?_ ?_
          | refine okBrT ?_
          | refine okBrF ?_
          | refine okOut ?_
        conv => arg 2; whnf
        refine okLoop (α := Nat) (fun i => ⟨[(45, .int .i64 i), (44, .int .i64 (s.entries.map cEntry).length), (2, .ptr 1 0), (1, .ptr 0 0)], [.cells 122 (mMid s (.nils) (.row 2)), .cells 122 mZero, .row 225 5 ((s.entries.take i).map oEntry ++ (s.entries.drop i).map cEntry)]⟩) (fun i => i ≤ s.entries.length) (fun i => s.entries.length - i) 0 (Nat.zero_le _) (Sv.mk' [0, 1, 2] rfl ⟨⟨rfl, rfl⟩, ⟨rfl, rfl⟩, ⟨rfl, rfl⟩, trivial⟩ ⟨rfl, rfl, rfl, rfl, trivial⟩) ?_
        intro i (hi : i ≤ s.entries.length)
        conv => arg 2; whnf
        refine okBr (fun h => ?_) (fun h => ?_)
        · obtain ⟨x, hx⟩ : ∃ x, s.entries[i]? = some x := ⟨_, List.getElem?_eq_getElem (by simpa using h)⟩
          have h9 := (List.getElem?_eq_some_iff.1 hx).1
          repeat'
            (conv => arg 2; whnf)
            first
            | refine okAsk (by kernel_rfl) ?_
            | refine okBoth ?_ ?_
            | refine okBrT ?_
            | refine okBrF ?_
            | refine okAsk (by simp only [mix_len]; omega) ?_
            | refine okNthMx hx rfl ?_
            | refine okNthSet rfl rfl (by rw [mix_len]; exact h9) ?_
            | refine okFn (qClone_o x.batch (hen0.2 x (List.mem_of_getElem? hx)).2.2.1) rfl (Cos.refl _) ?_
            | refine okWrap (w64 (by (try dsimp only); omega) (by (try dsimp only); omega)) ?_
            | refine okAgain (i + 1) (Sv.mk' [0, 1, 2] rfl ⟨⟨rfl, rfl⟩, ⟨rfl, rfl⟩, ⟨rfl, congrArg (AO.row 225 5) (mix_set hx)⟩, trivial⟩ ⟨rfl, rfl, rfl, rfl, trivial⟩) (by show i + 1 ≤ s.entries.length; omega) (by show s.entries.length - (i + 1) < s.entries.length - i; omega)
            | fail
        · rw [mix_end hi (by simpa using h)]
          repeat'
            (conv => arg 2; whnf)
            first
            | refine okAsk (by kernel_rfl) ?_
            | refine okBoth ?_ ?_
            | refine okBrT ?_
            | refine okBrF ?_
            | refine okOut ?_
            | refine okFn (bClone_o s.proof.record hpr.2.2.1) rfl (Cos.refl _) ?_
            | refine okFn (scHeader_o s.proof.headers hpr.2.2.2.1.1) rfl (Cos.refl _) ?_
            | refine okFn (scDigest_o s.proof.path hpr.2.2.2.2.2.2.1.1) rfl (Cos.refl _) ?_
            | refine okFn (mCloneCert_o s.proof.cert hpr.2.2.2.2.2.2.2) rfl (Cos.refl _) ?_
            | refine endFn [2, 1002] (.inr rfl) rfl (.refl _) rfl
            | refine endFn [2, 1002] (.inr rfl) rfl (Cos.mkAgg (by unfold oMsg; rw [List.map_eq_nil_iff.1 hch]; repeat' first | exact Cos.nil | refine Cos.cons (.refl _) ?_ | refine Cos.cons (.nilo _) ?_)) rfl
            | fail
  · skip
    repeat'
      (conv => arg 2; whnf)
      first
      | refine okAsk (by kernel_rfl) ?_
      | refine okCallP [] (scEntry_r s.entries hen0.1) (.mk' rfl trivial) (Cos.refl _) rfl (fun r hs' hp => ?_)
    rcases hp with ⟨hen, rfl, rfl⟩ | ⟨rfl, rfl⟩
    · repeat'
        (conv => arg 2; whnf)
        first
        | refine okAsk (by kernel_rfl) ?_
        | refine okBoth ?_ ?_
      conv => arg 2; whnf
      refine okLoop (α := Nat) (fun i => ⟨[(28, .int .i64 i), (27, .int .i64 (s.changes.map cChange).length), (2, .ptr 1 0), (1, .ptr 0 0)], [.cells 122 (mMid s (.row 2) (.nils)), .cells 122 mZero, .row 77 8 ((s.changes.take i).map oChange ++ (s.changes.drop i).map cChange)]⟩) (fun i => i ≤ s.changes.length) (fun i => s.changes.length - i) 0 (Nat.zero_le _) (Sv.mk' [0, 1, 2] rfl ⟨⟨rfl, rfl⟩, ⟨rfl, rfl⟩, ⟨rfl, rfl⟩, trivial⟩ ⟨rfl, rfl, rfl, rfl, trivial⟩) ?_
      intro i (hi : i ≤ s.changes.length)
      conv => arg 2; whnf
      refine okBr (fun h => ?_) (fun h => ?_)
      · obtain ⟨x, hx⟩ : ∃ x, s.changes[i]? = some x := ⟨_, List.getElem?_eq_getElem (by simpa using h)⟩
        have h9 := (List.getElem?_eq_some_iff.1 hx).1
        repeat'
          (conv => arg 2; whnf)
          first
          | refine okAsk (by kernel_rfl) ?_
          | refine okBoth ?_ ?_
          | refine okBrT ?_
          | refine okBrF ?_
          | refine okAsk (by simp only [mix_len]; omega) ?_
          | refine okNthMx hx rfl ?_
          | refine okNthSet rfl rfl (by rw [mix_len]; exact h9) ?_
          | refine okFn (mCloneChange_o x (hch0.2 x (List.mem_of_getElem? hx))) rfl (Cos.refl _) ?_
          | refine okWrap (w64 (by (try dsimp only); omega) (by (try dsimp only); omega)) ?_
          | refine okAgain (i + 1) (Sv.mk' [0, 1, 2] rfl ⟨⟨rfl, rfl⟩, ⟨rfl, rfl⟩, ⟨rfl, congrArg (AO.row 77 8) (mix_set hx)⟩, trivial⟩ ⟨rfl, rfl, rfl, rfl, trivial⟩) (by show i + 1 ≤ s.changes.length; omega) (by show s.changes.length - (i + 1) < s.changes.length - i; omega)
          | fail
      · rw [mix_end hi (by simpa using h)]
        repeat'
          (conv => arg 2; whnf)
          first
          | refine okAsk (by kernel_rfl) ?_
          | refine okBoth ?_ ?_
          | refine okBrT ?_
          | refine okBrF ?_
          | refine okOut ?_
        conv => arg 2; whnf
        refine okLoop (α := Unit) (fun a => ⟨[(45, .int .i64 0), (44, .int .i64 0), (2, .ptr 1 0), (1, .ptr 0 0)], [.cells 122 (mMid s (.row 2) (.nils)), .cells 122 mZero, .row 77 8 (s.changes.map oChange)]⟩) (fun a => True) (fun a => 0) () trivial (Sv.mk' [0, 1, 2] rfl ⟨⟨rfl, rfl⟩, ⟨rfl, rfl⟩, ⟨rfl, rfl⟩, trivial⟩ ⟨rfl, rfl, rfl, rfl, trivial⟩) ?_
        rintro a -
        · skip
          repeat'
            (conv => arg 2; whnf)
            first
            | refine okAsk (by kernel_rfl) ?_
            | refine okBoth ?_ ?_
            | refine okBrT ?_
            | refine okBrF ?_
            | refine okOut ?_
            | refine okFn (bClone_o s.proof.record hpr.2.2.1) rfl (Cos.refl _) ?_
            | refine okFn (scHeader_o s.proof.headers hpr.2.2.2.1.1) rfl (Cos.refl _) ?_
            | refine okFn (scDigest_o s.proof.path hpr.2.2.2.2.2.2.1.1) rfl (Cos.refl _) ?_
            | refine okFn (mCloneCert_o s.proof.cert hpr.2.2.2.2.2.2.2) rfl (Cos.refl _) ?_
            | refine endFn [2, 1002] (.inr rfl) rfl (.refl _) rfl
            | refine endFn [2, 1002] (.inr rfl) rfl (Cos.mkAgg (by unfold oMsg; rw [List.map_eq_nil_iff.1 hen]; repeat' first | exact Cos.nil | refine Cos.cons (.refl _) ?_ | refine Cos.cons (.nilo _) ?_)) rfl
            | fail
    · repeat'
        (conv => arg 2; whnf)
        first
        | refine okAsk (by kernel_rfl) ?_
        | refine okBoth ?_ ?_
      conv => arg 2; whnf
      refine okLoop (α := Nat) (fun i => ⟨[(28, .int .i64 i), (27, .int .i64 (s.changes.map cChange).length), (2, .ptr 1 0), (1, .ptr 0 0)], [.cells 122 (mMid s (.row 2) (.row 3)), .cells 122 mZero, .row 77 8 ((s.changes.take i).map oChange ++ (s.changes.drop i).map cChange), .row 225 5 (s.entries.map cEntry)]⟩) (fun i => i ≤ s.changes.length) (fun i => s.changes.length - i) 0 (Nat.zero_le _) (Sv.mk' [0, 1, 2, 3] rfl ⟨⟨rfl, rfl⟩, ⟨rfl, rfl⟩, ⟨rfl, rfl⟩, ⟨rfl, rfl⟩, trivial⟩ ⟨rfl, rfl, rfl, rfl, trivial⟩) ?_
      intro i (hi : i ≤ s.changes.length)
      conv => arg 2; whnf
      refine okBr (fun h => ?_) (fun h => ?_)
      · obtain ⟨x, hx⟩ : ∃ x, s.changes[i]? = some x := ⟨_, List.getElem?_eq_getElem (by simpa using h)⟩
        have h9 := (List.getElem?_eq_some_iff.1 hx).1
        repeat'
          (conv => arg 2; whnf)
          first
          | refine okAsk (by kernel_rfl) ?_
          | refine okBoth ?_ ?_
          | refine okBrT ?_
          | refine okBrF ?_
          | refine okAsk (by simp only [mix_len]; omega) ?_
          | refine okNthMx hx rfl ?_
          | refine okNthSet rfl rfl (by rw [mix_len]; exact h9) ?_
          | refine okFn (mCloneChange_o x (hch0.2 x (List.mem_of_getElem? hx))) rfl (Cos.refl _) ?_
          | refine okWrap (w64 (by (try dsimp only); omega) (by (try dsimp only); omega)) ?_
          | refine okAgain (i + 1) (Sv.mk' [0, 1, 2, 3] rfl ⟨⟨rfl, rfl⟩, ⟨rfl, rfl⟩, ⟨rfl, congrArg (AO.row 77 8) (mix_set hx)⟩, ⟨rfl, rfl⟩, trivial⟩ ⟨rfl, rfl, rfl, rfl, trivial⟩) (by show i + 1 ≤ s.changes.length; omega) (by show s.changes.length - (i + 1) < s.changes.length - i; omega)
          | fail
      · rw [mix_end hi (by simpa using h)]
        repeat'
          (conv => arg 2; whnf)
          first
          | refine okAsk (by kernel_rfl) ?_
          | refine okBoth ?_ ?_
          | refine okBrT ?_
          | refine okBrF ?_
          | refine okOut ?_
        conv => arg 2; whnf
        refine okLoop (α := Nat) (fun i => ⟨[(45, .int .i64 i), (44, .int .i64 (s.entries.map cEntry).length), (2, .ptr 1 0), (1, .ptr 0 0)], [.cells 122 (mMid s (.row 2) (.row 3)), .cells 122 mZero, .row 77 8 (s.changes.map oChange), .row 225 5 ((s.entries.take i).map oEntry ++ (s.entries.drop i).map cEntry)]⟩) (fun i => i ≤ s.entries.length) (fun i => s.entries.length - i) 0 (Nat.zero_le _) (Sv.mk' [0, 1, 2, 3] rfl ⟨⟨rfl, rfl⟩, ⟨rfl, rfl⟩, ⟨rfl, rfl⟩, ⟨rfl, rfl⟩, trivial⟩ ⟨rfl, rfl, rfl, rfl, trivial⟩) ?_
        intro i (hi : i ≤ s.entries.length)
        conv => arg 2; whnf
        refine okBr (fun h => ?_) (fun h => ?_)
        · obtain ⟨x, hx⟩ : ∃ x, s.entries[i]? = some x := ⟨_, List.getElem?_eq_getElem (by simpa using h)⟩
          have h9 := (List.getElem?_eq_some_iff.1 hx).1
          repeat'
            (conv => arg 2; whnf)
            first
            | refine okAsk (by kernel_rfl) ?_
            | refine okBoth ?_ ?_
            | refine okBrT ?_
            | refine okBrF ?_
            | refine okAsk (by simp only [mix_len]; omega) ?_
            | refine okNthMx hx rfl ?_
            | refine okNthSet rfl rfl (by rw [mix_len]; exact h9) ?_
            | refine okFn (qClone_o x.batch (hen0.2 x (List.mem_of_getElem? hx)).2.2.1) rfl (Cos.refl _) ?_
            | refine okWrap (w64 (by (try dsimp only); omega) (by (try dsimp only); omega)) ?_
            | refine okAgain (i + 1) (Sv.mk' [0, 1, 2, 3] rfl ⟨⟨rfl, rfl⟩, ⟨rfl, rfl⟩, ⟨rfl, rfl⟩, ⟨rfl, congrArg (AO.row 225 5) (mix_set hx)⟩, trivial⟩ ⟨rfl, rfl, rfl, rfl, trivial⟩) (by show i + 1 ≤ s.entries.length; omega) (by show s.entries.length - (i + 1) < s.entries.length - i; omega)
            | fail
        · rw [mix_end hi (by simpa using h)]
          repeat'
            (conv => arg 2; whnf)
            first
            | refine okAsk (by kernel_rfl) ?_
            | refine okBoth ?_ ?_
            | refine okBrT ?_
            | refine okBrF ?_
            | refine okOut ?_
            | refine okFn (bClone_o s.proof.record hpr.2.2.1) rfl (Cos.refl _) ?_
            | refine okFn (scHeader_o s.proof.headers hpr.2.2.2.1.1) rfl (Cos.refl _) ?_
            | refine okFn (scDigest_o s.proof.path hpr.2.2.2.2.2.2.1.1) rfl (Cos.refl _) ?_
            | refine okFn (mCloneCert_o s.proof.cert hpr.2.2.2.2.2.2.2) rfl (Cos.refl _) ?_
            | refine endFn [2, 1002, 3, 1003] (.inr rfl) rfl (.refl _) rfl
            | refine endFn [2, 1002, 3, 1003] (.inr rfl) rfl (Cos.mkAgg (by unfold oMsg; repeat' first | exact Cos.nil | refine Cos.cons (.refl _) ?_ | refine Cos.cons (.nilo _) ?_)) rfl
            | fail
end Go.Proofs.YteaggenihhaajaaGreat

/- state.cloneCert .. state.Clone over data with colours (printed by gen_yh.py). -/
namespace Go.Proofs.YteaggenihhaajaaGreat
open Go.RowKit
set_option linter.unusedVariables false
set_option maxRecDepth 20000

theorem ok_one {α : Type} {A : Dt α} {a : α} (h : A.ok a) : (dL A).ok [a] := ⟨by simp, fun x hx => by rw [List.mem_singleton.1 hx]; exact h⟩
theorem stCloneCert_o [Wd] (a : CertD) (ha : dCert.ok a) : FnP Tryz.prog 43 [.agg (cCert a)] (.agg (oCert a)) := by
  refine mkS 7 [] Tryz.func43 rfl (by kernel_rfl) ?_
  repeat'
    (conv => arg 2; whnf)
    first
    | refine okAsk (by kernel_rfl) ?_
    | refine okBoth ?_ ?_
    | refine okBrT ?_
    | refine okBrF ?_
    | refine okBr (fun h => ?_) (fun h => ?_)
    | refine okFn (mClone_o (mC a) (okm_Cert ha)) rfl (Cos.cons (Cos.mkAgg (by repeat' first | exact Cos.nil | refine Cos.cons (.refl _) ?_ | refine Cos.cons (.nil _) ?_)) .nil) ?_
    | refine okNth (oCert a) (by decide) rfl ?_
    | refine endFn0 (.inr rfl) rfl (.refl _) rfl
theorem stCloneChange_o [Wd] (a : ChangeD) (ha : dChange.ok a) : FnP Tryz.prog 53 [.agg (cChange a)] (.agg (oChange a)) := by
  refine mkS 10 [] Tryz.func53 rfl (by kernel_rfl) ?_
  repeat'
    (conv => arg 2; whnf)
    first
    | refine okAsk (by kernel_rfl) ?_
    | refine okBoth ?_ ?_
    | refine okBrT ?_
    | refine okBrF ?_
    | refine okBr (fun h => ?_) (fun h => ?_)
    | refine okFn (mClone_o (mN [a]) (okm_Changes (ok_one ha))) rfl (Cos.cons (Cos.mkAgg (by repeat' first | exact Cos.nil | refine Cos.cons (.refl _) ?_ | refine Cos.cons (.nil _) ?_)) .nil) ?_
    | refine okNth (oChange a) (by decide) rfl ?_
    | refine endFn0 (.inr rfl) rfl (.refl _) rfl
theorem stClonePrepared_o [Wd] (a : PreparedD) (ha : dPrepared.ok a) : FnP Tryz.prog 51 [.agg (cPrepared a)] (.agg (oPrepared a)) := by
  refine mkS 10 [] Tryz.func51 rfl (by kernel_rfl) ?_
  repeat'
    (conv => arg 2; whnf)
    first
    | refine okAsk (by kernel_rfl) ?_
    | refine okBoth ?_ ?_
    | refine okBrT ?_
    | refine okBrF ?_
    | refine okBr (fun h => ?_) (fun h => ?_)
    | refine okFn (stCloneChange_o (zChg1 a) ((okc_Prep ha).2 _ (by simp))) rfl (Cos.cons (Cos.mkAgg (by repeat' first | exact Cos.nil | refine Cos.cons (.refl _) ?_ | refine Cos.cons (.nil _) ?_)) .nil) ?_
    | refine okNth (oPrepared a) (by decide) rfl ?_
    | refine endFn0 (.inr rfl) rfl (.refl _) rfl
theorem eachCert_o [Wd] (l : List CertD) (hl : (dL dCert).ok l) : FnP Tryz.prog 45 [.list 3 (l.map cCert), .fn 43 0 []] (.own 3 (l.map oCert)) := by
  have HL : l.length ≤ 4194304 := hl.1
  refine mkS 22 [] Tryz.func45 rfl (by kernel_rfl) ?_
  conv => arg 2; whnf
  refine okLoop (α := Nat × List CertD) (fun a => match a.2 with
    | [] => ⟨[(10, .int .i64 a.1), (9, .int .i64 (l.map cCert).length), (8, .list 3 (l.map cCert)), (5, .nils), (1, .fn 43 0 [])], []⟩
    | x :: k => ⟨[(10, .int .i64 a.1), (9, .int .i64 (l.map cCert).length), (8, .list 3 (l.map cCert)), (5, .row 0), (1, .fn 43 0 [])], [.row 29 3 ((x :: k).map oCert)]⟩) (fun a => a.1 ≤ l.length ∧ a.2 = l.take a.1) (fun a => l.length - a.1) (0, []) ⟨Nat.zero_le _, rfl⟩ (Sv.mk' [] rfl trivial ⟨rfl, rfl, rfl, rfl, rfl, trivial⟩) ?_
  rintro ⟨i, out⟩ ⟨hi, ho⟩
  replace hi : i ≤ l.length := hi
  replace ho : out = l.take i := ho
  have ho2 : out.length = i := by rw [ho, List.length_take]; omega
  cases out with
  | nil =>
    repeat'
      (conv => arg 2; whnf)
      first
      | refine okAsk (by kernel_rfl) ?_
      | refine okBoth ?_ ?_
      | refine okBrT ?_
      | refine okBrF ?_
      | refine okBr (fun h => ?_) (fun h => ?_)
      | refine okNthMap (l := l) (by simp at h; omega) (fun x (hx : l[i]? = some x) => ?_)
      | refine okFn (stCloneCert_o x (hl.2 x (List.mem_of_getElem? hx))) rfl (Cos.refl _) ?_
      | refine okAsk (by have := (List.getElem?_eq_some_iff.1 hx).1; constructor <;> (simp only [List.length_cons, List.length_nil, maxLen] at ho2 ⊢; omega)) ?_
      | refine okWrap (w64 (by (try dsimp only); omega) (by have h9 := (List.getElem?_eq_some_iff.1 hx).1; (try dsimp only); omega)) ?_
      | refine okAgain (i + 1, [x]) (Sv.mk' [1] rfl ⟨⟨rfl, rfl⟩, trivial⟩ ⟨rfl, rfl, rfl, rfl, rfl, trivial⟩) ⟨by have := (List.getElem?_eq_some_iff.1 hx).1; show i + 1 ≤ l.length; omega, take_go hx ho⟩ (by have := (List.getElem?_eq_some_iff.1 hx).1; show l.length - (i + 1) < l.length - i; omega)
      | refine okOut ?_
      | refine okRet ?_
      | (have e := take_all ho (by simp at h; omega)
         subst e
         refine endFn0 (.inr rfl) rfl (.nilo _) rfl)
      | fail
  | cons z out =>
    repeat'
      (conv => arg 2; whnf)
      first
      | refine okAsk (by kernel_rfl) ?_
      | refine okBoth ?_ ?_
      | refine okBrT ?_
      | refine okBrF ?_
      | refine okBr (fun h => ?_) (fun h => ?_)
      | refine okNthMap (l := l) (by simp at h; omega) (fun x (hx : l[i]? = some x) => ?_)
      | refine okFn (stCloneCert_o x (hl.2 x (List.mem_of_getElem? hx))) rfl (Cos.refl _) ?_
      | refine okAsk (by have := (List.getElem?_eq_some_iff.1 hx).1; constructor <;> (simp only [List.length_cons, List.length_nil, List.length_map, maxLen] at ho2 ⊢; omega)) ?_
      | refine okWrap (w64 (by (try dsimp only); omega) (by have h9 := (List.getElem?_eq_some_iff.1 hx).1; (try dsimp only); omega)) ?_
      | refine okAgain (i + 1, ((z :: out) ++ [(x : CertD)])) (Sv.mk' [2] rfl ⟨⟨rfl, by simp; rfl⟩, trivial⟩ ⟨rfl, rfl, rfl, rfl, rfl, trivial⟩) ⟨by have := (List.getElem?_eq_some_iff.1 hx).1; show i + 1 ≤ l.length; omega, take_go hx ho⟩ (by have := (List.getElem?_eq_some_iff.1 hx).1; show l.length - (i + 1) < l.length - i; omega)
      | refine okOut ?_
      | refine okRet ?_
      | (have e := take_all ho (by simp at h; omega)
         subst e
         refine endFn [0, 1000] (.inr rfl) rfl (.refl _) rfl)
      | fail
theorem eachPrepared_o [Wd] (l : List PreparedD) (hl : (dL dPrepared).ok l) : FnP Tryz.prog 50 [.list 7 (l.map cPrepared), .fn 51 0 []] (.own 7 (l.map oPrepared)) := by
  have HL : l.length ≤ 4194304 := hl.1
  refine mkS 22 [] Tryz.func50 rfl (by kernel_rfl) ?_
  conv => arg 2; whnf
  refine okLoop (α := Nat × List PreparedD) (fun a => match a.2 with
    | [] => ⟨[(10, .int .i64 a.1), (9, .int .i64 (l.map cPrepared).length), (8, .list 7 (l.map cPrepared)), (5, .nils), (1, .fn 51 0 [])], []⟩
    | x :: k => ⟨[(10, .int .i64 a.1), (9, .int .i64 (l.map cPrepared).length), (8, .list 7 (l.map cPrepared)), (5, .row 0), (1, .fn 51 0 [])], [.row 75 7 ((x :: k).map oPrepared)]⟩) (fun a => a.1 ≤ l.length ∧ a.2 = l.take a.1) (fun a => l.length - a.1) (0, []) ⟨Nat.zero_le _, rfl⟩ (Sv.mk' [] rfl trivial ⟨rfl, rfl, rfl, rfl, rfl, trivial⟩) ?_
  rintro ⟨i, out⟩ ⟨hi, ho⟩
  replace hi : i ≤ l.length := hi
  replace ho : out = l.take i := ho
  have ho2 : out.length = i := by rw [ho, List.length_take]; omega
  cases out with
  | nil =>
    repeat'
      (conv => arg 2; whnf)
      first
      | refine okAsk (by kernel_rfl) ?_
      | refine okBoth ?_ ?_
      | refine okBrT ?_
      | refine okBrF ?_
      | refine okBr (fun h => ?_) (fun h => ?_)
      | refine okNthMap (l := l) (by simp at h; omega) (fun x (hx : l[i]? = some x) => ?_)
      | refine okFn (stClonePrepared_o x (hl.2 x (List.mem_of_getElem? hx))) rfl (Cos.refl _) ?_
      | refine okAsk (by have := (List.getElem?_eq_some_iff.1 hx).1; constructor <;> (simp only [List.length_cons, List.length_nil, maxLen] at ho2 ⊢; omega)) ?_
      | refine okWrap (w64 (by (try dsimp only); omega) (by have h9 := (List.getElem?_eq_some_iff.1 hx).1; (try dsimp only); omega)) ?_
      | refine okAgain (i + 1, [x]) (Sv.mk' [1] rfl ⟨⟨rfl, rfl⟩, trivial⟩ ⟨rfl, rfl, rfl, rfl, rfl, trivial⟩) ⟨by have := (List.getElem?_eq_some_iff.1 hx).1; show i + 1 ≤ l.length; omega, take_go hx ho⟩ (by have := (List.getElem?_eq_some_iff.1 hx).1; show l.length - (i + 1) < l.length - i; omega)
      | refine okOut ?_
      | refine okRet ?_
      | (have e := take_all ho (by simp at h; omega)
         subst e
         refine endFn0 (.inr rfl) rfl (.nilo _) rfl)
      | fail
  | cons z out =>
    repeat'
      (conv => arg 2; whnf)
      first
      | refine okAsk (by kernel_rfl) ?_
      | refine okBoth ?_ ?_
      | refine okBrT ?_
      | refine okBrF ?_
      | refine okBr (fun h => ?_) (fun h => ?_)
      | refine okNthMap (l := l) (by simp at h; omega) (fun x (hx : l[i]? = some x) => ?_)
      | refine okFn (stClonePrepared_o x (hl.2 x (List.mem_of_getElem? hx))) rfl (Cos.refl _) ?_
      | refine okAsk (by have := (List.getElem?_eq_some_iff.1 hx).1; constructor <;> (simp only [List.length_cons, List.length_nil, List.length_map, maxLen] at ho2 ⊢; omega)) ?_
      | refine okWrap (w64 (by (try dsimp only); omega) (by have h9 := (List.getElem?_eq_some_iff.1 hx).1; (try dsimp only); omega)) ?_
      | refine okAgain (i + 1, ((z :: out) ++ [(x : PreparedD)])) (Sv.mk' [2] rfl ⟨⟨rfl, by simp; rfl⟩, trivial⟩ ⟨rfl, rfl, rfl, rfl, rfl, trivial⟩) ⟨by have := (List.getElem?_eq_some_iff.1 hx).1; show i + 1 ≤ l.length; omega, take_go hx ho⟩ (by have := (List.getElem?_eq_some_iff.1 hx).1; show l.length - (i + 1) < l.length - i; omega)
      | refine okOut ?_
      | refine okRet ?_
      | (have e := take_all ho (by simp at h; omega)
         subst e
         refine endFn [0, 1000] (.inr rfl) rfl (.refl _) rfl)
      | fail
theorem eachChange_o [Wd] (l : List ChangeD) (hl : (dL dChange).ok l) : FnP Tryz.prog 52 [.list 8 (l.map cChange), .fn 53 0 []] (.own 8 (l.map oChange)) := by
  have HL : l.length ≤ 4194304 := hl.1
  refine mkS 22 [] Tryz.func52 rfl (by kernel_rfl) ?_
  conv => arg 2; whnf
  refine okLoop (α := Nat × List ChangeD) (fun a => match a.2 with
    | [] => ⟨[(10, .int .i64 a.1), (9, .int .i64 (l.map cChange).length), (8, .list 8 (l.map cChange)), (5, .nils), (1, .fn 53 0 [])], []⟩
    | x :: k => ⟨[(10, .int .i64 a.1), (9, .int .i64 (l.map cChange).length), (8, .list 8 (l.map cChange)), (5, .row 0), (1, .fn 53 0 [])], [.row 77 8 ((x :: k).map oChange)]⟩) (fun a => a.1 ≤ l.length ∧ a.2 = l.take a.1) (fun a => l.length - a.1) (0, []) ⟨Nat.zero_le _, rfl⟩ (Sv.mk' [] rfl trivial ⟨rfl, rfl, rfl, rfl, rfl, trivial⟩) ?_
  rintro ⟨i, out⟩ ⟨hi, ho⟩
  replace hi : i ≤ l.length := hi
  replace ho : out = l.take i := ho
  have ho2 : out.length = i := by rw [ho, List.length_take]; omega
  cases out with
  | nil =>
    repeat'
      (conv => arg 2; whnf)
      first
      | refine okAsk (by kernel_rfl) ?_
      | refine okBoth ?_ ?_
      | refine okBrT ?_
      | refine okBrF ?_
      | refine okBr (fun h => ?_) (fun h => ?_)
      | refine okNthMap (l := l) (by simp at h; omega) (fun x (hx : l[i]? = some x) => ?_)
      | refine okFn (stCloneChange_o x (hl.2 x (List.mem_of_getElem? hx))) rfl (Cos.refl _) ?_
      | refine okAsk (by have := (List.getElem?_eq_some_iff.1 hx).1; constructor <;> (simp only [List.length_cons, List.length_nil, maxLen] at ho2 ⊢; omega)) ?_
      | refine okWrap (w64 (by (try dsimp only); omega) (by have h9 := (List.getElem?_eq_some_iff.1 hx).1; (try dsimp only); omega)) ?_
      | refine okAgain (i + 1, [x]) (Sv.mk' [1] rfl ⟨⟨rfl, rfl⟩, trivial⟩ ⟨rfl, rfl, rfl, rfl, rfl, trivial⟩) ⟨by have := (List.getElem?_eq_some_iff.1 hx).1; show i + 1 ≤ l.length; omega, take_go hx ho⟩ (by have := (List.getElem?_eq_some_iff.1 hx).1; show l.length - (i + 1) < l.length - i; omega)
      | refine okOut ?_
      | refine okRet ?_
      | (have e := take_all ho (by simp at h; omega)
         subst e
         refine endFn0 (.inr rfl) rfl (.nilo _) rfl)
      | fail
  | cons z out =>
    repeat'
      (conv => arg 2; whnf)
      first
      | refine okAsk (by kernel_rfl) ?_
      | refine okBoth ?_ ?_
      | refine okBrT ?_
      | refine okBrF ?_
      | refine okBr (fun h => ?_) (fun h => ?_)
      | refine okNthMap (l := l) (by simp at h; omega) (fun x (hx : l[i]? = some x) => ?_)
      | refine okFn (stCloneChange_o x (hl.2 x (List.mem_of_getElem? hx))) rfl (Cos.refl _) ?_
      | refine okAsk (by have := (List.getElem?_eq_some_iff.1 hx).1; constructor <;> (simp only [List.length_cons, List.length_nil, List.length_map, maxLen] at ho2 ⊢; omega)) ?_
      | refine okWrap (w64 (by (try dsimp only); omega) (by have h9 := (List.getElem?_eq_some_iff.1 hx).1; (try dsimp only); omega)) ?_
      | refine okAgain (i + 1, ((z :: out) ++ [(x : ChangeD)])) (Sv.mk' [2] rfl ⟨⟨rfl, by simp; rfl⟩, trivial⟩ ⟨rfl, rfl, rfl, rfl, rfl, trivial⟩) ⟨by have := (List.getElem?_eq_some_iff.1 hx).1; show i + 1 ≤ l.length; omega, take_go hx ho⟩ (by have := (List.getElem?_eq_some_iff.1 hx).1; show l.length - (i + 1) < l.length - i; omega)
      | refine okOut ?_
      | refine okRet ?_
      | (have e := take_all ho (by simp at h; omega)
         subst e
         refine endFn [0, 1000] (.inr rfl) rfl (.refl _) rfl)
      | fail
theorem eachMsg_o [Wd] (l : List MsgD) (hl : (dL dMsg).ok l) : FnP Tryz.prog 54 [.list 30 (l.map cMsg), .fn 55 0 []] (.own 30 (l.map oMsg)) := by
  have HL : l.length ≤ 4194304 := hl.1
  refine mkS 22 [] Tryz.func54 rfl (by kernel_rfl) ?_
  conv => arg 2; whnf
  refine okLoop (α := Nat × List MsgD) (fun a => match a.2 with
    | [] => ⟨[(10, .int .i64 a.1), (9, .int .i64 (l.map cMsg).length), (8, .list 30 (l.map cMsg)), (5, .nils), (1, .fn 55 0 [])], []⟩
    | x :: k => ⟨[(10, .int .i64 a.1), (9, .int .i64 (l.map cMsg).length), (8, .list 30 (l.map cMsg)), (5, .row 0), (1, .fn 55 0 [])], [.row 122 30 ((x :: k).map oMsg)]⟩) (fun a => a.1 ≤ l.length ∧ a.2 = l.take a.1) (fun a => l.length - a.1) (0, []) ⟨Nat.zero_le _, rfl⟩ (Sv.mk' [] rfl trivial ⟨rfl, rfl, rfl, rfl, rfl, trivial⟩) ?_
  rintro ⟨i, out⟩ ⟨hi, ho⟩
  replace hi : i ≤ l.length := hi
  replace ho : out = l.take i := ho
  have ho2 : out.length = i := by rw [ho, List.length_take]; omega
  cases out with
  | nil =>
    repeat'
      (conv => arg 2; whnf)
      first
      | refine okAsk (by kernel_rfl) ?_
      | refine okBoth ?_ ?_
      | refine okBrT ?_
      | refine okBrF ?_
      | refine okBr (fun h => ?_) (fun h => ?_)
      | refine okNthMap (l := l) (by simp at h; omega) (fun x (hx : l[i]? = some x) => ?_)
      | refine okFn (mClone_o x (hl.2 x (List.mem_of_getElem? hx))) rfl (Cos.refl _) ?_
      | refine okAsk (by have := (List.getElem?_eq_some_iff.1 hx).1; constructor <;> (simp only [List.length_cons, List.length_nil, maxLen] at ho2 ⊢; omega)) ?_
      | refine okWrap (w64 (by (try dsimp only); omega) (by have h9 := (List.getElem?_eq_some_iff.1 hx).1; (try dsimp only); omega)) ?_
      | refine okAgain (i + 1, [x]) (Sv.mk' [1] rfl ⟨⟨rfl, rfl⟩, trivial⟩ ⟨rfl, rfl, rfl, rfl, rfl, trivial⟩) ⟨by have := (List.getElem?_eq_some_iff.1 hx).1; show i + 1 ≤ l.length; omega, take_go hx ho⟩ (by have := (List.getElem?_eq_some_iff.1 hx).1; show l.length - (i + 1) < l.length - i; omega)
      | refine okOut ?_
      | refine okRet ?_
      | (have e := take_all ho (by simp at h; omega)
         subst e
         refine endFn0 (.inr rfl) rfl (.nilo _) rfl)
      | fail
  | cons z out =>
    repeat'
      (conv => arg 2; whnf)
      first
      | refine okAsk (by kernel_rfl) ?_
      | refine okBoth ?_ ?_
      | refine okBrT ?_
      | refine okBrF ?_
      | refine okBr (fun h => ?_) (fun h => ?_)
      | refine okNthMap (l := l) (by simp at h; omega) (fun x (hx : l[i]? = some x) => ?_)
      | refine okFn (mClone_o x (hl.2 x (List.mem_of_getElem? hx))) rfl (Cos.refl _) ?_
      | refine okAsk (by have := (List.getElem?_eq_some_iff.1 hx).1; constructor <;> (simp only [List.length_cons, List.length_nil, List.length_map, maxLen] at ho2 ⊢; omega)) ?_
      | refine okWrap (w64 (by (try dsimp only); omega) (by have h9 := (List.getElem?_eq_some_iff.1 hx).1; (try dsimp only); omega)) ?_
      | refine okAgain (i + 1, ((z :: out) ++ [(x : MsgD)])) (Sv.mk' [2] rfl ⟨⟨rfl, by simp; rfl⟩, trivial⟩ ⟨rfl, rfl, rfl, rfl, rfl, trivial⟩) ⟨by have := (List.getElem?_eq_some_iff.1 hx).1; show i + 1 ≤ l.length; omega, take_go hx ho⟩ (by have := (List.getElem?_eq_some_iff.1 hx).1; show l.length - (i + 1) < l.length - i; omega)
      | refine okOut ?_
      | refine okRet ?_
      | (have e := take_all ho (by simp at h; omega)
         subst e
         refine endFn [0, 1000] (.inr rfl) rfl (.refl _) rfl)
      | fail
def oCore (s : CoreD) : List D := [.int .i64 s.view, .bool s.active, .int .i64 s.ticks, .int .i64 s.floor, .int .i64 s.base.seq, .int .i64 s.base.prev, .int .i64 s.base.batch, .int .i64 s.base.root, .int .i64 s.base.state, .own 7 (s.blocks.map oBlock), .own 1 (s.topics.map cByte), .int .i64 s.points.stable.seq, .int .i64 s.points.stable.digest, .own 2 (s.points.stable.signs.map cSign), .own 4 (s.points.votes.map cVote), .own 3 (s.points.certs.map oCert), .own 3 (s.certs.map oCert), .own 6 (s.marks.map oMark), .own 8 (s.slots.map oSlot), .own 7 (s.held.map oPrepared), .own 8 (s.changes.map oChange), .own 9 (s.pool.waiting.map oSigned), .int .i64 s.timer.length, .int .i64 s.timer.left, .own 30 (s.news.map oMsg), .int .i64 s.wants]
theorem stClone_o [Wd] (a : CoreD) (ha : dCore.ok a) : FnP Tryz.prog 16 [.agg (cCore a)] (.agg (oCore a)) := by
  refine mkT 56 [(1, ⟨PT.of [(0, false), (1, false), (3, false), (4, false), (2, true), (6, false), (5, true), (7, true), (8, false), (9, true)], [0, 1007, 1009]⟩), (2, ⟨PT.of [(0, false), (1, false), (2, false), (4, false), (5, false), (6, false), (8, false), (9, false), (10, false), (3, true), (7, true), (11, true), (12, false), (13, false), (14, true)], [0, 1014]⟩), (3, ⟨PT.of [(0, false), (1, false), (3, false), (4, false), (2, true), (6, false), (5, true), (7, true), (8, false), (9, true)], [0, 1007, 1009]⟩), (4, ⟨PT.of [(0, false), (1, false), (3, false), (4, false), (2, true), (6, false), (5, true), (7, true), (8, false), (9, true)], [0, 1007, 1009]⟩), (5, ⟨PT.of [(0, false), (1, false), (3, false), (4, false), (2, true), (6, false), (5, true), (7, true), (8, false), (9, true)], [0, 1007, 1009]⟩)] Tryz.func16 rfl (by kernel_rfl) ?_
  repeat'
    (conv => arg 2; whnf)
    first
    | refine okAsk (by kernel_rfl) ?_
    | refine okBoth ?_ ?_
    | refine okBrT ?_
    | refine okBrF ?_
    | refine okBr (fun h => ?_) (fun h => ?_)
    | refine okFn (eachBlock_o a.blocks ha.2.2.2.2.2.1) rfl (Cos.refl _) ?_
    | refine okFn (bClone_o a.topics ha.2.2.2.2.2.2.1) rfl (Cos.refl _) ?_
    | refine okFn (stCloneCert_o a.points.stable ha.2.2.2.2.2.2.2.1.1) rfl (Cos.refl _) ?_
    | refine okFn (scVote_o a.points.votes ha.2.2.2.2.2.2.2.1.2.1.1) rfl (Cos.refl _) ?_
    | refine okFn (eachCert_o a.points.certs ha.2.2.2.2.2.2.2.1.2.2) rfl (Cos.refl _) ?_
    | refine okFn (eachCert_o a.certs ha.2.2.2.2.2.2.2.2.1) rfl (Cos.refl _) ?_
    | refine okFn (eachMark_o a.marks ha.2.2.2.2.2.2.2.2.2.1) rfl (Cos.refl _) ?_
    | refine okFn (eachSlot_o a.slots ha.2.2.2.2.2.2.2.2.2.2.1) rfl (Cos.refl _) ?_
    | refine okFn (eachPrepared_o a.held ha.2.2.2.2.2.2.2.2.2.2.2.1) rfl (Cos.refl _) ?_
    | refine okFn (eachChange_o a.changes ha.2.2.2.2.2.2.2.2.2.2.2.2.1) rfl (Cos.refl _) ?_
    | refine okFn (eachMsg_o a.news ha.2.2.2.2.2.2.2.2.2.2.2.2.2.2.2.1) rfl (Cos.refl _) ?_
    | refine okFn (qClone_o a.pool.waiting ha.2.2.2.2.2.2.2.2.2.2.2.2.2.1) rfl (Cos.refl _) ?_
    | refine endFn0 (.inr rfl) rfl (.refl _) rfl
end Go.Proofs.YteaggenihhaajaaGreat
