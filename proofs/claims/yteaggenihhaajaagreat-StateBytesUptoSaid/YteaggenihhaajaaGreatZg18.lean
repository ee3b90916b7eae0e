/- Lemmas and contracts, part 18. -/
import Derived.Test.YteaggenihhaajaaGreatZg17
/- Which slots, prepared certificates, points are the same, over data (printed by gen_dh.py). -/
namespace Go.Proofs.YteaggenihhaajaaGreat
open Go.RowKit
set_option linter.unusedVariables false
set_option maxRecDepth 20000

theorem vote_eqB (a b : VoteD) : eqB a b = ((a.seq == b.seq) && (a.digest == b.digest) && (a.sign.key == b.sign.key) && (a.sign.digest == b.sign.digest)) := by
  obtain ⟨a0, a1, ⟨a2key, a2digest⟩⟩ := a
  obtain ⟨b0, b1, ⟨b2key, b2digest⟩⟩ := b
  rw [Bool.eq_iff_iff, eqB_iff]
  simp [and_assoc]
theorem voteof_eqB (a b : VoteOfD) : eqB a b = ((a.digest == b.digest) && (a.sign.key == b.sign.key) && (a.sign.digest == b.sign.digest)) := by
  obtain ⟨a0, ⟨a1key, a1digest⟩⟩ := a
  obtain ⟨b0, ⟨b1key, b1digest⟩⟩ := b
  rw [Bool.eq_iff_iff, eqB_iff]
  simp [and_assoc]
theorem placed_eqB (a b : PlacedD) : eqB a b = (decide (a.topic = b.topic) && (a.offset == b.offset) && eqB a.record b.record) := by
  obtain ⟨a0, a1, a2⟩ := a
  obtain ⟨b0, b1, b2⟩ := b
  rw [Bool.eq_iff_iff, eqB_iff]
  simp [eqB_iff, and_assoc]
theorem mark_eqB (a b : MarkD) : eqB a b = ((a.header.seq == b.header.seq) && (a.header.prev == b.header.prev) && (a.header.batch == b.header.batch) && (a.header.root == b.header.root) && (a.header.state == b.header.state) && eqB a.topics b.topics) := by
  obtain ⟨⟨a0seq, a0prev, a0batch, a0root, a0state⟩, a1⟩ := a
  obtain ⟨⟨b0seq, b0prev, b0batch, b0root, b0state⟩, b1⟩ := b
  rw [Bool.eq_iff_iff, eqB_iff]
  simp [eqB_iff, and_assoc]
theorem block_eqB (a b : BlockD) : eqB a b = ((a.header.seq == b.header.seq) && (a.header.prev == b.header.prev) && (a.header.batch == b.header.batch) && (a.header.root == b.header.root) && (a.header.state == b.header.state) && eqB a.batch b.batch && eqB a.placed b.placed) := by
  obtain ⟨⟨a0seq, a0prev, a0batch, a0root, a0state⟩, a1, a2⟩ := a
  obtain ⟨⟨b0seq, b0prev, b0batch, b0root, b0state⟩, b1, b2⟩ := b
  rw [Bool.eq_iff_iff, eqB_iff]
  simp [eqB_iff, and_assoc]
theorem slot_eqB (a b : SlotD) : eqB a b = ((a.seq == b.seq) && (a.has == b.has) && (a.digest == b.digest) && (a.firstS.key == b.firstS.key) && (a.firstS.digest == b.firstS.digest) && eqB a.batch b.batch && eqB a.prepares b.prepares && eqB a.commits b.commits) := by
  obtain ⟨a0, a1, a2, ⟨a3key, a3digest⟩, a4, a5, a6⟩ := a
  obtain ⟨b0, b1, b2, ⟨b3key, b3digest⟩, b4, b5, b6⟩ := b
  rw [Bool.eq_iff_iff, eqB_iff]
  simp [eqB_iff, and_assoc]
theorem points_eqB (a b : PointsD) : eqB a b = (eqB a.stable b.stable && eqB a.votes b.votes && eqB a.certs b.certs) := by
  obtain ⟨a0, a1, a2⟩ := a
  obtain ⟨b0, b1, b2⟩ := b
  rw [Bool.eq_iff_iff, eqB_iff]
  simp [eqB_iff, and_assoc]
theorem core_eqB (a b : CoreD) : eqB a b = ((a.view == b.view) && (a.active == b.active) && (a.ticks == b.ticks) && (a.floor == b.floor) && (a.base.seq == b.base.seq) && (a.base.prev == b.base.prev) && (a.base.batch == b.base.batch) && (a.base.root == b.base.root) && (a.base.state == b.base.state) && eqB a.blocks b.blocks && eqB a.topics b.topics && eqB a.points b.points && eqB a.certs b.certs && eqB a.marks b.marks && eqB a.slots b.slots && eqB a.held b.held && eqB a.changes b.changes && eqB a.pool b.pool && (a.timer.length == b.timer.length) && (a.timer.left == b.timer.left) && eqB a.news b.news && (a.wants == b.wants)) := by
  obtain ⟨a0, a1, a2, a3, ⟨a4seq, a4prev, a4batch, a4root, a4state⟩, a5, a6, a7, a8, a9, a10, a11, a12, a13, ⟨a14length, a14left⟩, a15, a16⟩ := a
  obtain ⟨b0, b1, b2, b3, ⟨b4seq, b4prev, b4batch, b4root, b4state⟩, b5, b6, b7, b8, b9, b10, b11, b12, b13, ⟨b14length, b14left⟩, b15, b16⟩ := b
  rw [Bool.eq_iff_iff, eqB_iff]
  simp [eqB_iff, and_assoc]
theorem r13SameSigns_s [Wd] (l k : List (SignD)) (hl : l.length ≤ 4194304) : FnP Tryz.prog 186 [.list 2 (l.map cSign), .list 2 (k.map cSign)] (.bool (eqB l k)) := by
  have HL : l.length ≤ 4194304 := hl
  refine mkS 26 [] Tryz.func186 rfl (by kernel_rfl) ?_
  repeat'
    (conv => arg 2; whnf)
    first
    | refine okAsk (by kernel_rfl) ?_
    | refine okBoth ?_ ?_
    | refine okBrT ?_
    | refine okBrF ?_
    | refine okBr (fun h => ?_) (fun h => ?_)
    | (refine endBool (.inr rfl) rfl ?_; exact (eqB_len (by simp at h; omega)).symm)
  have hn : l.length = k.length := by simp at h; omega
  refine okLoop (α := Nat) (fun q => ⟨[(5, .int .i64 q), (0, .list 2 (l.map cSign)), (1, .list 2 (k.map cSign))], []⟩) (fun q => q ≤ l.length ∧ l.take q = k.take q) (fun q => l.length - q) 0 ⟨Nat.zero_le _, rfl⟩ (Sv.mk' [] rfl trivial ⟨rfl, rfl, rfl, trivial⟩) ?_
  rintro q ⟨hq, he⟩
  repeat'
    (conv => arg 2; whnf)
    first
    | refine okAsk (by kernel_rfl) ?_
    | refine okBoth ?_ ?_
    | refine okBrT ?_
    | refine okBrF ?_
    | refine okBr (fun h => ?_) (fun h => ?_)
    | refine okNthMap (l := l) (by simp at h; omega) (fun x hx => ?_)
    | refine okNthMap (l := k) (by simp at h; omega) (fun y hy => ?_)
    | refine okWrap (w64 (by simp at h hq; omega) (by have := HL; simp at h hq; omega)) ?_
    | refine okAgain (q + 1) (Sv.mk' [] rfl trivial ⟨rfl, rfl, rfl, trivial⟩) ⟨by have := (List.getElem?_eq_some_iff.1 hx).1; omega, eqB_go hx hy (by rw [← sign_eqB]; rw [Bool.true_and] at h; first | exact (Bool.not_eq_true' _).mp h | exact (Bool.not_eq_false' _).mp h) he⟩ (by have := (List.getElem?_eq_some_iff.1 hx).1; omega)
    | refine okOut ?_
    | refine okRet ?_
    | (refine endBool (.inr rfl) rfl ?_; have hl := eqB_no hx hy (by rw [← sign_eqB]; rw [Bool.true_and] at h; first | exact (Bool.not_eq_true' _).mp h | exact (Bool.not_eq_false' _).mp h); exact hl.symm; done)
    | (have hl := eqB_all hn (by simp at h; omega) he; refine endBool (.inr rfl) rfl ?_; exact hl.symm; done)
theorem r13sameVotes_s [Wd] (l k : List (VoteOfD)) (hl : l.length ≤ 4194304) : FnP Tryz.prog 185 [.list 3 (l.map cVoteOf), .list 3 (k.map cVoteOf)] (.bool (eqB l k)) := by
  have HL : l.length ≤ 4194304 := hl
  refine mkS 26 [] Tryz.func185 rfl (by kernel_rfl) ?_
  repeat'
    (conv => arg 2; whnf)
    first
    | refine okAsk (by kernel_rfl) ?_
    | refine okBoth ?_ ?_
    | refine okBrT ?_
    | refine okBrF ?_
    | refine okBr (fun h => ?_) (fun h => ?_)
    | (refine endBool (.inr rfl) rfl ?_; exact (eqB_len (by simp at h; omega)).symm)
  have hn : l.length = k.length := by simp at h; omega
  refine okLoop (α := Nat) (fun q => ⟨[(5, .int .i64 q), (0, .list 3 (l.map cVoteOf)), (1, .list 3 (k.map cVoteOf))], []⟩) (fun q => q ≤ l.length ∧ l.take q = k.take q) (fun q => l.length - q) 0 ⟨Nat.zero_le _, rfl⟩ (Sv.mk' [] rfl trivial ⟨rfl, rfl, rfl, trivial⟩) ?_
  rintro q ⟨hq, he⟩
  repeat'
    (conv => arg 2; whnf)
    first
    | refine okAsk (by kernel_rfl) ?_
    | refine okBoth ?_ ?_
    | refine okBrT ?_
    | refine okBrF ?_
    | refine okBr (fun h => ?_) (fun h => ?_)
    | refine okNthMap (l := l) (by simp at h; omega) (fun x hx => ?_)
    | refine okNthMap (l := k) (by simp at h; omega) (fun y hy => ?_)
    | refine okWrap (w64 (by simp at h hq; omega) (by have := HL; simp at h hq; omega)) ?_
    | refine okAgain (q + 1) (Sv.mk' [] rfl trivial ⟨rfl, rfl, rfl, trivial⟩) ⟨by have := (List.getElem?_eq_some_iff.1 hx).1; omega, eqB_go hx hy (by rw [voteof_eqB]; revert h; cases (x.digest == y.digest) <;> cases (x.sign.key == y.sign.key) <;> cases (x.sign.digest == y.sign.digest) <;> simp) he⟩ (by have := (List.getElem?_eq_some_iff.1 hx).1; omega)
    | refine okOut ?_
    | refine okRet ?_
    | (refine endBool (.inr rfl) rfl ?_; have hl := eqB_no hx hy (by rw [voteof_eqB]; revert h; cases (x.digest == y.digest) <;> cases (x.sign.key == y.sign.key) <;> cases (x.sign.digest == y.sign.digest) <;> simp); exact hl.symm; done)
    | (have hl := eqB_all hn (by simp at h; omega) he; refine endBool (.inr rfl) rfl ?_; exact hl.symm; done)
theorem r13SameProof_s [Wd] (a b : PreparedD) (ha : dPrepared.ok a) (hb : dPrepared.ok b) : FnP Tryz.prog 105 [.agg (cPrepared a), .agg (cPrepared b)] (.bool (eqB a b)) := by
  refine mkS 45 [] Tryz.func105 rfl (by kernel_rfl) ?_
  repeat'
    (conv => arg 2; whnf)
    first
    | refine okAsk (by kernel_rfl) ?_
    | refine okBoth ?_ ?_
    | refine okBrT ?_
    | refine okBrF ?_
    | refine okBr (fun h => ?_) (fun h => ?_)
    | refine okFn (r13SameSigns_s a.signs b.signs ha.2.2.2.2.1.1) rfl (Cos.refl _) ?_
    | refine okFn (rBatch_s a.batch b.batch ha.2.2.2.2.2 hb.2.2.2.2.2) rfl (Cos.refl _) ?_
    | (refine endBool (.inr rfl) rfl ?_; rw [prepared_eqB]; simp_all; done)
    | (exfalso; simp_all; done)
theorem r15SameAll_s [Wd] (l k : List (PreparedD)) (hl : (dL dPrepared).ok l) (hk : (dL dPrepared).ok k) : FnP Tryz.prog 25 [.list 7 (l.map cPrepared), .list 7 (k.map cPrepared)] (.bool (eqB l k)) := by
  have HL : l.length ≤ 4194304 := hl.1
  refine mkS 27 [] Tryz.func25 rfl (by kernel_rfl) ?_
  repeat'
    (conv => arg 2; whnf)
    first
    | refine okAsk (by kernel_rfl) ?_
    | refine okBoth ?_ ?_
    | refine okBrT ?_
    | refine okBrF ?_
    | refine okBr (fun h => ?_) (fun h => ?_)
    | (refine endBool (.inr rfl) rfl ?_; exact (eqB_len (by simp at h; omega)).symm)
  have hn : l.length = k.length := by simp at h; omega
  refine okLoop (α := Nat) (fun q => ⟨[(5, .int .i64 q), (0, .list 7 (l.map cPrepared)), (1, .list 7 (k.map cPrepared))], []⟩) (fun q => q ≤ l.length ∧ l.take q = k.take q) (fun q => l.length - q) 0 ⟨Nat.zero_le _, rfl⟩ (Sv.mk' [] rfl trivial ⟨rfl, rfl, rfl, trivial⟩) ?_
  rintro q ⟨hq, he⟩
  repeat'
    (conv => arg 2; whnf)
    first
    | refine okAsk (by kernel_rfl) ?_
    | refine okBoth ?_ ?_
    | refine okBrT ?_
    | refine okBrF ?_
    | refine okBr (fun h => ?_) (fun h => ?_)
    | refine okNthAt hx ?_
    | refine okNthAt hy ?_
    | refine okNthMap (l := l) (by simp at h; omega) (fun x hx => ?_)
    | refine okNthMap (l := k) (by simp at h; omega) (fun y hy => ?_)
    | refine okFn (r13SameProof_s x y (hl.2 x (List.mem_of_getElem? hx)) (hk.2 y (List.mem_of_getElem? hy))) rfl (Cos.refl _) ?_
    | refine okWrap (w64 (by simp at h hq; omega) (by have := HL; simp at h hq; omega)) ?_
    | refine okAgain (q + 1) (Sv.mk' [] rfl trivial ⟨rfl, rfl, rfl, trivial⟩) ⟨by have := (List.getElem?_eq_some_iff.1 hx).1; omega, eqB_go hx hy (by simpa using h) he⟩ (by have := (List.getElem?_eq_some_iff.1 hx).1; omega)
    | refine okOut ?_
    | refine okRet ?_
    | (refine endBool (.inr rfl) rfl ?_; have hl := eqB_no hx hy (by simpa using h); exact hl.symm; done)
    | (have hl := eqB_all hn (by simp at h; omega) he; refine endBool (.inr rfl) rfl ?_; exact hl.symm; done)
theorem r13Same_s [Wd] (a b : SlotD) (ha : dSlot.ok a) (hb : dSlot.ok b) : FnP Tryz.prog 104 [.agg (cSlot a), .agg (cSlot b)] (.bool (eqB a b)) := by
  refine mkS 52 [] Tryz.func104 rfl (by kernel_rfl) ?_
  repeat'
    (conv => arg 2; whnf)
    first
    | refine okAsk (by kernel_rfl) ?_
    | refine okBoth ?_ ?_
    | refine okBrT ?_
    | refine okBrF ?_
    | refine okBr (fun h => ?_) (fun h => ?_)
    | refine okFn (rBatch_s a.batch b.batch ha.2.2.2.2.1 hb.2.2.2.2.1) rfl (Cos.refl _) ?_
    | refine okFn (r13sameVotes_s a.prepares b.prepares ha.2.2.2.2.2.1.1) rfl (Cos.refl _) ?_
    | refine okFn (r13sameVotes_s a.commits b.commits ha.2.2.2.2.2.2.1) rfl (Cos.refl _) ?_
    | (refine endBool (.inr rfl) rfl ?_; rw [slot_eqB]; simp_all; done)
    | (exfalso; simp_all; done)
theorem r13SameAll_s [Wd] (l k : List (SlotD)) (hl : (dL dSlot).ok l) (hk : (dL dSlot).ok k) : FnP Tryz.prog 24 [.list 8 (l.map cSlot), .list 8 (k.map cSlot)] (.bool (eqB l k)) := by
  have HL : l.length ≤ 4194304 := hl.1
  refine mkS 27 [] Tryz.func24 rfl (by kernel_rfl) ?_
  repeat'
    (conv => arg 2; whnf)
    first
    | refine okAsk (by kernel_rfl) ?_
    | refine okBoth ?_ ?_
    | refine okBrT ?_
    | refine okBrF ?_
    | refine okBr (fun h => ?_) (fun h => ?_)
    | (refine endBool (.inr rfl) rfl ?_; exact (eqB_len (by simp at h; omega)).symm)
  have hn : l.length = k.length := by simp at h; omega
  refine okLoop (α := Nat) (fun q => ⟨[(5, .int .i64 q), (0, .list 8 (l.map cSlot)), (1, .list 8 (k.map cSlot))], []⟩) (fun q => q ≤ l.length ∧ l.take q = k.take q) (fun q => l.length - q) 0 ⟨Nat.zero_le _, rfl⟩ (Sv.mk' [] rfl trivial ⟨rfl, rfl, rfl, trivial⟩) ?_
  rintro q ⟨hq, he⟩
  repeat'
    (conv => arg 2; whnf)
    first
    | refine okAsk (by kernel_rfl) ?_
    | refine okBoth ?_ ?_
    | refine okBrT ?_
    | refine okBrF ?_
    | refine okBr (fun h => ?_) (fun h => ?_)
    | refine okNthAt hx ?_
    | refine okNthAt hy ?_
    | refine okNthMap (l := l) (by simp at h; omega) (fun x hx => ?_)
    | refine okNthMap (l := k) (by simp at h; omega) (fun y hy => ?_)
    | refine okFn (r13Same_s x y (hl.2 x (List.mem_of_getElem? hx)) (hk.2 y (List.mem_of_getElem? hy))) rfl (Cos.refl _) ?_
    | refine okWrap (w64 (by simp at h hq; omega) (by have := HL; simp at h hq; omega)) ?_
    | refine okAgain (q + 1) (Sv.mk' [] rfl trivial ⟨rfl, rfl, rfl, trivial⟩) ⟨by have := (List.getElem?_eq_some_iff.1 hx).1; omega, eqB_go hx hy (by simpa using h) he⟩ (by have := (List.getElem?_eq_some_iff.1 hx).1; omega)
    | refine okOut ?_
    | refine okRet ?_
    | (refine endBool (.inr rfl) rfl ?_; have hl := eqB_no hx hy (by simpa using h); exact hl.symm; done)
    | (have hl := eqB_all hn (by simp at h; omega) he; refine endBool (.inr rfl) rfl ?_; exact hl.symm; done)
theorem rwSameCerts_s [Wd] (l k : List (CertD)) (hl : (dL dCert).ok l) (hk : (dL dCert).ok k) : FnP Tryz.prog 23 [.list 3 (l.map cCert), .list 3 (k.map cCert)] (.bool (eqB l k)) := by
  have HL : l.length ≤ 4194304 := hl.1
  refine mkS 27 [] Tryz.func23 rfl (by kernel_rfl) ?_
  repeat'
    (conv => arg 2; whnf)
    first
    | refine okAsk (by kernel_rfl) ?_
    | refine okBoth ?_ ?_
    | refine okBrT ?_
    | refine okBrF ?_
    | refine okBr (fun h => ?_) (fun h => ?_)
    | (refine endBool (.inr rfl) rfl ?_; exact (eqB_len (by simp at h; omega)).symm)
  have hn : l.length = k.length := by simp at h; omega
  refine okLoop (α := Nat) (fun q => ⟨[(5, .int .i64 q), (0, .list 3 (l.map cCert)), (1, .list 3 (k.map cCert))], []⟩) (fun q => q ≤ l.length ∧ l.take q = k.take q) (fun q => l.length - q) 0 ⟨Nat.zero_le _, rfl⟩ (Sv.mk' [] rfl trivial ⟨rfl, rfl, rfl, trivial⟩) ?_
  rintro q ⟨hq, he⟩
  repeat'
    (conv => arg 2; whnf)
    first
    | refine okAsk (by kernel_rfl) ?_
    | refine okBoth ?_ ?_
    | refine okBrT ?_
    | refine okBrF ?_
    | refine okBr (fun h => ?_) (fun h => ?_)
    | refine okNthAt hx ?_
    | refine okNthAt hy ?_
    | refine okNthMap (l := l) (by simp at h; omega) (fun x hx => ?_)
    | refine okNthMap (l := k) (by simp at h; omega) (fun y hy => ?_)
    | refine okFn (rCert_s x y (hl.2 x (List.mem_of_getElem? hx)) (hk.2 y (List.mem_of_getElem? hy))) rfl (Cos.refl _) ?_
    | refine okWrap (w64 (by simp at h hq; omega) (by have := HL; simp at h hq; omega)) ?_
    | refine okAgain (q + 1) (Sv.mk' [] rfl trivial ⟨rfl, rfl, rfl, trivial⟩) ⟨by have := (List.getElem?_eq_some_iff.1 hx).1; omega, eqB_go hx hy (by simpa using h) he⟩ (by have := (List.getElem?_eq_some_iff.1 hx).1; omega)
    | refine okOut ?_
    | refine okRet ?_
    | (refine endBool (.inr rfl) rfl ?_; have hl := eqB_no hx hy (by simpa using h); exact hl.symm; done)
    | (have hl := eqB_all hn (by simp at h; omega) he; refine endBool (.inr rfl) rfl ?_; exact hl.symm; done)
theorem rwSamePoints_s [Wd] (a b : PointsD) (ha : dPoints.ok a) (hb : dPoints.ok b) : FnP Tryz.prog 22 [.agg (cPoints a), .agg (cPoints b)] (.bool (eqB a b)) := by
  refine mkS 47 [] Tryz.func22 rfl (by kernel_rfl) ?_
  repeat'
    (conv => arg 2; whnf)
    first
    | refine okAsk (by kernel_rfl) ?_
    | refine okBoth ?_ ?_
    | refine okBrT ?_
    | refine okBrF ?_
    | refine okBr (fun h => ?_) (fun h => ?_)
    | refine okFn (rCert_s a.stable b.stable ha.1 hb.1) rfl (Cos.refl _) ?_
    | refine okFn (rwSameCerts_s a.certs b.certs ha.2.2 hb.2.2) rfl (Cos.refl _) ?_
    | (refine endBool (.inr rfl) rfl ?_; rw [points_eqB]; simp_all; done)
    | (refine endBool (.inr rfl) rfl ?_; rw [points_eqB, eqB_len (l := a.votes) (k := b.votes) (by simp at h; omega)]; simp; done)
    | (exfalso; simp_all; done)
  have HL : a.votes.length ≤ 4194304 := ha.2.1.1
  have hl := ha.2.1
  have hk := hb.2.1
  have hn : a.votes.length = b.votes.length := by
    have e : (a.votes.length : Int) = b.votes.length := by simp_all
    omega
  refine okLoop (α := Nat) (fun q => ⟨[(5, .int .i64 q), (2, .ptr 0 0), (3, .ptr 1 0)], [.cells 33 (cPoints a), .cells 33 (cPoints b)]⟩) (fun q => q ≤ a.votes.length ∧ a.votes.take q = b.votes.take q) (fun q => a.votes.length - q) 0 ⟨Nat.zero_le _, rfl⟩ (Sv.mk' [0, 1] rfl ⟨⟨rfl, rfl⟩, ⟨rfl, rfl⟩, trivial⟩ ⟨rfl, rfl, rfl, trivial⟩) ?_
  rintro q ⟨hq, he⟩
  repeat'
    (conv => arg 2; whnf)
    first
    | refine okAsk (by kernel_rfl) ?_
    | refine okBoth ?_ ?_
    | refine okBrT ?_
    | refine okBrF ?_
    | refine okBr (fun h => ?_) (fun h => ?_)
    | refine okNthMap (l := a.votes) (by simp at h; omega) (fun x hx => ?_)
    | refine okNthMap (l := b.votes) (by simp at h; omega) (fun y hy => ?_)
    | refine okWrap (w64 (by simp at h hq; omega) (by have := HL; simp at h hq; omega)) ?_
    | refine okAgain (q + 1) (Sv.mk' [0, 1] rfl ⟨⟨rfl, rfl⟩, ⟨rfl, rfl⟩, trivial⟩ ⟨rfl, rfl, rfl, trivial⟩) ⟨by have := (List.getElem?_eq_some_iff.1 hx).1; omega, eqB_go hx hy (by rw [vote_eqB]; revert h; cases (x.seq == y.seq) <;> cases (x.digest == y.digest) <;> cases (x.sign.key == y.sign.key) <;> cases (x.sign.digest == y.sign.digest) <;> simp) he⟩ (by have := (List.getElem?_eq_some_iff.1 hx).1; omega)
    | refine okOut ?_
    | refine okRet ?_
    | (refine endBool (.inr rfl) rfl ?_; have hl := eqB_no hx hy (by rw [vote_eqB]; revert h; cases (x.seq == y.seq) <;> cases (x.digest == y.digest) <;> cases (x.sign.key == y.sign.key) <;> cases (x.sign.digest == y.sign.digest) <;> simp); rw [points_eqB, hl]; simp; done)
    | (have hl := eqB_all hn (by simp at h; omega) he; refine endBool (.inr rfl) rfl ?_; rw [points_eqB]; simp_all; done)
theorem rwSameBlocks_s [Wd] (l k : List BlockD) (hl : (dL dBlock).ok l) (hk : (dL dBlock).ok k) : FnP Tryz.prog 21 [.list 7 (l.map cBlock), .list 7 (k.map cBlock)] (.bool (eqB l k)) := by
  have HL : l.length ≤ 4194304 := hl.1
  refine mkT 107 [(6, ⟨(.one 0 false (.one 1 false (.one 2 false (.one 3 false (.one 4 false (.one 5 false (.one 6 false (.one 7 false (.one 8 false (.one 9 false (.one 10 false (.one 11 false (.one 12 false (.one 13 false (.one 14 false (.one 15 false (.one 16 false (.one 17 false (.one 18 false (.one 19 false (.one 20 false (.one 21 false (.one 22 true (.one 23 false (.one 24 false (.one 25 false (.one 26 false (.one 27 false (.one 28 false (.one 29 false (.one 32 false (.one 33 false (.one 34 false (.one 35 false (.alt 30 (.one 31 false (.one 36 true (.one 37 false (.one 38 false (.one 39 false .done))))) (.one 36 true (.one 37 false (.one 30 true (.one 31 false (.one 38 false (.one 39 false .done))))))))))))))))))))))))))))))))))))))))), []⟩)] Tryz.func21 rfl (by kernel_rfl) ?_
  repeat'
    (conv => arg 2; whnf)
    first
    | refine okAsk (by kernel_rfl) ?_
    | refine okBoth ?_ ?_
    | refine okBrT ?_
    | refine okBrF ?_
    | refine okBr (fun h => ?_) (fun h => ?_)
    | (refine endBool (.inr rfl) rfl ?_; exact (eqB_len (by simp at h; omega)).symm)
  have hn : l.length = k.length := by simp at h; omega
  refine okLoop (α := Nat) (fun q => ⟨[(5, .int .i64 q), (0, .list 7 (l.map cBlock)), (1, .list 7 (k.map cBlock))], []⟩) (fun q => q ≤ l.length ∧ l.take q = k.take q) (fun q => l.length - q) 0 ⟨Nat.zero_le _, rfl⟩ (Sv.mk' [] rfl trivial ⟨rfl, rfl, rfl, trivial⟩) ?_
  clear h
  rintro q ⟨hq, he⟩
  repeat'
    (conv => arg 2; whnf)
    first
    | refine okAsk (by kernel_rfl) ?_
    | refine okBoth ?_ ?_
    | refine okBrT ?_
    | refine okBrF ?_
    | refine okBr (fun h => ?_) (fun h => ?_)
    | refine okNthAt hx ?_
    | refine okNthAt hy ?_
    | refine okNthMap (l := l) (by simp at h; omega) (fun x hx => ?_)
    | refine okNthMap (l := k) (by simp at h; omega) (fun y hy => ?_)
    | refine okFn (rBatch_s x.batch y.batch (hl.2 x (List.mem_of_getElem? hx)).2.1 (hk.2 y (List.mem_of_getElem? hy)).2.1) rfl (Cos.refl _) ?_
    | refine okOut ?_
    | refine okRet ?_
    | (refine endBool (.inr rfl) rfl ?_; refine (eqB_no hx hy ?_).symm; rw [block_eqB]; first | (rw [eqB_len (l := x.placed) (k := y.placed) (by simp at h; omega)]; simp; done) | (simp_all; done))
    | (refine endBool (.inr rfl) rfl ?_; exact (eqB_all hn (by simp at h; omega) he).symm)
  all_goals
    have hpn : x.placed.length = y.placed.length := by simp at h; omega
    have hPX := (hl.2 x (List.mem_of_getElem? hx)).2.2
    have hPY := (hk.2 y (List.mem_of_getElem? hy)).2.2
    have HP : x.placed.length ≤ 4194304 := hPX.1
    have hqk : eqB x y = eqB x.placed y.placed := by rw [block_eqB]; simp_all
    clear h
    refine okLoop (α := Nat) (fun j => ⟨[(6, .int .i64 j), (5, .int .i64 q), (0, .list 7 (l.map cBlock)), (1, .list 7 (k.map cBlock))], []⟩) (fun j => j ≤ x.placed.length ∧ x.placed.take j = y.placed.take j) (fun j => x.placed.length - j) 0 ⟨Nat.zero_le _, rfl⟩ (Sv.mk' [] rfl trivial ⟨rfl, rfl, rfl, rfl, trivial⟩) ?_
    rintro j ⟨hj, hf⟩
    replace hj : j ≤ x.placed.length := hj
    replace hq : q ≤ l.length := hq
    have hql := (List.getElem?_eq_some_iff.1 hx).1
    repeat'
      (conv => arg 2; whnf)
      first
      | refine okAsk (by kernel_rfl) ?_
      | refine okBoth ?_ ?_
      | refine okBrT ?_
      | refine okBrF ?_
      | refine okBr (fun h => ?_) (fun h => ?_)
      | refine okNthAt hx ?_
      | refine okNthAt hy ?_
      | refine okNthAt hp ?_
      | refine okNthAt hr ?_
      | refine okNthMap (l := x.placed) (by simp at h; omega) (fun p hp => ?_)
      | refine okNthMap (l := y.placed) (by simp at h; omega) (fun r hr => ?_)
      | refine okByts p.record rfl ?_
      | refine okByts r.record rfl ?_
      | refine okAsk (by have h1 : p.record.length ≤ 4194304 := (hPX.2 p (List.mem_of_getElem? hp)).2.2; omega) ?_
      | refine okAsk (by have h1 : r.record.length ≤ 4194304 := (hPY.2 r (List.mem_of_getElem? hr)).2.2; omega) ?_
      | refine okWrap (w64 (by omega) (by omega)) ?_
      | refine okAgain (j + 1) (Sv.mk' [] rfl trivial ⟨rfl, rfl, rfl, rfl, trivial⟩) ⟨by have := (List.getElem?_eq_some_iff.1 hp).1; omega, eqB_go hp hr (by rw [placed_eqB]; simp_all [← decE]) hf⟩ (by have := (List.getElem?_eq_some_iff.1 hp).1; omega)
      | refine okAgain (q + 1) (Sv.mk' [] rfl trivial ⟨rfl, rfl, rfl, trivial⟩) ⟨by omega, eqB_go hx hy (by rw [hqk]; exact eqB_all hpn (by simp at h; omega) hf) he⟩ (by omega)
      | refine okOut ?_
      | refine okRet ?_
      | (refine endBool (.inr rfl) rfl ?_; refine (eqB_no hx hy ?_).symm; rw [hqk]; refine eqB_no hp hr ?_; rw [placed_eqB]; simp_all [← decE]; done)
/-- what of two cores is told last -/
noncomputable def restB (a b : CoreD) : Bool := eqB a.marks b.marks && (eqB a.changes b.changes && eqB a.news b.news)
theorem rwSameRest_s [Wd] (a b : CoreD) (ha : dCore.ok a) (hb : dCore.ok b) : FnP Tryz.prog 27 [.agg (cCore a), .agg (cCore b)] (.bool (restB a b)) := by
  refine mkS 108 [] Tryz.func27 rfl (by kernel_rfl) ?_
  repeat'
    (conv => arg 2; whnf)
    first
    | refine okAsk (by kernel_rfl) ?_
    | refine okBoth ?_ ?_
    | refine okBrT ?_
    | refine okBrF ?_
    | refine okBr (fun h => ?_) (fun h => ?_)
    | (refine endBool (.inr rfl) rfl ?_; unfold restB; rw [eqB_len (l := a.marks) (k := b.marks) (by simp at h; omega)]; simp; done)
    | (refine endBool (.inr rfl) rfl ?_; unfold restB; rw [eqB_len (l := a.changes) (k := b.changes) (by simp at h; omega)]; simp; done)
    | (refine endBool (.inr rfl) rfl ?_; unfold restB; rw [eqB_len (l := a.news) (k := b.news) (by simp at h; omega)]; simp; done)
    | (exfalso; simp_all; done)
  have HL : a.marks.length ≤ 4194304 := ha.2.2.2.2.2.2.2.2.2.1.1
  have hl := ha.2.2.2.2.2.2.2.2.2.1
  have hk := hb.2.2.2.2.2.2.2.2.2.1
  have hn : a.marks.length = b.marks.length := by
    have e : (a.marks.length : Int) = b.marks.length := by simp_all
    omega
  refine okLoop (α := Nat) (fun q => ⟨[(5, .int .i64 q), (2, .ptr 0 0), (3, .ptr 1 0)], [.cells 45 (cCore a), .cells 45 (cCore b)]⟩) (fun q => q ≤ a.marks.length ∧ a.marks.take q = b.marks.take q) (fun q => a.marks.length - q) 0 ⟨Nat.zero_le _, rfl⟩ (Sv.mk' [0, 1] rfl ⟨⟨rfl, rfl⟩, ⟨rfl, rfl⟩, trivial⟩ ⟨rfl, rfl, rfl, trivial⟩) ?_
  rintro q ⟨hq, he⟩
  repeat'
    (conv => arg 2; whnf)
    first
    | refine okAsk (by kernel_rfl) ?_
    | refine okBoth ?_ ?_
    | refine okBrT ?_
    | refine okBrF ?_
    | refine okBr (fun h => ?_) (fun h => ?_)
    | refine okNthAt hx ?_
    | refine okNthAt hy ?_
    | refine okNthMap (l := a.marks) (by simp at h; omega) (fun x hx => ?_)
    | refine okNthMap (l := b.marks) (by simp at h; omega) (fun y hy => ?_)
    | refine okByts x.topics rfl ?_
    | refine okByts y.topics rfl ?_
    | refine okAsk (by have h1 : x.topics.length ≤ 4194304 := (hl.2 x (List.mem_of_getElem? hx)).2; omega) ?_
    | refine okAsk (by have h1 : y.topics.length ≤ 4194304 := (hk.2 y (List.mem_of_getElem? hy)).2; omega) ?_
    | refine okWrap (w64 (by simp at h hq; omega) (by have := HL; simp at h hq; omega)) ?_
    | refine okAgain (q + 1) (Sv.mk' [0, 1] rfl ⟨⟨rfl, rfl⟩, ⟨rfl, rfl⟩, trivial⟩ ⟨rfl, rfl, rfl, trivial⟩) ⟨by have := (List.getElem?_eq_some_iff.1 hx).1; omega, eqB_go hx hy (by rw [mark_eqB]; simp_all [← decE]) he⟩ (by have := (List.getElem?_eq_some_iff.1 hx).1; omega)
    | refine okOut ?_
    | refine okRet ?_
    | (refine endBool (.inr rfl) rfl ?_; have hl := eqB_no hx hy (by rw [mark_eqB]; simp_all [← decE]); unfold restB; rw [hl]; simp; done)
    | (have hl := eqB_all hn (by simp at h; omega) he; refine endBool (.inr rfl) rfl ?_; unfold restB; simp_all; done)
  have hl0 := eqB_all hn (by simp at h; omega) he
  clear hq he h
  have HL : a.changes.length ≤ 4194304 := ha.2.2.2.2.2.2.2.2.2.2.2.2.1.1
  have hl := ha.2.2.2.2.2.2.2.2.2.2.2.2.1
  have hk := hb.2.2.2.2.2.2.2.2.2.2.2.2.1
  have hn : a.changes.length = b.changes.length := by
    have e : (a.changes.length : Int) = b.changes.length := by simp_all
    omega
  refine okLoop (α := Nat) (fun q => ⟨[(6, .int .i64 q), (2, .ptr 0 0), (3, .ptr 1 0)], [.cells 45 (cCore a), .cells 45 (cCore b)]⟩) (fun q => q ≤ a.changes.length ∧ a.changes.take q = b.changes.take q) (fun q => a.changes.length - q) 0 ⟨Nat.zero_le _, rfl⟩ (Sv.mk' [0, 1] rfl ⟨⟨rfl, rfl⟩, ⟨rfl, rfl⟩, trivial⟩ ⟨rfl, rfl, rfl, trivial⟩) ?_
  rintro q ⟨hq, he⟩
  repeat'
    (conv => arg 2; whnf)
    first
    | refine okAsk (by kernel_rfl) ?_
    | refine okBoth ?_ ?_
    | refine okBrT ?_
    | refine okBrF ?_
    | refine okBr (fun h => ?_) (fun h => ?_)
    | refine okNthAt hx ?_
    | refine okNthAt hy ?_
    | refine okNthMap (l := a.changes) (by simp at h; omega) (fun x hx => ?_)
    | refine okNthMap (l := b.changes) (by simp at h; omega) (fun y hy => ?_)
    | refine okFn (rChange_s x y (hl.2 x (List.mem_of_getElem? hx)) (hk.2 y (List.mem_of_getElem? hy))) rfl (Cos.refl _) ?_
    | refine okWrap (w64 (by simp at h hq; omega) (by have := HL; simp at h hq; omega)) ?_
    | refine okAgain (q + 1) (Sv.mk' [0, 1] rfl ⟨⟨rfl, rfl⟩, ⟨rfl, rfl⟩, trivial⟩ ⟨rfl, rfl, rfl, trivial⟩) ⟨by have := (List.getElem?_eq_some_iff.1 hx).1; omega, eqB_go hx hy (by simpa using h) he⟩ (by have := (List.getElem?_eq_some_iff.1 hx).1; omega)
    | refine okOut ?_
    | refine okRet ?_
    | (refine endBool (.inr rfl) rfl ?_; have hl := eqB_no hx hy (by simpa using h); unfold restB; rw [hl]; simp; done)
    | (have hl := eqB_all hn (by simp at h; omega) he; refine endBool (.inr rfl) rfl ?_; unfold restB; simp_all; done)
  have hl1 := eqB_all hn (by simp at h; omega) he
  clear hq he h
  have HL : a.news.length ≤ 4194304 := ha.2.2.2.2.2.2.2.2.2.2.2.2.2.2.2.1.1
  have hl := ha.2.2.2.2.2.2.2.2.2.2.2.2.2.2.2.1
  have hk := hb.2.2.2.2.2.2.2.2.2.2.2.2.2.2.2.1
  have hn : a.news.length = b.news.length := by
    have e : (a.news.length : Int) = b.news.length := by simp_all
    omega
  refine okLoop (α := Nat) (fun q => ⟨[(7, .int .i64 q), (2, .ptr 0 0), (3, .ptr 1 0)], [.cells 45 (cCore a), .cells 45 (cCore b)]⟩) (fun q => q ≤ a.news.length ∧ a.news.take q = b.news.take q) (fun q => a.news.length - q) 0 ⟨Nat.zero_le _, rfl⟩ (Sv.mk' [0, 1] rfl ⟨⟨rfl, rfl⟩, ⟨rfl, rfl⟩, trivial⟩ ⟨rfl, rfl, rfl, trivial⟩) ?_
  rintro q ⟨hq, he⟩
  repeat'
    (conv => arg 2; whnf)
    first
    | refine okAsk (by kernel_rfl) ?_
    | refine okBoth ?_ ?_
    | refine okBrT ?_
    | refine okBrF ?_
    | refine okBr (fun h => ?_) (fun h => ?_)
    | refine okNthAt hx ?_
    | refine okNthAt hy ?_
    | refine okNthMap (l := a.news) (by simp at h; omega) (fun x hx => ?_)
    | refine okNthMap (l := b.news) (by simp at h; omega) (fun y hy => ?_)
    | refine okFn (rMsg_s x y (hl.2 x (List.mem_of_getElem? hx)) (hk.2 y (List.mem_of_getElem? hy))) rfl (Cos.refl _) ?_
    | refine okWrap (w64 (by simp at h hq; omega) (by have := HL; simp at h hq; omega)) ?_
    | refine okAgain (q + 1) (Sv.mk' [0, 1] rfl ⟨⟨rfl, rfl⟩, ⟨rfl, rfl⟩, trivial⟩ ⟨rfl, rfl, rfl, trivial⟩) ⟨by have := (List.getElem?_eq_some_iff.1 hx).1; omega, eqB_go hx hy (by simpa using h) he⟩ (by have := (List.getElem?_eq_some_iff.1 hx).1; omega)
    | refine okOut ?_
    | refine okRet ?_
    | (refine endBool (.inr rfl) rfl ?_; have hl := eqB_no hx hy (by simpa using h); unfold restB; rw [hl]; simp; done)
    | (have hl := eqB_all hn (by simp at h; omega) he; refine endBool (.inr rfl) rfl ?_; unfold restB; simp_all; done)
theorem core_restB (a b : CoreD) : eqB a b = ((((((((((((((a.view == b.view && a.active == b.active) && a.ticks == b.ticks) && a.floor == b.floor) && eqB a.base b.base) && a.wants == b.wants) && ((a.timer.length == b.timer.length) && (a.timer.left == b.timer.left))) && decide (a.topics = b.topics)) && eqB a.blocks b.blocks) && eqB a.points b.points) && eqB a.certs b.certs) && eqB a.slots b.slots) && eqB a.held b.held) && eqB a.pool.waiting b.pool.waiting) && restB a b) := by
  have hp : eqB a.pool b.pool = eqB a.pool.waiting b.pool.waiting := by
    cases a.pool; cases b.pool
    rw [Bool.eq_iff_iff, eqB_iff, eqB_iff]; simp
  rw [core_eqB, hp]
  unfold restB
  rw [decE, ← head_eqB a.base b.base]
  rw [Bool.eq_iff_iff]
  simp only [Bool.and_eq_true]
  constructor
  all_goals (intro h; simp_all)
theorem rwSame_s [Wd] (a b : CoreD) (ha : dCore.ok a) (hb : dCore.ok b) : FnP Tryz.prog 10 [.agg (cCore a), .agg (cCore b)] (.bool (eqB a b)) := by
  have la : a.topics.length ≤ 4194304 := ha.2.2.2.2.2.2.1
  have lb : b.topics.length ≤ 4194304 := hb.2.2.2.2.2.2.1
  refine mkS 110 [] Tryz.func10 rfl (by kernel_rfl) ?_
  repeat'
    (conv => arg 2; whnf)
    first
    | refine okAsk (by kernel_rfl) ?_
    | refine okBoth ?_ ?_
    | refine okBrT ?_
    | refine okBrF ?_
    | refine okBr (fun h => ?_) (fun h => ?_)
    | refine okByts a.topics rfl ?_
    | refine okByts b.topics rfl ?_
    | refine okAsk (by omega) ?_
    | refine okFn (rwSameBlocks_s a.blocks b.blocks ha.2.2.2.2.2.1 hb.2.2.2.2.2.1) rfl (Cos.refl _) ?_
    | refine okFn (rwSamePoints_s a.points b.points ha.2.2.2.2.2.2.2.1 hb.2.2.2.2.2.2.2.1) rfl (Cos.refl _) ?_
    | refine okFn (rwSameCerts_s a.certs b.certs ha.2.2.2.2.2.2.2.2.1 hb.2.2.2.2.2.2.2.2.1) rfl (Cos.refl _) ?_
    | refine okFn (r13SameAll_s a.slots b.slots ha.2.2.2.2.2.2.2.2.2.2.1 hb.2.2.2.2.2.2.2.2.2.2.1) rfl (Cos.refl _) ?_
    | refine okFn (r15SameAll_s a.held b.held ha.2.2.2.2.2.2.2.2.2.2.2.1 hb.2.2.2.2.2.2.2.2.2.2.2.1) rfl (Cos.refl _) ?_
    | refine okFn (rBatch_s a.pool.waiting b.pool.waiting ha.2.2.2.2.2.2.2.2.2.2.2.2.2.1 hb.2.2.2.2.2.2.2.2.2.2.2.2.2.1) rfl (Cos.refl _) ?_
    | refine okFn (rwSameRest_s a b ha hb) rfl (Cos.refl _) ?_
    | (refine endBool (.inr rfl) rfl ?_; rw [core_restB, ← head_eqB a.base b.base]; simp_all; done)
    | (exfalso; simp_all; done)
end Go.Proofs.YteaggenihhaajaaGreat

/- The core that bullalaw20.begun writes, read back: state.Parse on its bytes (printed by gen_ds.py). -/
namespace Go.Proofs.YteaggenihhaajaaGreat
open Go.RowKit
set_option linter.unusedVariables false
set_option maxRecDepth 20000

def mk4 : MarkD := ⟨⟨4, 0, 0, 0, 0⟩, []⟩
/-- begun's core -/
def lvC : CoreD := { view := 3, active := true, ticks := 0, floor := 0, base := zHd, blocks := [], topics := [1, 2], points := ⟨zCert, [], []⟩, certs := [], marks := [mk4], slots := [], held := [], changes := [], pool := ⟨[]⟩, timer := ⟨0, 0⟩, news := [], wants := 0 }
def lb0 : List UInt8 := [3, 1, 0, 0, 6, 3, 0, 0, 0, 0, 0, 0, 2, 1, 2, 3, 0, 0, 0, 0, 0, 0, 1, 6, 3, 4, 0, 0, 0, 0, 0, 0, 0, 0, 0, 0, 0, 0, 0]
def lb1 : List UInt8 := [1, 0, 0, 6, 3, 0, 0, 0, 0, 0, 0, 2, 1, 2, 3, 0, 0, 0, 0, 0, 0, 1, 6, 3, 4, 0, 0, 0, 0, 0, 0, 0, 0, 0, 0, 0, 0, 0]
def lb2 : List UInt8 := [0, 0, 6, 3, 0, 0, 0, 0, 0, 0, 2, 1, 2, 3, 0, 0, 0, 0, 0, 0, 1, 6, 3, 4, 0, 0, 0, 0, 0, 0, 0, 0, 0, 0, 0, 0, 0]
def lb3 : List UInt8 := [0, 6, 3, 0, 0, 0, 0, 0, 0, 2, 1, 2, 3, 0, 0, 0, 0, 0, 0, 1, 6, 3, 4, 0, 0, 0, 0, 0, 0, 0, 0, 0, 0, 0, 0, 0]
def lb4 : List UInt8 := [6, 3, 0, 0, 0, 0, 0, 0, 2, 1, 2, 3, 0, 0, 0, 0, 0, 0, 1, 6, 3, 4, 0, 0, 0, 0, 0, 0, 0, 0, 0, 0, 0, 0, 0]
def lb5 : List UInt8 := [0, 2, 1, 2, 3, 0, 0, 0, 0, 0, 0, 1, 6, 3, 4, 0, 0, 0, 0, 0, 0, 0, 0, 0, 0, 0, 0, 0]
def lb6 : List UInt8 := [2, 1, 2, 3, 0, 0, 0, 0, 0, 0, 1, 6, 3, 4, 0, 0, 0, 0, 0, 0, 0, 0, 0, 0, 0, 0, 0]
def lb7 : List UInt8 := [3, 0, 0, 0, 0, 0, 0, 1, 6, 3, 4, 0, 0, 0, 0, 0, 0, 0, 0, 0, 0, 0, 0, 0]
def lb8 : List UInt8 := [0, 0, 0, 1, 6, 3, 4, 0, 0, 0, 0, 0, 0, 0, 0, 0, 0, 0, 0, 0]
def lb9 : List UInt8 := [0, 0, 1, 6, 3, 4, 0, 0, 0, 0, 0, 0, 0, 0, 0, 0, 0, 0, 0]
def lb10 : List UInt8 := [0, 1, 6, 3, 4, 0, 0, 0, 0, 0, 0, 0, 0, 0, 0, 0, 0, 0]
def lb11 : List UInt8 := [1, 6, 3, 4, 0, 0, 0, 0, 0, 0, 0, 0, 0, 0, 0, 0, 0]
def lb12 : List UInt8 := [0, 0, 0, 0, 0, 0, 0, 0]
def lb13 : List UInt8 := [0, 0, 0, 0, 0, 0, 0]
def lb14 : List UInt8 := [0, 0, 0, 0, 0, 0]
def lb15 : List UInt8 := [0, 0, 0, 0, 0]
def lb16 : List UInt8 := [0, 0, 0, 0]
def lb17 : List UInt8 := [0, 0, 0]
def lb18 : List UInt8 := [0, 0]
def lb19 : List UInt8 := [0]
def lb20 : List UInt8 := []
theorem lvC_bytes : coreB lvC = lb0 := by kernel_rfl
theorem le0 : numR MX (lb0, 0) = (3, (lb1, 0)) := by kernel_rfl
theorem le1 : numR 1 (lb1, 0) = (1, (lb2, 0)) := by kernel_rfl
theorem le2 : numR MX (lb2, 0) = (0, (lb3, 0)) := by kernel_rfl
theorem le3 : numR MX (lb3, 0) = (0, (lb4, 0)) := by kernel_rfl
theorem le4 : withinR hdR zHd (lb4, 0) = (zHd, (lb5, 0)) := by kernel_rfl
theorem le5 : numR 4096 (lb5, 0) = (0, (lb6, 0)) := by kernel_rfl
theorem le6 : bytesR 4194304 (lb6, 0) = ([1, 2], (lb7, 0)) := by kernel_rfl
theorem le7 : withinR (parseR certR zCert) zCert (lb7, 0) = (zCert, (lb8, 0)) := by kernel_rfl
theorem le8 : numR 4096 (lb8, 0) = (0, (lb9, 0)) := by kernel_rfl
theorem le9 : numR 4096 (lb9, 0) = (0, (lb10, 0)) := by kernel_rfl
theorem le10 : numR 4096 (lb10, 0) = (0, (lb11, 0)) := by kernel_rfl
theorem le11 : takesR markR (lb11, 0) = ([mk4], (lb12, 0)) := by kernel_rfl
theorem le12 : numR 4096 (lb12, 0) = (0, (lb13, 0)) := by kernel_rfl
theorem le13 : numR 4096 (lb13, 0) = (0, (lb14, 0)) := by kernel_rfl
theorem le14 : numR 4096 (lb14, 0) = (0, (lb15, 0)) := by kernel_rfl
theorem le15 : numR 4096 (lb15, 0) = (0, (lb16, 0)) := by kernel_rfl
theorem le16 : numR MX (lb16, 0) = (0, (lb17, 0)) := by kernel_rfl
theorem le17 : numR MX (lb17, 0) = (0, (lb18, 0)) := by kernel_rfl
theorem le18 : numR 4096 (lb18, 0) = (0, (lb19, 0)) := by kernel_rfl
theorem le19 : numR MX (lb19, 0) = (0, (lb20, 0)) := by kernel_rfl
set_option maxHeartbeats 4000000 in
theorem tkCoreLv_s [Wd] : FnS Tryz.prog 19 [.agg [.ptr 0 0]] (oRd (lb0, 0)) (fun r h => r = .agg (cCore lvC) ∧ h = oRd (lb20, 0)) := by
  refine mkS 71 [] Tryz.func19 rfl (by kernel_rfl) ?_
  conv => arg 2; whnf
  refine okRd 0 (lb0, 0) (lb1, 0) (.int .i64 3) tkNum_s (by decide) (congrArg Prod.snd le0).symm (congrArg (fun r : Nat × RS => D.int .i64 (r.1 : Int)) le0).symm ⟨⟨rfl, rfl⟩, trivial⟩ (Cos.refl _) rfl ?_
  conv => arg 2; whnf
  refine okRd 0 (lb1, 0) (lb2, 0) (.bool true) tkFlag_s (by decide) (congrArg Prod.snd le1).symm (congrArg (fun r : Nat × RS => D.bool ((r.1 : Int) == 1)) le1).symm ⟨⟨rfl, rfl⟩, trivial⟩ (Cos.refl _) rfl ?_
  conv => arg 2; whnf
  refine okRd 0 (lb2, 0) (lb3, 0) (.int .i64 0) tkNum_s (by decide) (congrArg Prod.snd le2).symm (congrArg (fun r : Nat × RS => D.int .i64 (r.1 : Int)) le2).symm ⟨⟨rfl, rfl⟩, trivial⟩ (Cos.refl _) rfl ?_
  conv => arg 2; whnf
  refine okRd 0 (lb3, 0) (lb4, 0) (.int .i64 0) tkNum_s (by decide) (congrArg Prod.snd le3).symm (congrArg (fun r : Nat × RS => D.int .i64 (r.1 : Int)) le3).symm ⟨⟨rfl, rfl⟩, trivial⟩ (Cos.refl _) rfl ?_
  conv => arg 2; whnf
  refine okRd 0 (lb4, 0) (lb5, 0) (.agg (cHeader zHd)) tkHeader_s (by decide) (congrArg Prod.snd le4).symm (congrArg (fun r : HeaderD × RS => D.agg (cHeader r.1)) le4).symm ⟨⟨rfl, rfl⟩, trivial⟩ (Cos.refl _) rfl ?_
  conv => arg 2; whnf
  refine okCall [0] (takes0Block_s (s := (lb5, 0)) (by decide) le5) (.mk' rfl ⟨⟨rfl, rfl⟩, trivial⟩) (Cos.refl _) rfl ?_
  conv => arg 2; whnf
  refine okRd 0 (lb6, 0) (lb7, 0) (.list 1 (([1, 2] : List UInt8).map cByte)) tkStr_s (by decide) (congrArg Prod.snd le6).symm (congrArg (fun r : List UInt8 × RS => D.list 1 (r.1.map cByte)) le6).symm ⟨⟨rfl, rfl⟩, trivial⟩ (Cos.refl _) rfl ?_
  conv => arg 2; whnf
  refine okRd 0 (lb7, 0) (lb8, 0) (.agg (cCert zCert)) tkCert_s (by decide) (congrArg Prod.snd le7).symm (congrArg (fun r : CertD × RS => D.agg (cCert r.1)) le7).symm ⟨⟨rfl, rfl⟩, trivial⟩ (Cos.refl _) rfl ?_
  conv => arg 2; whnf
  refine okCall [0] (takes0Vote_s (s := (lb8, 0)) (by decide) le8) (.mk' rfl ⟨⟨rfl, rfl⟩, trivial⟩) (Cos.refl _) rfl ?_
  conv => arg 2; whnf
  refine okCall [0] (takes0Cert_s (s := (lb9, 0)) (by decide) le9) (.mk' rfl ⟨⟨rfl, rfl⟩, trivial⟩) (Cos.refl _) rfl ?_
  conv => arg 2; whnf
  refine okCall [0] (takes0Cert_s (s := (lb10, 0)) (by decide) le10) (.mk' rfl ⟨⟨rfl, rfl⟩, trivial⟩) (Cos.refl _) rfl ?_
  conv => arg 2; whnf
  refine okRd 0 (lb11, 0) (lb12, 0) (.list 6 ([mk4].map cMark)) takesMark_s (by decide) (congrArg Prod.snd le11).symm (congrArg (fun r : List MarkD × RS => D.list 6 (r.1.map cMark)) le11).symm ⟨⟨rfl, rfl⟩, trivial⟩ (Cos.refl _) rfl ?_
  conv => arg 2; whnf
  refine okCall [0] (takes0Slot_s (s := (lb12, 0)) (by decide) le12) (.mk' rfl ⟨⟨rfl, rfl⟩, trivial⟩) (Cos.refl _) rfl ?_
  conv => arg 2; whnf
  refine okCall [0] (takes0Prepared_s (s := (lb13, 0)) (by decide) le13) (.mk' rfl ⟨⟨rfl, rfl⟩, trivial⟩) (Cos.refl _) rfl ?_
  conv => arg 2; whnf
  refine okCall [0] (takes0Change_s (s := (lb14, 0)) (by decide) le14) (.mk' rfl ⟨⟨rfl, rfl⟩, trivial⟩) (Cos.refl _) rfl ?_
  conv => arg 2; whnf
  refine okCall [0] (takes0Signed_s (s := (lb15, 0)) (by decide) le15) (.mk' rfl ⟨⟨rfl, rfl⟩, trivial⟩) (Cos.refl _) rfl ?_
  conv => arg 2; whnf
  refine okRd 0 (lb16, 0) (lb17, 0) (.int .i64 0) tkNum_s (by decide) (congrArg Prod.snd le16).symm (congrArg (fun r : Nat × RS => D.int .i64 (r.1 : Int)) le16).symm ⟨⟨rfl, rfl⟩, trivial⟩ (Cos.refl _) rfl ?_
  conv => arg 2; whnf
  refine okRd 0 (lb17, 0) (lb18, 0) (.int .i64 0) tkNum_s (by decide) (congrArg Prod.snd le17).symm (congrArg (fun r : Nat × RS => D.int .i64 (r.1 : Int)) le17).symm ⟨⟨rfl, rfl⟩, trivial⟩ (Cos.refl _) rfl ?_
  conv => arg 2; whnf
  refine okCall [0] (takes0Msg_s (s := (lb18, 0)) (by decide) le18) (.mk' rfl ⟨⟨rfl, rfl⟩, trivial⟩) (Cos.refl _) rfl ?_
  conv => arg 2; whnf
  refine okRd 0 (lb19, 0) (lb20, 0) (.int .i64 0) tkNum_s (by decide) (congrArg Prod.snd le19).symm (congrArg (fun r : Nat × RS => D.int .i64 (r.1 : Int)) le19).symm ⟨⟨rfl, rfl⟩, trivial⟩ (Cos.refl _) rfl ?_
  conv => arg 2; whnf
  refine endRd (d := .agg (cCore lvC)) (.inr rfl) rfl ⟨⟨rfl, rfl⟩, trivial⟩ rfl (.refl _) rfl rfl
theorem stParseLv_s [Wd] : FnP Tryz.prog 9 [.list 1 (lb0.map cByte)] (.tup [.agg (cCore lvC), .int .i64 0]) := by
  refine mkS 30 [] Tryz.func9 rfl (by kernel_rfl) ?_
  repeat'
    (conv => arg 2; whnf)
    first
    | refine okAsk (by kernel_rfl) ?_
    | refine okCall [] (rdRead_s lb0 (by decide)) (.mk' rfl trivial) (Cos.refl _) rfl ?_
    | refine okCall [1] tkCoreLv_s (.mk' rfl ⟨⟨rfl, rfl⟩, trivial⟩) (Cos.refl _) rfl ?_
    | refine okRd 1 (lb20, 0) (lb20, 0) (.int .i64 0) rdDone_s (by decide) rfl (by kernel_rfl) ⟨⟨rfl, rfl⟩, trivial⟩ (Cos.refl _) rfl ?_
    | refine okBoth ?_ ?_
    | refine okBrT ?_
    | refine okBrF ?_
    | refine endFn0 (.inr rfl) rfl (.refl _) rfl
end Go.Proofs.YteaggenihhaajaaGreat

/- bullalaw20.begun; bullalaw20.StateApart over data. -/
namespace Go.Proofs.YteaggenihhaajaaGreat
open Go.RowKit
set_option linter.unusedVariables false
set_option maxRecDepth 20000

theorem nOkZ : nOk 0 := ⟨by decide, by decide⟩
theorem hdrZ : hdrOk zHd := ⟨nOkZ, nOkZ, nOkZ, nOkZ, nOkZ⟩
theorem putsZ {α : Type} (P : α → Prop) : putsOk P ([] : List α) := ⟨Nat.zero_le _, fun x hx => (List.not_mem_nil hx).elim⟩
theorem certZ0 : kCertOk zCert := ⟨by kernel_rfl, by have := certB_len (c := zCert) (by kernel_rfl); omega⟩
theorem lvC_ok : coreOk lvC :=
  ⟨⟨by decide, by decide⟩, nOkZ, nOkZ, hdrZ, putsZ _, certZ0, putsZ _, putsZ _, putsZ _, ⟨by decide, fun m hm => by rw [List.mem_singleton.1 hm]; exact ⟨⟨by decide, by decide⟩, nOkZ, nOkZ, nOkZ, nOkZ⟩⟩, putsZ _, putsZ _, putsZ _, putsZ _, nOkZ, nOkZ, putsZ _, nOkZ⟩
theorem dLz {α : Type} (T : Dt α) : (dL T).ok [] := ⟨Nat.zero_le _, fun x hx => (List.not_mem_nil hx).elim⟩
theorem z64 : -9223372036854775808 ≤ (0 : Int) ∧ (0 : Int) ≤ 9223372036854775807 := ⟨by decide, by decide⟩
theorem dHz (n : Int) (h : -9223372036854775808 ≤ n ∧ n ≤ 9223372036854775807) : dHeader.ok ⟨n, 0, 0, 0, 0⟩ := ⟨h, z64, z64, z64, z64⟩
theorem dCz : dCert.ok zCert := ⟨⟨by decide, by decide⟩, ⟨by decide, by decide⟩, dLz _⟩
theorem lvC_d : dCore.ok lvC :=
  ⟨⟨by decide, by decide⟩, trivial, ⟨by decide, by decide⟩, ⟨by decide, by decide⟩, dHz 0 ⟨by decide, by decide⟩, dLz _, (by decide : ([1, 2] : List UInt8).length ≤ 4194304), ⟨dCz, dLz _, dLz _⟩, dLz _, ⟨by decide, fun m hm => by rw [List.mem_singleton.1 hm]; exact ⟨dHz 4 ⟨by decide, by decide⟩, (by decide : ([] : List UInt8).length ≤ 4194304)⟩⟩, dLz _, dLz _, dLz _, dLz _, ⟨⟨by decide, by decide⟩, ⟨by decide, by decide⟩⟩, dLz _, ⟨by decide, by decide⟩⟩
theorem lvC_sz : tCore.sz lvC ≤ 1048576 := by decide
theorem bytesLv_s [Wd] : FnP Tryz.prog 8 [.agg (cCore lvC)] (.tup [.list 1 (lb0.map cByte), .int .i64 0]) := by
  have := stBytesY_s lvC lvC_d lvC_sz lvC_ok (by rw [lvC_bytes]; decide)
  rwa [lvC_bytes] at this
theorem sameLv_s [Wd] : FnP Tryz.prog 10 [.agg (cCore lvC), .agg (cCore lvC)] (.bool true) := by
  have := rwSame_s lvC lvC lvC_d lvC_d
  rwa [eqB_true rfl] at this
/-- begun's core as its literal has it: nil slices -/
theorem lvC_co {ds : List D} (h : ds = [.int .i64 3, .bool true, .int .i64 0, .int .i64 0, .int .i64 0, .int .i64 0, .int .i64 0, .int .i64 0, .int .i64 0, .nils, .list 1 [[.int .u8 1], [.int .u8 2]], .int .i64 0, .int .i64 0, .nils, .nils, .nils, .nils, .list 6 [[.int .i64 4, .int .i64 0, .int .i64 0, .int .i64 0, .int .i64 0, .nils]], .nils, .nils, .nils, .nils, .int .i64 0, .int .i64 0, .nils, .int .i64 0]) : Co (.agg ds) (.agg (cCore lvC)) := by
  subst h
  refine Cos.mkAgg ?_
  have hm : Co (.list 6 [[.int .i64 4, .int .i64 0, .int .i64 0, .int .i64 0, .int .i64 0, .nils]]) (.list 6 ([mk4].map cMark)) := by
    refine .list 6 _ _ rfl (fun i x y hx hy => ?_)
    cases i with
    | succ i => simp at hx
    | zero =>
      cases hx
      cases hy
      refine ⟨rfl, fun j d e hd he => ?_⟩
      match j with
      | 0 => cases hd; cases he; exact .inl rfl
      | 1 => cases hd; cases he; exact .inl rfl
      | 2 => cases hd; cases he; exact .inl rfl
      | 3 => cases hd; cases he; exact .inl rfl
      | 4 => cases hd; cases he; exact .inl rfl
      | 5 => cases hd; cases he; exact .inr ⟨rfl, 1, rfl⟩
      | j + 6 => simp at hd
  repeat' first
    | exact Cos.nil
    | refine Cos.cons hm ?_
    | refine Cos.cons (.refl _) ?_
    | refine Cos.cons (.nil _) ?_
theorem begun_s [Wd] : FnP Tryz.prog 7 [] (.bool true) := by
  refine mkS 49 [] Tryz.func7 rfl (by kernel_rfl) ?_
  repeat'
    (conv => arg 2; whnf)
    first
    | refine okAsk (by kernel_rfl) ?_
    | refine okFn bytesLv_s rfl (Cos.cons (lvC_co rfl) .nil) ?_
    | refine okFn stParseLv_s rfl (Cos.refl _) ?_
    | refine okFn sameLv_s rfl (Cos.cons (lvC_co rfl) (Cos.cons (.refl _) .nil)) ?_
    | refine okBoth ?_ ?_
    | refine okBrT ?_
    | refine okBrF ?_
    | refine okNthMap (l := lb0) (q := 0) (by decide) (fun x hx => ?_)
    | refine okNthMap (l := lb0) (q := 1) (by decide) (fun x hx => ?_)
    | refine okBr (fun h => ?_) (fun h => ?_)
    | refine endBool (.inr rfl) rfl ?_
  all_goals first
    | rfl
    | (exfalso; simp_all [lb0]; done)
    | (simp_all [lb0]; subst hx; rfl)
    | (simp_all [lb0]; subst hx; exact h rfl)
    | (simp_all [lb0]; done)
end Go.Proofs.YteaggenihhaajaaGreat

/- bullalaw20.StateApart: over data; over readings. -/
namespace Go.Proofs.YteaggenihhaajaaGreat
open Go.RowKit
set_option linter.unusedVariables false
set_option maxRecDepth 20000

end Go.Proofs.YteaggenihhaajaaGreat

/- message.some; message.Unsigned over data (printed by gen_ao.py). -/
namespace Go.Proofs.YteaggenihhaajaaGreat
open Go.RowKit
set_option linter.unusedVariables false
set_option maxRecDepth 20000

end Go.Proofs.YteaggenihhaajaaGreat

/- message.Unsigned over data, whole; and over readings. -/
namespace Go.Proofs.YteaggenihhaajaaGreat
open Go.RowKit
set_option linter.unusedVariables false
set_option maxRecDepth 20000

theorem dMsg_ok (m : MsgD) : dMsg.ok m = (dI.ok m.kind ∧ dI.ok m.src ∧ dI.ok m.view ∧ dI.ok m.seq ∧ dI.ok m.digest ∧ dI.ok m.client ∧ dI.ok m.time ∧ dResult.ok m.result ∧ (dL dSigned).ok m.batch ∧ dCert.ok m.cert ∧ (dL dChange).ok m.changes ∧ (dL dEntry).ok m.entries ∧ dY.ok m.state ∧ dS.ok m.topic ∧ dI.ok m.offset ∧ dProof.ok m.proof ∧ dSign.ok m.sign) := rfl
end Go.Proofs.YteaggenihhaajaaGreat

/- The reference's names: a rune's size, the rune with which a text begins. -/
namespace Go.Proofs.YteaggenihhaajaaGreat
open Go.RowKit Go.Deep
set_option linter.unusedVariables false

set_option maxRecDepth 20000 in
theorem rSize_c (w : World) (k : Nat) (hk : k < 256) : Calls Tryz.prog 337 #[.int .u8 (k : Int)] w fun e w' => e = .returned (.int .i64 (sizeN k : Int)) ∧ w = w' := by
  have HK := Lib.hid (show sizeN k = if k < 128 then 1 else if 194 ≤ k ∧ k < 224 then 2 else if 224 ≤ k ∧ k < 240 then 3 else if 240 ≤ k ∧ k < 245 then 4 else 0 from rfl)
  generalize sizeN k = z at *
  have g1 : (0 : Int) ≤ k := by omega
  go_enter Tryz.func337, Tryz.ntmps337
  go_wp2
  all_goals
    go_ret
    refine ⟨?_, rfl⟩
    rw [HK.out]
    refine congrArg (fun x => Ending.returned (Value.int .i64 x)) ?_
    repeat' split
    all_goals omega
end Go.Proofs.YteaggenihhaajaaGreat
