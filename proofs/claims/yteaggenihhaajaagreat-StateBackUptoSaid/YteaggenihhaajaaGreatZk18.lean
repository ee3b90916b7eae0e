/- Lemmas and contracts, part 18. -/
import Derived.Test.YteaggenihhaajaaGreatZk17
/- Which slots, prepared certificates, points are the same, over data (printed by gen_dh.py). -/
namespace Go.Proofs.YteaggenihhaajaaGreat
open Go.RowKit
set_option linter.unusedVariables false
set_option maxRecDepth 20000

theorem vote_eqB (a b : VoteD) : eqB a b = ((a.seq == b.seq) && (a.digest == b.digest) && (a.sign.key == b.sign.key) && (a.sign.digest == b.sign.digest)) := by
  obtain ⟨a0, a1, ⟨a2key, a2digest⟩⟩ := a
  obtain ⟨b0, b1, ⟨b2key, b2digest⟩⟩ := b
  rw [Bool.eq_iff_iff, eqB_iff]
  simp [and_assoc]
theorem voteof_eqB (a b : VoteOfD) : eqB a b = ((a.digest == b.digest) && (a.sign.key == b.sign.key) && (a.sign.digest == b.sign.digest)) := by
  obtain ⟨a0, ⟨a1key, a1digest⟩⟩ := a
  obtain ⟨b0, ⟨b1key, b1digest⟩⟩ := b
  rw [Bool.eq_iff_iff, eqB_iff]
  simp [and_assoc]
theorem placed_eqB (a b : PlacedD) : eqB a b = (decide (a.topic = b.topic) && (a.offset == b.offset) && eqB a.record b.record) := by
  obtain ⟨a0, a1, a2⟩ := a
  obtain ⟨b0, b1, b2⟩ := b
  rw [Bool.eq_iff_iff, eqB_iff]
  simp [eqB_iff, and_assoc]
theorem mark_eqB (a b : MarkD) : eqB a b = ((a.header.seq == b.header.seq) && (a.header.prev == b.header.prev) && (a.header.batch == b.header.batch) && (a.header.root == b.header.root) && (a.header.state == b.header.state) && eqB a.topics b.topics) := by
  obtain ⟨⟨a0seq, a0prev, a0batch, a0root, a0state⟩, a1⟩ := a
  obtain ⟨⟨b0seq, b0prev, b0batch, b0root, b0state⟩, b1⟩ := b
  rw [Bool.eq_iff_iff, eqB_iff]
  simp [eqB_iff, and_assoc]
theorem block_eqB (a b : BlockD) : eqB a b = ((a.header.seq == b.header.seq) && (a.header.prev == b.header.prev) && (a.header.batch == b.header.batch) && (a.header.root == b.header.root) && (a.header.state == b.header.state) && eqB a.batch b.batch && eqB a.placed b.placed) := by
  obtain ⟨⟨a0seq, a0prev, a0batch, a0root, a0state⟩, a1, a2⟩ := a
  obtain ⟨⟨b0seq, b0prev, b0batch, b0root, b0state⟩, b1, b2⟩ := b
  rw [Bool.eq_iff_iff, eqB_iff]
  simp [eqB_iff, and_assoc]
theorem slot_eqB (a b : SlotD) : eqB a b = ((a.seq == b.seq) && (a.has == b.has) && (a.digest == b.digest) && (a.firstS.key == b.firstS.key) && (a.firstS.digest == b.firstS.digest) && eqB a.batch b.batch && eqB a.prepares b.prepares && eqB a.commits b.commits) := by
  obtain ⟨a0, a1, a2, ⟨a3key, a3digest⟩, a4, a5, a6⟩ := a
  obtain ⟨b0, b1, b2, ⟨b3key, b3digest⟩, b4, b5, b6⟩ := b
  rw [Bool.eq_iff_iff, eqB_iff]
  simp [eqB_iff, and_assoc]
theorem points_eqB (a b : PointsD) : eqB a b = (eqB a.stable b.stable && eqB a.votes b.votes && eqB a.certs b.certs) := by
  obtain ⟨a0, a1, a2⟩ := a
  obtain ⟨b0, b1, b2⟩ := b
  rw [Bool.eq_iff_iff, eqB_iff]
  simp [eqB_iff, and_assoc]
theorem core_eqB (a b : CoreD) : eqB a b = ((a.view == b.view) && (a.active == b.active) && (a.ticks == b.ticks) && (a.floor == b.floor) && (a.base.seq == b.base.seq) && (a.base.prev == b.base.prev) && (a.base.batch == b.base.batch) && (a.base.root == b.base.root) && (a.base.state == b.base.state) && eqB a.blocks b.blocks && eqB a.topics b.topics && eqB a.points b.points && eqB a.certs b.certs && eqB a.marks b.marks && eqB a.slots b.slots && eqB a.held b.held && eqB a.changes b.changes && eqB a.pool b.pool && (a.timer.length == b.timer.length) && (a.timer.left == b.timer.left) && eqB a.news b.news && (a.wants == b.wants)) := by
  obtain ⟨a0, a1, a2, a3, ⟨a4seq, a4prev, a4batch, a4root, a4state⟩, a5, a6, a7, a8, a9, a10, a11, a12, a13, ⟨a14length, a14left⟩, a15, a16⟩ := a
  obtain ⟨b0, b1, b2, b3, ⟨b4seq, b4prev, b4batch, b4root, b4state⟩, b5, b6, b7, b8, b9, b10, b11, b12, b13, ⟨b14length, b14left⟩, b15, b16⟩ := b
  rw [Bool.eq_iff_iff, eqB_iff]
  simp [eqB_iff, and_assoc]
theorem r13SameSigns_s [Wd] (l k : List (SignD)) (hl : l.length ≤ 4194304) : FnP Tryz.prog 186 [.list 2 (l.map cSign), .list 2 (k.map cSign)] (.bool (eqB l k)) := by
  have HL : l.length ≤ 4194304 := hl
  refine mkS 26 [] Tryz.func186 rfl (by kernel_rfl) ?_
  repeat'
    (conv => arg 2; whnf)
    first
    | refine okAsk (by kernel_rfl) ?_
    | refine okBoth ?_ ?_
    | refine okBrT ?_
    | refine okBrF ?_
    | refine okBr (fun h => ?_) (fun h => ?_)
    | (refine endBool (.inr rfl) rfl ?_; exact (eqB_len (by simp at h; omega)).symm)
  have hn : l.length = k.length := by simp at h; omega
  refine okLoop (α := Nat) (fun q => ⟨[(5, .int .i64 q), (0, .list 2 (l.map cSign)), (1, .list 2 (k.map cSign))], []⟩) (fun q => q ≤ l.length ∧ l.take q = k.take q) (fun q => l.length - q) 0 ⟨Nat.zero_le _, rfl⟩ (Sv.mk' [] rfl trivial ⟨rfl, rfl, rfl, trivial⟩) ?_
  rintro q ⟨hq, he⟩
  repeat'
    (conv => arg 2; whnf)
    first
    | refine okAsk (by kernel_rfl) ?_
    | refine okBoth ?_ ?_
    | refine okBrT ?_
    | refine okBrF ?_
    | refine okBr (fun h => ?_) (fun h => ?_)
    | refine okNthMap (l := l) (by simp at h; omega) (fun x hx => ?_)
    | refine okNthMap (l := k) (by simp at h; omega) (fun y hy => ?_)
    | refine okWrap (w64 (by simp at h hq; omega) (by have := HL; simp at h hq; omega)) ?_
    | refine okAgain (q + 1) (Sv.mk' [] rfl trivial ⟨rfl, rfl, rfl, trivial⟩) ⟨by have := (List.getElem?_eq_some_iff.1 hx).1; omega, eqB_go hx hy (by rw [← sign_eqB]; rw [Bool.true_and] at h; first | exact (Bool.not_eq_true' _).mp h | exact (Bool.not_eq_false' _).mp h) he⟩ (by have := (List.getElem?_eq_some_iff.1 hx).1; omega)
    | refine okOut ?_
    | refine okRet ?_
    | (refine endBool (.inr rfl) rfl ?_; have hl := eqB_no hx hy (by rw [← sign_eqB]; rw [Bool.true_and] at h; first | exact (Bool.not_eq_true' _).mp h | exact (Bool.not_eq_false' _).mp h); exact hl.symm; done)
    | (have hl := eqB_all hn (by simp at h; omega) he; refine endBool (.inr rfl) rfl ?_; exact hl.symm; done)
theorem r13sameVotes_s [Wd] (l k : List (VoteOfD)) (hl : l.length ≤ 4194304) : FnP Tryz.prog 185 [.list 3 (l.map cVoteOf), .list 3 (k.map cVoteOf)] (.bool (eqB l k)) := by
  have HL : l.length ≤ 4194304 := hl
  refine mkS 26 [] Tryz.func185 rfl (by kernel_rfl) ?_
  repeat'
    (conv => arg 2; whnf)
    first
    | refine okAsk (by kernel_rfl) ?_
    | refine okBoth ?_ ?_
    | refine okBrT ?_
    | refine okBrF ?_
    | refine okBr (fun h => ?_) (fun h => ?_)
    | (refine endBool (.inr rfl) rfl ?_; exact (eqB_len (by simp at h; omega)).symm)
  have hn : l.length = k.length := by simp at h; omega
  refine okLoop (α := Nat) (fun q => ⟨[(5, .int .i64 q), (0, .list 3 (l.map cVoteOf)), (1, .list 3 (k.map cVoteOf))], []⟩) (fun q => q ≤ l.length ∧ l.take q = k.take q) (fun q => l.length - q) 0 ⟨Nat.zero_le _, rfl⟩ (Sv.mk' [] rfl trivial ⟨rfl, rfl, rfl, trivial⟩) ?_
  rintro q ⟨hq, he⟩
  repeat'
    (conv => arg 2; whnf)
    first
    | refine okAsk (by kernel_rfl) ?_
    | refine okBoth ?_ ?_
    | refine okBrT ?_
    | refine okBrF ?_
    | refine okBr (fun h => ?_) (fun h => ?_)
    | refine okNthMap (l := l) (by simp at h; omega) (fun x hx => ?_)
    | refine okNthMap (l := k) (by simp at h; omega) (fun y hy => ?_)
    | refine okWrap (w64 (by simp at h hq; omega) (by have := HL; simp at h hq; omega)) ?_
    | refine okAgain (q + 1) (Sv.mk' [] rfl trivial ⟨rfl, rfl, rfl, trivial⟩) ⟨by have := (List.getElem?_eq_some_iff.1 hx).1; omega, eqB_go hx hy (by rw [voteof_eqB]; revert h; cases (x.digest == y.digest) <;> cases (x.sign.key == y.sign.key) <;> cases (x.sign.digest == y.sign.digest) <;> simp) he⟩ (by have := (List.getElem?_eq_some_iff.1 hx).1; omega)
    | refine okOut ?_
    | refine okRet ?_
    | (refine endBool (.inr rfl) rfl ?_; have hl := eqB_no hx hy (by rw [voteof_eqB]; revert h; cases (x.digest == y.digest) <;> cases (x.sign.key == y.sign.key) <;> cases (x.sign.digest == y.sign.digest) <;> simp); exact hl.symm; done)
    | (have hl := eqB_all hn (by simp at h; omega) he; refine endBool (.inr rfl) rfl ?_; exact hl.symm; done)
theorem r13SameProof_s [Wd] (a b : PreparedD) (ha : dPrepared.ok a) (hb : dPrepared.ok b) : FnP Tryz.prog 105 [.agg (cPrepared a), .agg (cPrepared b)] (.bool (eqB a b)) := by
  refine mkS 45 [] Tryz.func105 rfl (by kernel_rfl) ?_
  repeat'
    (conv => arg 2; whnf)
    first
    | refine okAsk (by kernel_rfl) ?_
    | refine okBoth ?_ ?_
    | refine okBrT ?_
    | refine okBrF ?_
    | refine okBr (fun h => ?_) (fun h => ?_)
    | refine okFn (r13SameSigns_s a.signs b.signs ha.2.2.2.2.1.1) rfl (Cos.refl _) ?_
    | refine okFn (rBatch_s a.batch b.batch ha.2.2.2.2.2 hb.2.2.2.2.2) rfl (Cos.refl _) ?_
    | (refine endBool (.inr rfl) rfl ?_; rw [prepared_eqB]; simp_all; done)
    | (exfalso; simp_all; done)
theorem r15SameAll_s [Wd] (l k : List (PreparedD)) (hl : (dL dPrepared).ok l) (hk : (dL dPrepared).ok k) : FnP Tryz.prog 25 [.list 7 (l.map cPrepared), .list 7 (k.map cPrepared)] (.bool (eqB l k)) := by
  have HL : l.length ≤ 4194304 := hl.1
  refine mkS 27 [] Tryz.func25 rfl (by kernel_rfl) ?_
  repeat'
    (conv => arg 2; whnf)
    first
    | refine okAsk (by kernel_rfl) ?_
    | refine okBoth ?_ ?_
    | refine okBrT ?_
    | refine okBrF ?_
    | refine okBr (fun h => ?_) (fun h => ?_)
    | (refine endBool (.inr rfl) rfl ?_; exact (eqB_len (by simp at h; omega)).symm)
  have hn : l.length = k.length := by simp at h; omega
  refine okLoop (α := Nat) (fun q => ⟨[(5, .int .i64 q), (0, .list 7 (l.map cPrepared)), (1, .list 7 (k.map cPrepared))], []⟩) (fun q => q ≤ l.length ∧ l.take q = k.take q) (fun q => l.length - q) 0 ⟨Nat.zero_le _, rfl⟩ (Sv.mk' [] rfl trivial ⟨rfl, rfl, rfl, trivial⟩) ?_
  rintro q ⟨hq, he⟩
  repeat'
    (conv => arg 2; whnf)
    first
    | refine okAsk (by kernel_rfl) ?_
    | refine okBoth ?_ ?_
    | refine okBrT ?_
    | refine okBrF ?_
    | refine okBr (fun h => ?_) (fun h => ?_)
    | refine okNthAt hx ?_
    | refine okNthAt hy ?_
    | refine okNthMap (l := l) (by simp at h; omega) (fun x hx => ?_)
    | refine okNthMap (l := k) (by simp at h; omega) (fun y hy => ?_)
    | refine okFn (r13SameProof_s x y (hl.2 x (List.mem_of_getElem? hx)) (hk.2 y (List.mem_of_getElem? hy))) rfl (Cos.refl _) ?_
    | refine okWrap (w64 (by simp at h hq; omega) (by have := HL; simp at h hq; omega)) ?_
    | refine okAgain (q + 1) (Sv.mk' [] rfl trivial ⟨rfl, rfl, rfl, trivial⟩) ⟨by have := (List.getElem?_eq_some_iff.1 hx).1; omega, eqB_go hx hy (by simpa using h) he⟩ (by have := (List.getElem?_eq_some_iff.1 hx).1; omega)
    | refine okOut ?_
    | refine okRet ?_
    | (refine endBool (.inr rfl) rfl ?_; have hl := eqB_no hx hy (by simpa using h); exact hl.symm; done)
    | (have hl := eqB_all hn (by simp at h; omega) he; refine endBool (.inr rfl) rfl ?_; exact hl.symm; done)
theorem r13Same_s [Wd] (a b : SlotD) (ha : dSlot.ok a) (hb : dSlot.ok b) : FnP Tryz.prog 104 [.agg (cSlot a), .agg (cSlot b)] (.bool (eqB a b)) := by
  refine mkS 52 [] Tryz.func104 rfl (by kernel_rfl) ?_
  repeat'
    (conv => arg 2; whnf)
    first
    | refine okAsk (by kernel_rfl) ?_
    | refine okBoth ?_ ?_
    | refine okBrT ?_
    | refine okBrF ?_
    | refine okBr (fun h => ?_) (fun h => ?_)
    | refine okFn (rBatch_s a.batch b.batch ha.2.2.2.2.1 hb.2.2.2.2.1) rfl (Cos.refl _) ?_
    | refine okFn (r13sameVotes_s a.prepares b.prepares ha.2.2.2.2.2.1.1) rfl (Cos.refl _) ?_
    | refine okFn (r13sameVotes_s a.commits b.commits ha.2.2.2.2.2.2.1) rfl (Cos.refl _) ?_
    | (refine endBool (.inr rfl) rfl ?_; rw [slot_eqB]; simp_all; done)
    | (exfalso; simp_all; done)
theorem r13SameAll_s [Wd] (l k : List (SlotD)) (hl : (dL dSlot).ok l) (hk : (dL dSlot).ok k) : FnP Tryz.prog 24 [.list 8 (l.map cSlot), .list 8 (k.map cSlot)] (.bool (eqB l k)) := by
  have HL : l.length ≤ 4194304 := hl.1
  refine mkS 27 [] Tryz.func24 rfl (by kernel_rfl) ?_
  repeat'
    (conv => arg 2; whnf)
    first
    | refine okAsk (by kernel_rfl) ?_
    | refine okBoth ?_ ?_
    | refine okBrT ?_
    | refine okBrF ?_
    | refine okBr (fun h => ?_) (fun h => ?_)
    | (refine endBool (.inr rfl) rfl ?_; exact (eqB_len (by simp at h; omega)).symm)
  have hn : l.length = k.length := by simp at h; omega
  refine okLoop (α := Nat) (fun q => ⟨[(5, .int .i64 q), (0, .list 8 (l.map cSlot)), (1, .list 8 (k.map cSlot))], []⟩) (fun q => q ≤ l.length ∧ l.take q = k.take q) (fun q => l.length - q) 0 ⟨Nat.zero_le _, rfl⟩ (Sv.mk' [] rfl trivial ⟨rfl, rfl, rfl, trivial⟩) ?_
  rintro q ⟨hq, he⟩
  repeat'
    (conv => arg 2; whnf)
    first
    | refine okAsk (by kernel_rfl) ?_
    | refine okBoth ?_ ?_
    | refine okBrT ?_
    | refine okBrF ?_
    | refine okBr (fun h => ?_) (fun h => ?_)
    | refine okNthAt hx ?_
    | refine okNthAt hy ?_
    | refine okNthMap (l := l) (by simp at h; omega) (fun x hx => ?_)
    | refine okNthMap (l := k) (by simp at h; omega) (fun y hy => ?_)
    | refine okFn (r13Same_s x y (hl.2 x (List.mem_of_getElem? hx)) (hk.2 y (List.mem_of_getElem? hy))) rfl (Cos.refl _) ?_
    | refine okWrap (w64 (by simp at h hq; omega) (by have := HL; simp at h hq; omega)) ?_
    | refine okAgain (q + 1) (Sv.mk' [] rfl trivial ⟨rfl, rfl, rfl, trivial⟩) ⟨by have := (List.getElem?_eq_some_iff.1 hx).1; omega, eqB_go hx hy (by simpa using h) he⟩ (by have := (List.getElem?_eq_some_iff.1 hx).1; omega)
    | refine okOut ?_
    | refine okRet ?_
    | (refine endBool (.inr rfl) rfl ?_; have hl := eqB_no hx hy (by simpa using h); exact hl.symm; done)
    | (have hl := eqB_all hn (by simp at h; omega) he; refine endBool (.inr rfl) rfl ?_; exact hl.symm; done)
theorem rwSameCerts_s [Wd] (l k : List (CertD)) (hl : (dL dCert).ok l) (hk : (dL dCert).ok k) : FnP Tryz.prog 23 [.list 3 (l.map cCert), .list 3 (k.map cCert)] (.bool (eqB l k)) := by
  have HL : l.length ≤ 4194304 := hl.1
  refine mkS 27 [] Tryz.func23 rfl (by kernel_rfl) ?_
  repeat'
    (conv => arg 2; whnf)
    first
    | refine okAsk (by kernel_rfl) ?_
    | refine okBoth ?_ ?_
    | refine okBrT ?_
    | refine okBrF ?_
    | refine okBr (fun h => ?_) (fun h => ?_)
    | (refine endBool (.inr rfl) rfl ?_; exact (eqB_len (by simp at h; omega)).symm)
  have hn : l.length = k.length := by simp at h; omega
  refine okLoop (α := Nat) (fun q => ⟨[(5, .int .i64 q), (0, .list 3 (l.map cCert)), (1, .list 3 (k.map cCert))], []⟩) (fun q => q ≤ l.length ∧ l.take q = k.take q) (fun q => l.length - q) 0 ⟨Nat.zero_le _, rfl⟩ (Sv.mk' [] rfl trivial ⟨rfl, rfl, rfl, trivial⟩) ?_
  rintro q ⟨hq, he⟩
  repeat'
    (conv => arg 2; whnf)
    first
    | refine okAsk (by kernel_rfl) ?_
    | refine okBoth ?_ ?_
    | refine okBrT ?_
    | refine okBrF ?_
    | refine okBr (fun h => ?_) (fun h => ?_)
    | refine okNthAt hx ?_
    | refine okNthAt hy ?_
    | refine okNthMap (l := l) (by simp at h; omega) (fun x hx => ?_)
    | refine okNthMap (l := k) (by simp at h; omega) (fun y hy => ?_)
    | refine okFn (rCert_s x y (hl.2 x (List.mem_of_getElem? hx)) (hk.2 y (List.mem_of_getElem? hy))) rfl (Cos.refl _) ?_
    | refine okWrap (w64 (by simp at h hq; omega) (by have := HL; simp at h hq; omega)) ?_
    | refine okAgain (q + 1) (Sv.mk' [] rfl trivial ⟨rfl, rfl, rfl, trivial⟩) ⟨by have := (List.getElem?_eq_some_iff.1 hx).1; omega, eqB_go hx hy (by simpa using h) he⟩ (by have := (List.getElem?_eq_some_iff.1 hx).1; omega)
    | refine okOut ?_
    | refine okRet ?_
    | (refine endBool (.inr rfl) rfl ?_; have hl := eqB_no hx hy (by simpa using h); exact hl.symm; done)
    | (have hl := eqB_all hn (by simp at h; omega) he; refine endBool (.inr rfl) rfl ?_; exact hl.symm; done)
theorem rwSamePoints_s [Wd] (a b : PointsD) (ha : dPoints.ok a) (hb : dPoints.ok b) : FnP Tryz.prog 22 [.agg (cPoints a), .agg (cPoints b)] (.bool (eqB a b)) := by
  refine mkS 47 [] Tryz.func22 rfl (by kernel_rfl) ?_
  repeat'
    (conv => arg 2; whnf)
    first
    | refine okAsk (by kernel_rfl) ?_
    | refine okBoth ?_ ?_
    | refine okBrT ?_
    | refine okBrF ?_
    | refine okBr (fun h => ?_) (fun h => ?_)
    | refine okFn (rCert_s a.stable b.stable ha.1 hb.1) rfl (Cos.refl _) ?_
    | refine okFn (rwSameCerts_s a.certs b.certs ha.2.2 hb.2.2) rfl (Cos.refl _) ?_
    | (refine endBool (.inr rfl) rfl ?_; rw [points_eqB]; simp_all; done)
    | (refine endBool (.inr rfl) rfl ?_; rw [points_eqB, eqB_len (l := a.votes) (k := b.votes) (by simp at h; omega)]; simp; done)
    | (exfalso; simp_all; done)
  have HL : a.votes.length ≤ 4194304 := ha.2.1.1
  have hl := ha.2.1
  have hk := hb.2.1
  have hn : a.votes.length = b.votes.length := by
    have e : (a.votes.length : Int) = b.votes.length := by simp_all
    omega
  refine okLoop (α := Nat) (fun q => ⟨[(5, .int .i64 q), (2, .ptr 0 0), (3, .ptr 1 0)], [.cells 33 (cPoints a), .cells 33 (cPoints b)]⟩) (fun q => q ≤ a.votes.length ∧ a.votes.take q = b.votes.take q) (fun q => a.votes.length - q) 0 ⟨Nat.zero_le _, rfl⟩ (Sv.mk' [0, 1] rfl ⟨⟨rfl, rfl⟩, ⟨rfl, rfl⟩, trivial⟩ ⟨rfl, rfl, rfl, trivial⟩) ?_
  rintro q ⟨hq, he⟩
  repeat'
    (conv => arg 2; whnf)
    first
    | refine okAsk (by kernel_rfl) ?_
    | refine okBoth ?_ ?_
    | refine okBrT ?_
    | refine okBrF ?_
    | refine okBr (fun h => ?_) (fun h => ?_)
    | refine okNthMap (l := a.votes) (by simp at h; omega) (fun x hx => ?_)
    | refine okNthMap (l := b.votes) (by simp at h; omega) (fun y hy => ?_)
    | refine okWrap (w64 (by simp at h hq; omega) (by have := HL; simp at h hq; omega)) ?_
    | refine okAgain (q + 1) (Sv.mk' [0, 1] rfl ⟨⟨rfl, rfl⟩, ⟨rfl, rfl⟩, trivial⟩ ⟨rfl, rfl, rfl, trivial⟩) ⟨by have := (List.getElem?_eq_some_iff.1 hx).1; omega, eqB_go hx hy (by rw [vote_eqB]; revert h; cases (x.seq == y.seq) <;> cases (x.digest == y.digest) <;> cases (x.sign.key == y.sign.key) <;> cases (x.sign.digest == y.sign.digest) <;> simp) he⟩ (by have := (List.getElem?_eq_some_iff.1 hx).1; omega)
    | refine okOut ?_
    | refine okRet ?_
    | (refine endBool (.inr rfl) rfl ?_; have hl := eqB_no hx hy (by rw [vote_eqB]; revert h; cases (x.seq == y.seq) <;> cases (x.digest == y.digest) <;> cases (x.sign.key == y.sign.key) <;> cases (x.sign.digest == y.sign.digest) <;> simp); rw [points_eqB, hl]; simp; done)
    | (have hl := eqB_all hn (by simp at h; omega) he; refine endBool (.inr rfl) rfl ?_; rw [points_eqB]; simp_all; done)
theorem rwSameBlocks_s [Wd] (l k : List BlockD) (hl : (dL dBlock).ok l) (hk : (dL dBlock).ok k) : FnP Tryz.prog 21 [.list 7 (l.map cBlock), .list 7 (k.map cBlock)] (.bool (eqB l k)) := by
  have HL : l.length ≤ 4194304 := hl.1
  refine mkT 107 [(6, ⟨(.one 0 false (.one 1 false (.one 2 false (.one 3 false (.one 4 false (.one 5 false (.one 6 false (.one 7 false (.one 8 false (.one 9 false (.one 10 false (.one 11 false (.one 12 false (.one 13 false (.one 14 false (.one 15 false (.one 16 false (.one 17 false (.one 18 false (.one 19 false (.one 20 false (.one 21 false (.one 22 true (.one 23 false (.one 24 false (.one 25 false (.one 26 false (.one 27 false (.one 28 false (.one 29 false (.one 32 false (.one 33 false (.one 34 false (.one 35 false (.alt 30 (.one 31 false (.one 36 true (.one 37 false (.one 38 false (.one 39 false .done))))) (.one 36 true (.one 37 false (.one 30 true (.one 31 false (.one 38 false (.one 39 false .done))))))))))))))))))))))))))))))))))))))))), []⟩)] Tryz.func21 rfl (by kernel_rfl) ?_
  repeat'
    (conv => arg 2; whnf)
    first
    | refine okAsk (by kernel_rfl) ?_
    | refine okBoth ?_ ?_
    | refine okBrT ?_
    | refine okBrF ?_
    | refine okBr (fun h => ?_) (fun h => ?_)
    | (refine endBool (.inr rfl) rfl ?_; exact (eqB_len (by simp at h; omega)).symm)
  have hn : l.length = k.length := by simp at h; omega
  refine okLoop (α := Nat) (fun q => ⟨[(5, .int .i64 q), (0, .list 7 (l.map cBlock)), (1, .list 7 (k.map cBlock))], []⟩) (fun q => q ≤ l.length ∧ l.take q = k.take q) (fun q => l.length - q) 0 ⟨Nat.zero_le _, rfl⟩ (Sv.mk' [] rfl trivial ⟨rfl, rfl, rfl, trivial⟩) ?_
  clear h
  rintro q ⟨hq, he⟩
  repeat'
    (conv => arg 2; whnf)
    first
    | refine okAsk (by kernel_rfl) ?_
    | refine okBoth ?_ ?_
    | refine okBrT ?_
    | refine okBrF ?_
    | refine okBr (fun h => ?_) (fun h => ?_)
    | refine okNthAt hx ?_
    | refine okNthAt hy ?_
    | refine okNthMap (l := l) (by simp at h; omega) (fun x hx => ?_)
    | refine okNthMap (l := k) (by simp at h; omega) (fun y hy => ?_)
    | refine okFn (rBatch_s x.batch y.batch (hl.2 x (List.mem_of_getElem? hx)).2.1 (hk.2 y (List.mem_of_getElem? hy)).2.1) rfl (Cos.refl _) ?_
    | refine okOut ?_
    | refine okRet ?_
    | (refine endBool (.inr rfl) rfl ?_; refine (eqB_no hx hy ?_).symm; rw [block_eqB]; first | (rw [eqB_len (l := x.placed) (k := y.placed) (by simp at h; omega)]; simp; done) | (simp_all; done))
    | (refine endBool (.inr rfl) rfl ?_; exact (eqB_all hn (by simp at h; omega) he).symm)
  all_goals
    have hpn : x.placed.length = y.placed.length := by simp at h; omega
    have hPX := (hl.2 x (List.mem_of_getElem? hx)).2.2
    have hPY := (hk.2 y (List.mem_of_getElem? hy)).2.2
    have HP : x.placed.length ≤ 4194304 := hPX.1
    have hqk : eqB x y = eqB x.placed y.placed := by rw [block_eqB]; simp_all
    clear h
    refine okLoop (α := Nat) (fun j => ⟨[(6, .int .i64 j), (5, .int .i64 q), (0, .list 7 (l.map cBlock)), (1, .list 7 (k.map cBlock))], []⟩) (fun j => j ≤ x.placed.length ∧ x.placed.take j = y.placed.take j) (fun j => x.placed.length - j) 0 ⟨Nat.zero_le _, rfl⟩ (Sv.mk' [] rfl trivial ⟨rfl, rfl, rfl, rfl, trivial⟩) ?_
    rintro j ⟨hj, hf⟩
    replace hj : j ≤ x.placed.length := hj
    replace hq : q ≤ l.length := hq
    have hql := (List.getElem?_eq_some_iff.1 hx).1
    repeat'
      (conv => arg 2; whnf)
      first
      | refine okAsk (by kernel_rfl) ?_
      | refine okBoth ?_ ?_
      | refine okBrT ?_
      | refine okBrF ?_
      | refine okBr (fun h => ?_) (fun h => ?_)
      | refine okNthAt hx ?_
      | refine okNthAt hy ?_
      | refine okNthAt hp ?_
      | refine okNthAt hr ?_
      | refine okNthMap (l := x.placed) (by simp at h; omega) (fun p hp => ?_)
      | refine okNthMap (l := y.placed) (by simp at h; omega) (fun r hr => ?_)
      | refine okByts p.record rfl ?_
      | refine okByts r.record rfl ?_
      | refine okAsk (by have h1 : p.record.length ≤ 4194304 := (hPX.2 p (List.mem_of_getElem? hp)).2.2; omega) ?_
      | refine okAsk (by have h1 : r.record.length ≤ 4194304 := (hPY.2 r (List.mem_of_getElem? hr)).2.2; omega) ?_
      | refine okWrap (w64 (by omega) (by omega)) ?_
      | refine okAgain (j + 1) (Sv.mk' [] rfl trivial ⟨rfl, rfl, rfl, rfl, trivial⟩) ⟨by have := (List.getElem?_eq_some_iff.1 hp).1; omega, eqB_go hp hr (by rw [placed_eqB]; simp_all [← decE]) hf⟩ (by have := (List.getElem?_eq_some_iff.1 hp).1; omega)
      | refine okAgain (q + 1) (Sv.mk' [] rfl trivial ⟨rfl, rfl, rfl, trivial⟩) ⟨by omega, eqB_go hx hy (by rw [hqk]; exact eqB_all hpn (by simp at h; omega) hf) he⟩ (by omega)
      | refine okOut ?_
      | refine okRet ?_
      | (refine endBool (.inr rfl) rfl ?_; refine (eqB_no hx hy ?_).symm; rw [hqk]; refine eqB_no hp hr ?_; rw [placed_eqB]; simp_all [← decE]; done)
/-- what of two cores is told last -/
noncomputable def restB (a b : CoreD) : Bool := eqB a.marks b.marks && (eqB a.changes b.changes && eqB a.news b.news)
theorem rwSameRest_s [Wd] (a b : CoreD) (ha : dCore.ok a) (hb : dCore.ok b) : FnP Tryz.prog 27 [.agg (cCore a), .agg (cCore b)] (.bool (restB a b)) := by
  refine mkS 108 [] Tryz.func27 rfl (by kernel_rfl) ?_
  repeat'
    (conv => arg 2; whnf)
    first
    | refine okAsk (by kernel_rfl) ?_
    | refine okBoth ?_ ?_
    | refine okBrT ?_
    | refine okBrF ?_
    | refine okBr (fun h => ?_) (fun h => ?_)
    | (refine endBool (.inr rfl) rfl ?_; unfold restB; rw [eqB_len (l := a.marks) (k := b.marks) (by simp at h; omega)]; simp; done)
    | (refine endBool (.inr rfl) rfl ?_; unfold restB; rw [eqB_len (l := a.changes) (k := b.changes) (by simp at h; omega)]; simp; done)
    | (refine endBool (.inr rfl) rfl ?_; unfold restB; rw [eqB_len (l := a.news) (k := b.news) (by simp at h; omega)]; simp; done)
    | (exfalso; simp_all; done)
  have HL : a.marks.length ≤ 4194304 := ha.2.2.2.2.2.2.2.2.2.1.1
  have hl := ha.2.2.2.2.2.2.2.2.2.1
  have hk := hb.2.2.2.2.2.2.2.2.2.1
  have hn : a.marks.length = b.marks.length := by
    have e : (a.marks.length : Int) = b.marks.length := by simp_all
    omega
  refine okLoop (α := Nat) (fun q => ⟨[(5, .int .i64 q), (2, .ptr 0 0), (3, .ptr 1 0)], [.cells 45 (cCore a), .cells 45 (cCore b)]⟩) (fun q => q ≤ a.marks.length ∧ a.marks.take q = b.marks.take q) (fun q => a.marks.length - q) 0 ⟨Nat.zero_le _, rfl⟩ (Sv.mk' [0, 1] rfl ⟨⟨rfl, rfl⟩, ⟨rfl, rfl⟩, trivial⟩ ⟨rfl, rfl, rfl, trivial⟩) ?_
  rintro q ⟨hq, he⟩
  repeat'
    (conv => arg 2; whnf)
    first
    | refine okAsk (by kernel_rfl) ?_
    | refine okBoth ?_ ?_
    | refine okBrT ?_
    | refine okBrF ?_
    | refine okBr (fun h => ?_) (fun h => ?_)
    | refine okNthAt hx ?_
    | refine okNthAt hy ?_
    | refine okNthMap (l := a.marks) (by simp at h; omega) (fun x hx => ?_)
    | refine okNthMap (l := b.marks) (by simp at h; omega) (fun y hy => ?_)
    | refine okByts x.topics rfl ?_
    | refine okByts y.topics rfl ?_
    | refine okAsk (by have h1 : x.topics.length ≤ 4194304 := (hl.2 x (List.mem_of_getElem? hx)).2; omega) ?_
    | refine okAsk (by have h1 : y.topics.length ≤ 4194304 := (hk.2 y (List.mem_of_getElem? hy)).2; omega) ?_
    | refine okWrap (w64 (by simp at h hq; omega) (by have := HL; simp at h hq; omega)) ?_
    | refine okAgain (q + 1) (Sv.mk' [0, 1] rfl ⟨⟨rfl, rfl⟩, ⟨rfl, rfl⟩, trivial⟩ ⟨rfl, rfl, rfl, trivial⟩) ⟨by have := (List.getElem?_eq_some_iff.1 hx).1; omega, eqB_go hx hy (by rw [mark_eqB]; simp_all [← decE]) he⟩ (by have := (List.getElem?_eq_some_iff.1 hx).1; omega)
    | refine okOut ?_
    | refine okRet ?_
    | (refine endBool (.inr rfl) rfl ?_; have hl := eqB_no hx hy (by rw [mark_eqB]; simp_all [← decE]); unfold restB; rw [hl]; simp; done)
    | (have hl := eqB_all hn (by simp at h; omega) he; refine endBool (.inr rfl) rfl ?_; unfold restB; simp_all; done)
  have hl0 := eqB_all hn (by simp at h; omega) he
  clear hq he h
  have HL : a.changes.length ≤ 4194304 := ha.2.2.2.2.2.2.2.2.2.2.2.2.1.1
  have hl := ha.2.2.2.2.2.2.2.2.2.2.2.2.1
  have hk := hb.2.2.2.2.2.2.2.2.2.2.2.2.1
  have hn : a.changes.length = b.changes.length := by
    have e : (a.changes.length : Int) = b.changes.length := by simp_all
    omega
  refine okLoop (α := Nat) (fun q => ⟨[(6, .int .i64 q), (2, .ptr 0 0), (3, .ptr 1 0)], [.cells 45 (cCore a), .cells 45 (cCore b)]⟩) (fun q => q ≤ a.changes.length ∧ a.changes.take q = b.changes.take q) (fun q => a.changes.length - q) 0 ⟨Nat.zero_le _, rfl⟩ (Sv.mk' [0, 1] rfl ⟨⟨rfl, rfl⟩, ⟨rfl, rfl⟩, trivial⟩ ⟨rfl, rfl, rfl, trivial⟩) ?_
  rintro q ⟨hq, he⟩
  repeat'
    (conv => arg 2; whnf)
    first
    | refine okAsk (by kernel_rfl) ?_
    | refine okBoth ?_ ?_
    | refine okBrT ?_
    | refine okBrF ?_
    | refine okBr (fun h => ?_) (fun h => ?_)
    | refine okNthAt hx ?_
    | refine okNthAt hy ?_
    | refine okNthMap (l := a.changes) (by simp at h; omega) (fun x hx => ?_)
    | refine okNthMap (l := b.changes) (by simp at h; omega) (fun y hy => ?_)
    | refine okFn (rChange_s x y (hl.2 x (List.mem_of_getElem? hx)) (hk.2 y (List.mem_of_getElem? hy))) rfl (Cos.refl _) ?_
    | refine okWrap (w64 (by simp at h hq; omega) (by have := HL; simp at h hq; omega)) ?_
    | refine okAgain (q + 1) (Sv.mk' [0, 1] rfl ⟨⟨rfl, rfl⟩, ⟨rfl, rfl⟩, trivial⟩ ⟨rfl, rfl, rfl, trivial⟩) ⟨by have := (List.getElem?_eq_some_iff.1 hx).1; omega, eqB_go hx hy (by simpa using h) he⟩ (by have := (List.getElem?_eq_some_iff.1 hx).1; omega)
    | refine okOut ?_
    | refine okRet ?_
    | (refine endBool (.inr rfl) rfl ?_; have hl := eqB_no hx hy (by simpa using h); unfold restB; rw [hl]; simp; done)
    | (have hl := eqB_all hn (by simp at h; omega) he; refine endBool (.inr rfl) rfl ?_; unfold restB; simp_all; done)
  have hl1 := eqB_all hn (by simp at h; omega) he
  clear hq he h
  have HL : a.news.length ≤ 4194304 := ha.2.2.2.2.2.2.2.2.2.2.2.2.2.2.2.1.1
  have hl := ha.2.2.2.2.2.2.2.2.2.2.2.2.2.2.2.1
  have hk := hb.2.2.2.2.2.2.2.2.2.2.2.2.2.2.2.1
  have hn : a.news.length = b.news.length := by
    have e : (a.news.length : Int) = b.news.length := by simp_all
    omega
  refine okLoop (α := Nat) (fun q => ⟨[(7, .int .i64 q), (2, .ptr 0 0), (3, .ptr 1 0)], [.cells 45 (cCore a), .cells 45 (cCore b)]⟩) (fun q => q ≤ a.news.length ∧ a.news.take q = b.news.take q) (fun q => a.news.length - q) 0 ⟨Nat.zero_le _, rfl⟩ (Sv.mk' [0, 1] rfl ⟨⟨rfl, rfl⟩, ⟨rfl, rfl⟩, trivial⟩ ⟨rfl, rfl, rfl, trivial⟩) ?_
  rintro q ⟨hq, he⟩
  repeat'
    (conv => arg 2; whnf)
    first
    | refine okAsk (by kernel_rfl) ?_
    | refine okBoth ?_ ?_
    | refine okBrT ?_
    | refine okBrF ?_
    | refine okBr (fun h => ?_) (fun h => ?_)
    | refine okNthAt hx ?_
    | refine okNthAt hy ?_
    | refine okNthMap (l := a.news) (by simp at h; omega) (fun x hx => ?_)
    | refine okNthMap (l := b.news) (by simp at h; omega) (fun y hy => ?_)
    | refine okFn (rMsg_s x y (hl.2 x (List.mem_of_getElem? hx)) (hk.2 y (List.mem_of_getElem? hy))) rfl (Cos.refl _) ?_
    | refine okWrap (w64 (by simp at h hq; omega) (by have := HL; simp at h hq; omega)) ?_
    | refine okAgain (q + 1) (Sv.mk' [0, 1] rfl ⟨⟨rfl, rfl⟩, ⟨rfl, rfl⟩, trivial⟩ ⟨rfl, rfl, rfl, trivial⟩) ⟨by have := (List.getElem?_eq_some_iff.1 hx).1; omega, eqB_go hx hy (by simpa using h) he⟩ (by have := (List.getElem?_eq_some_iff.1 hx).1; omega)
    | refine okOut ?_
    | refine okRet ?_
    | (refine endBool (.inr rfl) rfl ?_; have hl := eqB_no hx hy (by simpa using h); unfold restB; rw [hl]; simp; done)
    | (have hl := eqB_all hn (by simp at h; omega) he; refine endBool (.inr rfl) rfl ?_; unfold restB; simp_all; done)
theorem core_restB (a b : CoreD) : eqB a b = ((((((((((((((a.view == b.view && a.active == b.active) && a.ticks == b.ticks) && a.floor == b.floor) && eqB a.base b.base) && a.wants == b.wants) && ((a.timer.length == b.timer.length) && (a.timer.left == b.timer.left))) && decide (a.topics = b.topics)) && eqB a.blocks b.blocks) && eqB a.points b.points) && eqB a.certs b.certs) && eqB a.slots b.slots) && eqB a.held b.held) && eqB a.pool.waiting b.pool.waiting) && restB a b) := by
  have hp : eqB a.pool b.pool = eqB a.pool.waiting b.pool.waiting := by
    cases a.pool; cases b.pool
    rw [Bool.eq_iff_iff, eqB_iff, eqB_iff]; simp
  rw [core_eqB, hp]
  unfold restB
  rw [decE, ← head_eqB a.base b.base]
  rw [Bool.eq_iff_iff]
  simp only [Bool.and_eq_true]
  constructor
  all_goals (intro h; simp_all)
theorem rwSame_s [Wd] (a b : CoreD) (ha : dCore.ok a) (hb : dCore.ok b) : FnP Tryz.prog 10 [.agg (cCore a), .agg (cCore b)] (.bool (eqB a b)) := by
  have la : a.topics.length ≤ 4194304 := ha.2.2.2.2.2.2.1
  have lb : b.topics.length ≤ 4194304 := hb.2.2.2.2.2.2.1
  refine mkS 110 [] Tryz.func10 rfl (by kernel_rfl) ?_
  repeat'
    (conv => arg 2; whnf)
    first
    | refine okAsk (by kernel_rfl) ?_
    | refine okBoth ?_ ?_
    | refine okBrT ?_
    | refine okBrF ?_
    | refine okBr (fun h => ?_) (fun h => ?_)
    | refine okByts a.topics rfl ?_
    | refine okByts b.topics rfl ?_
    | refine okAsk (by omega) ?_
    | refine okFn (rwSameBlocks_s a.blocks b.blocks ha.2.2.2.2.2.1 hb.2.2.2.2.2.1) rfl (Cos.refl _) ?_
    | refine okFn (rwSamePoints_s a.points b.points ha.2.2.2.2.2.2.2.1 hb.2.2.2.2.2.2.2.1) rfl (Cos.refl _) ?_
    | refine okFn (rwSameCerts_s a.certs b.certs ha.2.2.2.2.2.2.2.2.1 hb.2.2.2.2.2.2.2.2.1) rfl (Cos.refl _) ?_
    | refine okFn (r13SameAll_s a.slots b.slots ha.2.2.2.2.2.2.2.2.2.2.1 hb.2.2.2.2.2.2.2.2.2.2.1) rfl (Cos.refl _) ?_
    | refine okFn (r15SameAll_s a.held b.held ha.2.2.2.2.2.2.2.2.2.2.2.1 hb.2.2.2.2.2.2.2.2.2.2.2.1) rfl (Cos.refl _) ?_
    | refine okFn (rBatch_s a.pool.waiting b.pool.waiting ha.2.2.2.2.2.2.2.2.2.2.2.2.2.1 hb.2.2.2.2.2.2.2.2.2.2.2.2.2.1) rfl (Cos.refl _) ?_
    | refine okFn (rwSameRest_s a b ha hb) rfl (Cos.refl _) ?_
    | (refine endBool (.inr rfl) rfl ?_; rw [core_restB, ← head_eqB a.base b.base]; simp_all; done)
    | (exfalso; simp_all; done)
end Go.Proofs.YteaggenihhaajaaGreat

/- The core that bullalaw20.begun writes, read back: state.Parse on its bytes (printed by gen_ds.py). -/
namespace Go.Proofs.YteaggenihhaajaaGreat
open Go.RowKit
set_option linter.unusedVariables false
set_option maxRecDepth 20000

def mk4 : MarkD := ⟨⟨4, 0, 0, 0, 0⟩, []⟩
/-- begun's core -/
def lvC : CoreD := { view := 3, active := true, ticks := 0, floor := 0, base := zHd, blocks := [], topics := [1, 2], points := ⟨zCert, [], []⟩, certs := [], marks := [mk4], slots := [], held := [], changes := [], pool := ⟨[]⟩, timer := ⟨0, 0⟩, news := [], wants := 0 }
def lb0 : List UInt8 := [3, 1, 0, 0, 6, 3, 0, 0, 0, 0, 0, 0, 2, 1, 2, 3, 0, 0, 0, 0, 0, 0, 1, 6, 3, 4, 0, 0, 0, 0, 0, 0, 0, 0, 0, 0, 0, 0, 0]
def lb1 : List UInt8 := [1, 0, 0, 6, 3, 0, 0, 0, 0, 0, 0, 2, 1, 2, 3, 0, 0, 0, 0, 0, 0, 1, 6, 3, 4, 0, 0, 0, 0, 0, 0, 0, 0, 0, 0, 0, 0, 0]
def lb2 : List UInt8 := [0, 0, 6, 3, 0, 0, 0, 0, 0, 0, 2, 1, 2, 3, 0, 0, 0, 0, 0, 0, 1, 6, 3, 4, 0, 0, 0, 0, 0, 0, 0, 0, 0, 0, 0, 0, 0]
def lb3 : List UInt8 := [0, 6, 3, 0, 0, 0, 0, 0, 0, 2, 1, 2, 3, 0, 0, 0, 0, 0, 0, 1, 6, 3, 4, 0, 0, 0, 0, 0, 0, 0, 0, 0, 0, 0, 0, 0]
def lb4 : List UInt8 := [6, 3, 0, 0, 0, 0, 0, 0, 2, 1, 2, 3, 0, 0, 0, 0, 0, 0, 1, 6, 3, 4, 0, 0, 0, 0, 0, 0, 0, 0, 0, 0, 0, 0, 0]
def lb5 : List UInt8 := [0, 2, 1, 2, 3, 0, 0, 0, 0, 0, 0, 1, 6, 3, 4, 0, 0, 0, 0, 0, 0, 0, 0, 0, 0, 0, 0, 0]
def lb6 : List UInt8 := [2, 1, 2, 3, 0, 0, 0, 0, 0, 0, 1, 6, 3, 4, 0, 0, 0, 0, 0, 0, 0, 0, 0, 0, 0, 0, 0]
def lb7 : List UInt8 := [3, 0, 0, 0, 0, 0, 0, 1, 6, 3, 4, 0, 0, 0, 0, 0, 0, 0, 0, 0, 0, 0, 0, 0]
def lb8 : List UInt8 := [0, 0, 0, 1, 6, 3, 4, 0, 0, 0, 0, 0, 0, 0, 0, 0, 0, 0, 0, 0]
def lb9 : List UInt8 := [0, 0, 1, 6, 3, 4, 0, 0, 0, 0, 0, 0, 0, 0, 0, 0, 0, 0, 0]
def lb10 : List UInt8 := [0, 1, 6, 3, 4, 0, 0, 0, 0, 0, 0, 0, 0, 0, 0, 0, 0, 0]
def lb11 : List UInt8 := [1, 6, 3, 4, 0, 0, 0, 0, 0, 0, 0, 0, 0, 0, 0, 0, 0]
def lb12 : List UInt8 := [0, 0, 0, 0, 0, 0, 0, 0]
def lb13 : List UInt8 := [0, 0, 0, 0, 0, 0, 0]
def lb14 : List UInt8 := [0, 0, 0, 0, 0, 0]
def lb15 : List UInt8 := [0, 0, 0, 0, 0]
def lb16 : List UInt8 := [0, 0, 0, 0]
def lb17 : List UInt8 := [0, 0, 0]
def lb18 : List UInt8 := [0, 0]
def lb19 : List UInt8 := [0]
def lb20 : List UInt8 := []
theorem lvC_bytes : coreB lvC = lb0 := by kernel_rfl
theorem le0 : numR MX (lb0, 0) = (3, (lb1, 0)) := by kernel_rfl
theorem le1 : numR 1 (lb1, 0) = (1, (lb2, 0)) := by kernel_rfl
theorem le2 : numR MX (lb2, 0) = (0, (lb3, 0)) := by kernel_rfl
theorem le3 : numR MX (lb3, 0) = (0, (lb4, 0)) := by kernel_rfl
theorem le4 : withinR hdR zHd (lb4, 0) = (zHd, (lb5, 0)) := by kernel_rfl
theorem le5 : numR 4096 (lb5, 0) = (0, (lb6, 0)) := by kernel_rfl
theorem le6 : bytesR 4194304 (lb6, 0) = ([1, 2], (lb7, 0)) := by kernel_rfl
theorem le7 : withinR (parseR certR zCert) zCert (lb7, 0) = (zCert, (lb8, 0)) := by kernel_rfl
theorem le8 : numR 4096 (lb8, 0) = (0, (lb9, 0)) := by kernel_rfl
theorem le9 : numR 4096 (lb9, 0) = (0, (lb10, 0)) := by kernel_rfl
theorem le10 : numR 4096 (lb10, 0) = (0, (lb11, 0)) := by kernel_rfl
theorem le11 : takesR markR (lb11, 0) = ([mk4], (lb12, 0)) := by kernel_rfl
theorem le12 : numR 4096 (lb12, 0) = (0, (lb13, 0)) := by kernel_rfl
theorem le13 : numR 4096 (lb13, 0) = (0, (lb14, 0)) := by kernel_rfl
theorem le14 : numR 4096 (lb14, 0) = (0, (lb15, 0)) := by kernel_rfl
theorem le15 : numR 4096 (lb15, 0) = (0, (lb16, 0)) := by kernel_rfl
theorem le16 : numR MX (lb16, 0) = (0, (lb17, 0)) := by kernel_rfl
theorem le17 : numR MX (lb17, 0) = (0, (lb18, 0)) := by kernel_rfl
theorem le18 : numR 4096 (lb18, 0) = (0, (lb19, 0)) := by kernel_rfl
theorem le19 : numR MX (lb19, 0) = (0, (lb20, 0)) := by kernel_rfl
set_option maxHeartbeats 4000000 in
theorem tkCoreLv_s [Wd] : FnS Tryz.prog 19 [.agg [.ptr 0 0]] (oRd (lb0, 0)) (fun r h => r = .agg (cCore lvC) ∧ h = oRd (lb20, 0)) := by
  refine mkS 71 [] Tryz.func19 rfl (by kernel_rfl) ?_
  conv => arg 2; whnf
  refine okRd 0 (lb0, 0) (lb1, 0) (.int .i64 3) tkNum_s (by decide) (congrArg Prod.snd le0).symm (congrArg (fun r : Nat × RS => D.int .i64 (r.1 : Int)) le0).symm ⟨⟨rfl, rfl⟩, trivial⟩ (Cos.refl _) rfl ?_
  conv => arg 2; whnf
  refine okRd 0 (lb1, 0) (lb2, 0) (.bool true) tkFlag_s (by decide) (congrArg Prod.snd le1).symm (congrArg (fun r : Nat × RS => D.bool ((r.1 : Int) == 1)) le1).symm ⟨⟨rfl, rfl⟩, trivial⟩ (Cos.refl _) rfl ?_
  conv => arg 2; whnf
  refine okRd 0 (lb2, 0) (lb3, 0) (.int .i64 0) tkNum_s (by decide) (congrArg Prod.snd le2).symm (congrArg (fun r : Nat × RS => D.int .i64 (r.1 : Int)) le2).symm ⟨⟨rfl, rfl⟩, trivial⟩ (Cos.refl _) rfl ?_
  conv => arg 2; whnf
  refine okRd 0 (lb3, 0) (lb4, 0) (.int .i64 0) tkNum_s (by decide) (congrArg Prod.snd le3).symm (congrArg (fun r : Nat × RS => D.int .i64 (r.1 : Int)) le3).symm ⟨⟨rfl, rfl⟩, trivial⟩ (Cos.refl _) rfl ?_
  conv => arg 2; whnf
  refine okRd 0 (lb4, 0) (lb5, 0) (.agg (cHeader zHd)) tkHeader_s (by decide) (congrArg Prod.snd le4).symm (congrArg (fun r : HeaderD × RS => D.agg (cHeader r.1)) le4).symm ⟨⟨rfl, rfl⟩, trivial⟩ (Cos.refl _) rfl ?_
  conv => arg 2; whnf
  refine okCall [0] (takes0Block_s (s := (lb5, 0)) (by decide) le5) (.mk' rfl ⟨⟨rfl, rfl⟩, trivial⟩) (Cos.refl _) rfl ?_
  conv => arg 2; whnf
  refine okRd 0 (lb6, 0) (lb7, 0) (.list 1 (([1, 2] : List UInt8).map cByte)) tkStr_s (by decide) (congrArg Prod.snd le6).symm (congrArg (fun r : List UInt8 × RS => D.list 1 (r.1.map cByte)) le6).symm ⟨⟨rfl, rfl⟩, trivial⟩ (Cos.refl _) rfl ?_
  conv => arg 2; whnf
  refine okRd 0 (lb7, 0) (lb8, 0) (.agg (cCert zCert)) tkCert_s (by decide) (congrArg Prod.snd le7).symm (congrArg (fun r : CertD × RS => D.agg (cCert r.1)) le7).symm ⟨⟨rfl, rfl⟩, trivial⟩ (Cos.refl _) rfl ?_
  conv => arg 2; whnf
  refine okCall [0] (takes0Vote_s (s := (lb8, 0)) (by decide) le8) (.mk' rfl ⟨⟨rfl, rfl⟩, trivial⟩) (Cos.refl _) rfl ?_
  conv => arg 2; whnf
  refine okCall [0] (takes0Cert_s (s := (lb9, 0)) (by decide) le9) (.mk' rfl ⟨⟨rfl, rfl⟩, trivial⟩) (Cos.refl _) rfl ?_
  conv => arg 2; whnf
  refine okCall [0] (takes0Cert_s (s := (lb10, 0)) (by decide) le10) (.mk' rfl ⟨⟨rfl, rfl⟩, trivial⟩) (Cos.refl _) rfl ?_
  conv => arg 2; whnf
  refine okRd 0 (lb11, 0) (lb12, 0) (.list 6 ([mk4].map cMark)) takesMark_s (by decide) (congrArg Prod.snd le11).symm (congrArg (fun r : List MarkD × RS => D.list 6 (r.1.map cMark)) le11).symm ⟨⟨rfl, rfl⟩, trivial⟩ (Cos.refl _) rfl ?_
  conv => arg 2; whnf
  refine okCall [0] (takes0Slot_s (s := (lb12, 0)) (by decide) le12) (.mk' rfl ⟨⟨rfl, rfl⟩, trivial⟩) (Cos.refl _) rfl ?_
  conv => arg 2; whnf
  refine okCall [0] (takes0Prepared_s (s := (lb13, 0)) (by decide) le13) (.mk' rfl ⟨⟨rfl, rfl⟩, trivial⟩) (Cos.refl _) rfl ?_
  conv => arg 2; whnf
  refine okCall [0] (takes0Change_s (s := (lb14, 0)) (by decide) le14) (.mk' rfl ⟨⟨rfl, rfl⟩, trivial⟩) (Cos.refl _) rfl ?_
  conv => arg 2; whnf
  refine okCall [0] (takes0Signed_s (s := (lb15, 0)) (by decide) le15) (.mk' rfl ⟨⟨rfl, rfl⟩, trivial⟩) (Cos.refl _) rfl ?_
  conv => arg 2; whnf
  refine okRd 0 (lb16, 0) (lb17, 0) (.int .i64 0) tkNum_s (by decide) (congrArg Prod.snd le16).symm (congrArg (fun r : Nat × RS => D.int .i64 (r.1 : Int)) le16).symm ⟨⟨rfl, rfl⟩, trivial⟩ (Cos.refl _) rfl ?_
  conv => arg 2; whnf
  refine okRd 0 (lb17, 0) (lb18, 0) (.int .i64 0) tkNum_s (by decide) (congrArg Prod.snd le17).symm (congrArg (fun r : Nat × RS => D.int .i64 (r.1 : Int)) le17).symm ⟨⟨rfl, rfl⟩, trivial⟩ (Cos.refl _) rfl ?_
  conv => arg 2; whnf
  refine okCall [0] (takes0Msg_s (s := (lb18, 0)) (by decide) le18) (.mk' rfl ⟨⟨rfl, rfl⟩, trivial⟩) (Cos.refl _) rfl ?_
  conv => arg 2; whnf
  refine okRd 0 (lb19, 0) (lb20, 0) (.int .i64 0) tkNum_s (by decide) (congrArg Prod.snd le19).symm (congrArg (fun r : Nat × RS => D.int .i64 (r.1 : Int)) le19).symm ⟨⟨rfl, rfl⟩, trivial⟩ (Cos.refl _) rfl ?_
  conv => arg 2; whnf
  refine endRd (d := .agg (cCore lvC)) (.inr rfl) rfl ⟨⟨rfl, rfl⟩, trivial⟩ rfl (.refl _) rfl rfl
theorem stParseLv_s [Wd] : FnP Tryz.prog 9 [.list 1 (lb0.map cByte)] (.tup [.agg (cCore lvC), .int .i64 0]) := by
  refine mkS 30 [] Tryz.func9 rfl (by kernel_rfl) ?_
  repeat'
    (conv => arg 2; whnf)
    first
    | refine okAsk (by kernel_rfl) ?_
    | refine okCall [] (rdRead_s lb0 (by decide)) (.mk' rfl trivial) (Cos.refl _) rfl ?_
    | refine okCall [1] tkCoreLv_s (.mk' rfl ⟨⟨rfl, rfl⟩, trivial⟩) (Cos.refl _) rfl ?_
    | refine okRd 1 (lb20, 0) (lb20, 0) (.int .i64 0) rdDone_s (by decide) rfl (by kernel_rfl) ⟨⟨rfl, rfl⟩, trivial⟩ (Cos.refl _) rfl ?_
    | refine okBoth ?_ ?_
    | refine okBrT ?_
    | refine okBrF ?_
    | refine endFn0 (.inr rfl) rfl (.refl _) rfl
end Go.Proofs.YteaggenihhaajaaGreat

/- bullalaw20.begun; bullalaw20.StateApart over data. -/
namespace Go.Proofs.YteaggenihhaajaaGreat
open Go.RowKit
set_option linter.unusedVariables false
set_option maxRecDepth 20000

theorem nOkZ : nOk 0 := ⟨by decide, by decide⟩
theorem hdrZ : hdrOk zHd := ⟨nOkZ, nOkZ, nOkZ, nOkZ, nOkZ⟩
theorem putsZ {α : Type} (P : α → Prop) : putsOk P ([] : List α) := ⟨Nat.zero_le _, fun x hx => (List.not_mem_nil hx).elim⟩
theorem certZ0 : kCertOk zCert := ⟨by kernel_rfl, by have := certB_len (c := zCert) (by kernel_rfl); omega⟩
theorem lvC_ok : coreOk lvC :=
  ⟨⟨by decide, by decide⟩, nOkZ, nOkZ, hdrZ, putsZ _, certZ0, putsZ _, putsZ _, putsZ _, ⟨by decide, fun m hm => by rw [List.mem_singleton.1 hm]; exact ⟨⟨by decide, by decide⟩, nOkZ, nOkZ, nOkZ, nOkZ⟩⟩, putsZ _, putsZ _, putsZ _, putsZ _, nOkZ, nOkZ, putsZ _, nOkZ⟩
theorem dLz {α : Type} (T : Dt α) : (dL T).ok [] := ⟨Nat.zero_le _, fun x hx => (List.not_mem_nil hx).elim⟩
theorem z64 : -9223372036854775808 ≤ (0 : Int) ∧ (0 : Int) ≤ 9223372036854775807 := ⟨by decide, by decide⟩
theorem dHz (n : Int) (h : -9223372036854775808 ≤ n ∧ n ≤ 9223372036854775807) : dHeader.ok ⟨n, 0, 0, 0, 0⟩ := ⟨h, z64, z64, z64, z64⟩
theorem dCz : dCert.ok zCert := ⟨⟨by decide, by decide⟩, ⟨by decide, by decide⟩, dLz _⟩
theorem lvC_d : dCore.ok lvC :=
  ⟨⟨by decide, by decide⟩, trivial, ⟨by decide, by decide⟩, ⟨by decide, by decide⟩, dHz 0 ⟨by decide, by decide⟩, dLz _, (by decide : ([1, 2] : List UInt8).length ≤ 4194304), ⟨dCz, dLz _, dLz _⟩, dLz _, ⟨by decide, fun m hm => by rw [List.mem_singleton.1 hm]; exact ⟨dHz 4 ⟨by decide, by decide⟩, (by decide : ([] : List UInt8).length ≤ 4194304)⟩⟩, dLz _, dLz _, dLz _, dLz _, ⟨⟨by decide, by decide⟩, ⟨by decide, by decide⟩⟩, dLz _, ⟨by decide, by decide⟩⟩
theorem lvC_sz : tCore.sz lvC ≤ 1048576 := by decide
theorem bytesLv_s [Wd] : FnP Tryz.prog 8 [.agg (cCore lvC)] (.tup [.list 1 (lb0.map cByte), .int .i64 0]) := by
  have := stBytesY_s lvC lvC_d lvC_sz lvC_ok (by rw [lvC_bytes]; decide)
  rwa [lvC_bytes] at this
theorem sameLv_s [Wd] : FnP Tryz.prog 10 [.agg (cCore lvC), .agg (cCore lvC)] (.bool true) := by
  have := rwSame_s lvC lvC lvC_d lvC_d
  rwa [eqB_true rfl] at this
/-- begun's core as its literal has it: nil slices -/
theorem lvC_co {ds : List D} (h : ds = [.int .i64 3, .bool true, .int .i64 0, .int .i64 0, .int .i64 0, .int .i64 0, .int .i64 0, .int .i64 0, .int .i64 0, .nils, .list 1 [[.int .u8 1], [.int .u8 2]], .int .i64 0, .int .i64 0, .nils, .nils, .nils, .nils, .list 6 [[.int .i64 4, .int .i64 0, .int .i64 0, .int .i64 0, .int .i64 0, .nils]], .nils, .nils, .nils, .nils, .int .i64 0, .int .i64 0, .nils, .int .i64 0]) : Co (.agg ds) (.agg (cCore lvC)) := by
  subst h
  refine Cos.mkAgg ?_
  have hm : Co (.list 6 [[.int .i64 4, .int .i64 0, .int .i64 0, .int .i64 0, .int .i64 0, .nils]]) (.list 6 ([mk4].map cMark)) := by
    refine .list 6 _ _ rfl (fun i x y hx hy => ?_)
    cases i with
    | succ i => simp at hx
    | zero =>
      cases hx
      cases hy
      refine ⟨rfl, fun j d e hd he => ?_⟩
      match j with
      | 0 => cases hd; cases he; exact .inl rfl
      | 1 => cases hd; cases he; exact .inl rfl
      | 2 => cases hd; cases he; exact .inl rfl
      | 3 => cases hd; cases he; exact .inl rfl
      | 4 => cases hd; cases he; exact .inl rfl
      | 5 => cases hd; cases he; exact .inr ⟨rfl, 1, rfl⟩
      | j + 6 => simp at hd
  repeat' first
    | exact Cos.nil
    | refine Cos.cons hm ?_
    | refine Cos.cons (.refl _) ?_
    | refine Cos.cons (.nil _) ?_
theorem begun_s [Wd] : FnP Tryz.prog 7 [] (.bool true) := by
  refine mkS 49 [] Tryz.func7 rfl (by kernel_rfl) ?_
  repeat'
    (conv => arg 2; whnf)
    first
    | refine okAsk (by kernel_rfl) ?_
    | refine okFn bytesLv_s rfl (Cos.cons (lvC_co rfl) .nil) ?_
    | refine okFn stParseLv_s rfl (Cos.refl _) ?_
    | refine okFn sameLv_s rfl (Cos.cons (lvC_co rfl) (Cos.cons (.refl _) .nil)) ?_
    | refine okBoth ?_ ?_
    | refine okBrT ?_
    | refine okBrF ?_
    | refine okNthMap (l := lb0) (q := 0) (by decide) (fun x hx => ?_)
    | refine okNthMap (l := lb0) (q := 1) (by decide) (fun x hx => ?_)
    | refine okBr (fun h => ?_) (fun h => ?_)
    | refine endBool (.inr rfl) rfl ?_
  all_goals first
    | rfl
    | (exfalso; simp_all [lb0]; done)
    | (simp_all [lb0]; subst hx; rfl)
    | (simp_all [lb0]; subst hx; exact h rfl)
    | (simp_all [lb0]; done)
end Go.Proofs.YteaggenihhaajaaGreat

/- bullalaw20.StateApart: over data; over readings. -/
namespace Go.Proofs.YteaggenihhaajaaGreat
open Go.RowKit
set_option linter.unusedVariables false
set_option maxRecDepth 20000

/-- what state.Bytes answers, in two ways -/
theorem stBytes_two [Wd] (c : CoreD) (hc : dCore.ok c) (hs : tCore.sz c ≤ 1048576) :
    (coreOk c ∧ (coreB c).length ≤ 4194304 ∧ FnP Tryz.prog 8 [.agg (cCore c)] (.tup [.list 1 ((coreB c).map cByte), .int .i64 0])) ∨
    ∃ e : Int, ((e != 0) = true) ∧ FnP Tryz.prog 8 [.agg (cCore c)] (.tup [.nils, .int .i64 e]) := by
  by_cases ho : coreOk c
  · by_cases hl : (coreB c).length ≤ 4194304
    · exact .inl ⟨ho, hl, stBytesY_s c hc hs ho hl⟩
    · exact .inr ⟨3, rfl, stBytesL_s c hc hs ho (by omega)⟩
  · exact .inr ⟨200, rfl, stBytesN_s c hc hs ho⟩
end Go.Proofs.YteaggenihhaajaaGreat

/- Readers in plain Lean: what was put is read, what is read was put; how a reader of parts is made of readers. No program here. -/
namespace Go.Proofs.YteaggenihhaajaaGreat
open Go.RowKit
set_option linter.unusedVariables false

/-- a reader: it leaves no more than it had, and an error stays -/
structure Rd1 {α : Type} (p : RS → α × RS) : Prop where
  len : ∀ s, (p s).2.1.length ≤ s.1.length
  stay : ∀ s, ¬ s.2 = 0 → ¬ (p s).2.2 = 0
/-- it reads what 'b' puts, and nothing else;  -/
structure Cd {α : Type} (p : RS → α × RS) (ok : α → Prop) (b : α → List UInt8) : Prop extends Rd1 p where
  there : ∀ x r, ok x → p (b x ++ r, 0) = (x, (r, 0))
  back : ∀ t, (p (t, 0)).2.2 = 0 → ok (p (t, 0)).1 ∧ t = b (p (t, 0)).1 ++ (p (t, 0)).2.1
theorem Rd1.ok {α : Type} {p : RS → α × RS} (h : Rd1 p) {s : RS} (e : (p s).2.2 = 0) : s = (s.1, 0) := by
  by_cases h0 : s.2 = 0
  · rw [← h0]
  · exact absurd e (h.stay s h0)
/-! one behind the other -/
def bindR {α β : Type} (p : RS → α × RS) (q : α → RS → β × RS) (s : RS) : (α × β) × RS := (((p s).1, (q (p s).1 (p s).2).1), (q (p s).1 (p s).2).2)
def pairR {α β : Type} (p : RS → α × RS) (q : RS → β × RS) : RS → (α × β) × RS := bindR p fun _ => q
def mapR {α β : Type} (f : α → β) (p : RS → α × RS) (s : RS) : β × RS := (f (p s).1, (p s).2)
/-- what is read is looked at: an error where it may not be -/
def guardR {α : Type} (p : RS → α × RS) (f : α → Int) (s : RS) : α × RS := ((p s).1, failR (f (p s).1) (p s).2)
/-- z where it may not be -/
def zeroR {α : Type} (p : RS → α × RS) (z : α) (s : RS) : α × RS := if (p s).2.2 = 0 then p s else (z, (p s).2)
theorem failR_len (k : Int) (s : RS) : (failR k s).1 = s.1 := by unfold failR; split <;> rfl
theorem Rd1.bind {α β : Type} {p : RS → α × RS} {q : α → RS → β × RS} (h : Rd1 p) (k : ∀ x, Rd1 (q x)) : Rd1 (bindR p q) :=
  ⟨fun s => Nat.le_trans ((k _).len _) (h.len s), fun s hs => (k _).stay _ (h.stay s hs)⟩
theorem Rd1.map {α β : Type} {p : RS → α × RS} (f : α → β) (h : Rd1 p) : Rd1 (mapR f p) := ⟨h.len, h.stay⟩
theorem Rd1.guard {α : Type} {p : RS → α × RS} (f : α → Int) (h : Rd1 p) : Rd1 (guardR p f) :=
  ⟨fun s => by show (failR _ _).1.length ≤ _; rw [failR_len]; exact h.len s, fun s hs => by
    show ¬ (failR _ _).2 = 0
    unfold failR
    rw [if_neg (h.stay s hs)]
    exact h.stay s hs⟩
theorem Rd1.zero {α : Type} {p : RS → α × RS} (z : α) (h : Rd1 p) : Rd1 (zeroR p z) :=
  ⟨fun s => by unfold zeroR; split <;> exact h.len s, fun s hs => by unfold zeroR; split <;> exact h.stay s hs⟩
theorem Cd.bind {α β : Type} {p : RS → α × RS} {q : α → RS → β × RS} {ok : α → Prop} {ok' : α → β → Prop} {b : α → List UInt8} {b' : α → β → List UInt8} 
    (h : Cd p ok b) (k : ∀ x, Rd1 (q x)) (g : ∀ x, ok x → Cd (q x) (ok' x) (b' x)) : Cd (bindR p q) (fun z => ok z.1 ∧ ok' z.1 z.2) (fun z => b z.1 ++ b' z.1 z.2) where
  toRd1 := h.toRd1.bind k
  there := fun ⟨x, y⟩ r hh => by
    show ((_, _), _) = _
    rw [show (b x ++ b' x y ++ r) = b x ++ (b' x y ++ r) from List.append_assoc _ _ _, h.there x _ hh.1]
    show ((x, (q x (b' x y ++ r, 0)).1), (q x (b' x y ++ r, 0)).2) = _
    rw [(g x hh.1).there y r hh.2]
  back := fun t e => by
    have e2 := (k _).ok (s := (p (t, 0)).2) e
    obtain ⟨h1, h2⟩ := h.back t (by rw [e2])
    have e3 : (q (p (t, 0)).1 ((p (t, 0)).2.1, 0)).2.2 = 0 := by rw [← e2]; exact e
    obtain ⟨g1, g2⟩ := (g _ h1).back _ e3
    rw [← e2] at g1 g2
    refine ⟨⟨h1, g1⟩, ?_⟩
    show t = (b _ ++ b' _ _) ++ _
    rw [List.append_assoc]
    conv => lhs; rw [h2, g2]
    rfl
theorem Cd.pair {α β : Type} {p : RS → α × RS} {q : RS → β × RS} {ok : α → Prop} {ok' : β → Prop} {b : α → List UInt8} {b' : β → List UInt8} 
    (h : Cd p ok b) (g : Cd q ok' b') : Cd (pairR p q) (fun z => ok z.1 ∧ ok' z.2) (fun z => b z.1 ++ b' z.2) :=
  h.bind (ok' := fun _ => ok') (b' := fun _ => b') (fun _ => g.toRd1) (fun _ _ => g)
theorem Cd.map {α β : Type} {p : RS → α × RS} {ok : α → Prop} {b : α → List UInt8} {ok' : β → Prop} {b' : β → List UInt8} (h : Cd p ok b) (f : α → β) (g : β → α)
    (h1 : ∀ x, ok x → ok' (f x) ∧ b' (f x) = b x) (h2 : ∀ y, ok' y → ok (g y) ∧ f (g y) = y) : Cd (mapR f p) ok' b' where
  toRd1 := h.toRd1.map f
  there := fun y r hy => by
    obtain ⟨g1, g2⟩ := h2 y hy
    have h3 := h1 _ g1
    rw [g2] at h3
    show (f _, _) = _
    rw [h3.2, h.there _ r g1, g2]
  back := fun t e => by
    obtain ⟨k1, k2⟩ := h.back t e
    obtain ⟨h3, h4⟩ := h1 _ k1
    refine ⟨h3, ?_⟩
    show t = b' (f _) ++ _
    rw [h4]
    exact k2
theorem Cd.guard {α : Type} {p : RS → α × RS} {ok : α → Prop} {b : α → List UInt8} (h : Cd p ok b) (f : α → Int) : Cd (guardR p f) (fun x => ok x ∧ f x = 0) b where
  toRd1 := h.toRd1.guard f
  there := fun x r hx => by
    show (_, failR _ _) = _
    rw [h.there x r hx.1]
    show (x, failR (f x) (r, 0)) = _
    rw [hx.2]
    rfl
  back := fun t e => by
    have e : (failR (f (p (t, 0)).1) (p (t, 0)).2).2 = 0 := e
    have e1 : (p (t, 0)).2.2 = 0 := by
      by_cases h0 : (p (t, 0)).2.2 = 0
      · exact h0
      · unfold failR at e; rw [if_neg h0] at e; exact e
    have e2 : f (p (t, 0)).1 = 0 := by
      unfold failR at e; rw [if_pos e1] at e; exact e
    obtain ⟨k1, k2⟩ := h.back t e1
    refine ⟨⟨k1, e2⟩, ?_⟩
    show t = b _ ++ (failR _ _).1
    rw [failR_len]
    exact k2
theorem Cd.zero {α : Type} {p : RS → α × RS} {ok : α → Prop} {b : α → List UInt8} (h : Cd p ok b) (z : α) : Cd (zeroR p z) ok b where
  toRd1 := h.toRd1.zero z
  there := fun x r hx => by
    unfold zeroR
    rw [h.there x r hx, if_pos rfl]
  back := fun t e => by
    have e1 : (p (t, 0)).2.2 = 0 := by
      by_cases h0 : (p (t, 0)).2.2 = 0
      · exact h0
      · unfold zeroR at e; rw [if_neg h0] at e; exact e
    have e2 : zeroR p z (t, 0) = p (t, 0) := by unfold zeroR; rw [if_pos e1]
    rw [e2]
    exact h.back t e1
/-- the same with other words -/
theorem Cd.as {α : Type} {p : RS → α × RS} {ok ok' : α → Prop} {b b' : α → List UInt8} (h : Cd p ok b) (h1 : ∀ x, ok' x ↔ ok x) (h2 : ∀ x, ok x → b' x = b x) : Cd p ok' b' where
  toRd1 := h.toRd1
  there := fun x r hx => by rw [h2 x ((h1 x).1 hx)]; exact h.there x r ((h1 x).1 hx)
  back := fun t e => by
    obtain ⟨k1, k2⟩ := h.back t e
    exact ⟨(h1 _).2 k1, by rw [h2 _ k1]; exact k2⟩
/-- nothing is read -/
def pureR {α : Type} (x : α) (s : RS) : α × RS := (x, s)
theorem pureR_rd {α : Type} (x : α) : Rd1 (pureR x) := ⟨fun s => Nat.le_refl _, fun s h => h⟩
theorem pureR_cd {α : Type} (x : α) : Cd (pureR x) (fun y => y = x) (fun _ => []) where
  toRd1 := pureR_rd x
  there := fun y r h => by rw [h]; rfl
  back := fun t e => ⟨rfl, rfl⟩
/-! numbers -/
def nR (most : Nat) (s : RS) : Int × RS := (((numR most s).1 : Int), (numR most s).2)
theorem numR_stay (most : Nat) (s : RS) (h : ¬ s.2 = 0) : numR most s = (0, s) := by unfold numR; rw [if_neg h]
theorem nR_rd (most : Nat) : Rd1 (nR most) := ⟨numR_len most, fun s h => by show ¬ (numR most s).2.2 = 0; rw [numR_stay most s h]; exact h⟩
theorem nR_cd (most : Nat) (hm : most < 18446744073709551616) : Cd (nR most) (fun n => 0 ≤ n ∧ n ≤ most) encI where
  toRd1 := nR_rd most
  there := fun n r ⟨h0, h1⟩ => by
    have e := num_put most n.toNat 0 0 r (by omega) (by omega) (by omega) (by omega)
    rw [encI_nat h0 (by omega)]
    unfold nR numR
    rw [if_pos rfl, e]
    simp
    omega
  back := fun t e => by
    have e : (numR most (t, 0)).2.2 = 0 := e
    have hle := numR_le most (t, 0)
    unfold numR at e
    rw [if_pos rfl] at e
    split at e
    · rename_i h0
      obtain ⟨d, h1, h2, _⟩ := num_read most t 0 0 _ _ (show numGo most 0 0 t = ((numGo most 0 0 t).1, (numGo most 0 0 t).2.1, 0) by rw [← h0])
      have hn : numR most (t, 0) = ((numGo most 0 0 t).1, ((numGo most 0 0 t).2.1, 0)) := by unfold numR; rw [if_pos rfl, if_pos h0]
      rw [hn] at hle
      have hle : (numGo most 0 0 t).1 ≤ most := hle
      unfold nR
      rw [hn]
      refine ⟨⟨by simp, by show (((numGo most 0 0 t).1 : Nat) : Int) ≤ most; omega⟩, ?_⟩
      show t = encI (((numGo most 0 0 t).1 : Nat) : Int) ++ (numGo most 0 0 t).2.1
      rw [encI_nat (by omega) (by omega), Int.toNat_natCast, h1]
      simpa using h2
    · rename_i h0
      exact absurd e h0
theorem mNumR_eq (least : Int) : mNumR least = zeroR (guardR (nR MX) fun n => if n < least then 100 else 0) 0 := by
  funext s
  obtain ⟨n, b, e, en, hn, hb⟩ := numR_pair MX s
  unfold mNumR zeroR guardR nR failR
  rw [en]
  simp only
  by_cases he : e = 0
  · subst he
    by_cases hl : (n : Int) < least
    · simp [hl]
    · simp [hl]
  · simp [he]
theorem mNumR_rd (least : Int) : Rd1 (mNumR least) := by rw [mNumR_eq]; exact ((nR_rd MX).guard _).zero _
theorem mNumR_cd (least : Int) (h0 : 0 ≤ least) : Cd (mNumR least) (fun n => least ≤ n ∧ n ≤ 9007199254740992) encI := by
  rw [mNumR_eq]
  refine (((nR_cd MX (by decide)).guard _).zero _).as (fun n => ?_) (fun _ _ => rfl)
  have hM : ((MX : Nat) : Int) = 9007199254740992 := rfl
  rw [hM]
  constructor
  · intro h; exact ⟨⟨by omega, by omega⟩, by rw [if_neg (by omega)]⟩
  · intro ⟨⟨h1, h2⟩, h3⟩
    refine ⟨?_, h2⟩
    by_cases hl : n < least
    · rw [if_pos hl] at h3; cases h3
    · omega
theorem mustR_eq (c : Bool) (s : RS) : mustR c s = failR (if c then 0 else 100) s := by
  obtain ⟨b, e⟩ := s
  unfold mustR failR
  cases c
  · simp
  · simp
theorem manyR_eq (most : Int) : manyR most = zeroR (guardR (mNumR 0) fun n => if n ≤ most then 0 else 100) 0 := by
  funext s
  unfold manyR zeroR guardR
  rw [mustR_eq]
  have e : (if decide ((mNumR 0 s).1 ≤ most) = true then (0 : Int) else 100) = if (mNumR 0 s).1 ≤ most then 0 else 100 := by simp
  rw [e]
theorem manyR_rd (most : Int) : Rd1 (manyR most) := by rw [manyR_eq]; exact ((mNumR_rd 0).guard _).zero _
theorem manyR_cd (most : Int) (hm : most ≤ 4096) : Cd (manyR most) (fun n => 0 ≤ n ∧ n ≤ most) encI := by
  rw [manyR_eq]
  refine (((mNumR_cd 0 (by decide)).guard _).zero _).as (fun n => ?_) (fun _ _ => rfl)
  constructor
  · intro h; exact ⟨⟨h.1, by omega⟩, if_pos h.2⟩
  · intro ⟨⟨h1, h2⟩, h3⟩
    refine ⟨h1, ?_⟩
    by_cases hl : n ≤ most
    · exact hl
    · rw [if_neg hl] at h3; cases h3
/-! byte strings -/
theorem takeR_stay (n : Int) (s : RS) (h : ¬ s.2 = 0) : takeR n s = ([], s) := by unfold takeR; rw [if_neg h]
theorem takeR_rd (n : Int) : Rd1 (takeR n) := ⟨takeR_len n, fun s h => by rw [takeR_stay n s h]; exact h⟩
theorem takeR_put (x r : List UInt8) : takeR ((x.length : Nat) : Int) (x ++ r, 0) = (x, (r, 0)) := by
  unfold takeR
  rw [if_pos rfl, if_neg (by omega), if_neg (by simp only [List.length_append]; omega), Int.toNat_natCast]
  simp
theorem takeR_back {n : Nat} {t : List UInt8} (h : (takeR (n : Int) (t, 0)).2.2 = 0) : t = (takeR (n : Int) (t, 0)).1 ++ (takeR (n : Int) (t, 0)).2.1 ∧ (takeR (n : Int) (t, 0)).1.length = n := by
  unfold takeR at h ⊢
  rw [if_pos rfl, if_neg (by omega)] at h ⊢
  split at h
  · cases h
  · rename_i hl
    rw [if_neg hl, Int.toNat_natCast]
    refine ⟨(List.take_append_drop _ _).symm, ?_⟩
    simp only [List.length_take] at hl ⊢
    have hl : ¬ (t.length : Int) < (n : Int) := hl
    omega
theorem bytesR_rd (most : Nat) : Rd1 (bytesR most) :=
  ⟨bytesR_len most, fun s h => by
    unfold bytesR
    exact (takeR_rd _).stay _ ((nR_rd most).stay s h)⟩
theorem bytesR_cd (most : Nat) (hm : most ≤ 4194304) : Cd (bytesR most) (fun x => x.length ≤ most) byF where
  toRd1 := bytesR_rd most
  there := fun x r hx => by
    have e := (nR_cd most (by omega)).there (x.length : Int) (x ++ r) ⟨by omega, by omega⟩
    rw [encI_nat (by omega) (by omega), Int.toNat_natCast] at e
    have e1 : numR most (enc x.length ++ (x ++ r), 0) = (x.length, (x ++ r, 0)) := by
      have h1 := congrArg Prod.fst e
      have h2 := congrArg Prod.snd e
      have h1 : (((numR most (enc x.length ++ (x ++ r), 0)).1 : Nat) : Int) = ((x.length : Nat) : Int) := h1
      exact Prod.ext (by omega) h2
    unfold bytesR byF
    rw [List.append_assoc, e1]
    exact takeR_put x r
  back := fun t e => by
    have e2 := (takeR_rd _).ok (s := (numR most (t, 0)).2) e
    obtain ⟨⟨h0, h1⟩, h2⟩ := (nR_cd most (by omega)).back t (by show (numR most (t, 0)).2.2 = 0; rw [e2])
    have h1 : (((numR most (t, 0)).1 : Nat) : Int) ≤ (most : Int) := h1
    have h2 : t = encI ((numR most (t, 0)).1 : Int) ++ (numR most (t, 0)).2.1 := h2
    have e3 : (takeR ((numR most (t, 0)).1 : Int) ((numR most (t, 0)).2.1, 0)).2.2 = 0 := by rw [← e2]; exact e
    obtain ⟨g1, g2⟩ := takeR_back e3
    rw [← e2] at g1 g2
    refine ⟨by show (takeR _ _).1.length ≤ _; rw [g2]; omega, ?_⟩
    rw [encI_nat (by omega) (by omega), Int.toNat_natCast] at h2
    show t = byF (takeR _ _).1 ++ (takeR _ _).2.1
    unfold byF
    rw [g2, List.append_assoc, ← g1]
    exact h2
/-! lists -/
theorem goR_stay {α : Type} {p : RS → α × RS} (h : Rd1 p) (n : Nat) (s : RS) (hs : ¬ s.2 = 0) : ¬ (goR p n s).2.2 = 0 := by rw [goR_stop p n s hs]; exact hs
theorem goR_rd {α : Type} {p : RS → α × RS} (h : Rd1 p) (n : Nat) : Rd1 (goR p n) := ⟨goR_len h.len n, goR_stay h n⟩
theorem goR_put {α : Type} {p : RS → α × RS} {ok : α → Prop} {b : α → List UInt8} (h : Cd p ok b) : ∀ (l : List α) (r : List UInt8), (∀ x ∈ l, ok x) → goR p l.length (l.flatMap b ++ r, 0) = (l, (r, 0))
  | [], r, _ => rfl
  | x :: l, r, hx => by
    rw [List.length_cons, goR, if_pos rfl, List.flatMap_cons, List.append_assoc, h.there x _ (hx x (.head _))]
    show (x :: (goR p l.length (l.flatMap b ++ r, 0)).1, (goR p l.length (l.flatMap b ++ r, 0)).2) = _
    rw [goR_put h l r fun y hy => hx y (.tail _ hy)]
theorem goR_back {α : Type} {p : RS → α × RS} {ok : α → Prop} {b : α → List UInt8} (h : Cd p ok b) : ∀ (n : Nat) (t : List UInt8), (goR p n (t, 0)).2.2 = 0 → (∀ x ∈ (goR p n (t, 0)).1, ok x) ∧ (goR p n (t, 0)).1.length = n ∧ t = (goR p n (t, 0)).1.flatMap b ++ (goR p n (t, 0)).2.1
  | 0, t, _ => ⟨fun x hx => (List.not_mem_nil hx).elim, rfl, rfl⟩
  | n + 1, t, e => by
    have e1 : goR p (n + 1) (t, 0) = ((p (t, 0)).1 :: (goR p n (p (t, 0)).2).1, (goR p n (p (t, 0)).2).2) := by rw [goR, if_pos rfl]
    rw [e1] at e ⊢
    have e : (goR p n (p (t, 0)).2).2.2 = 0 := e
    have e2 := (goR_rd h.toRd1 n).ok (s := (p (t, 0)).2) e
    obtain ⟨h1, h2⟩ := h.back t (by rw [e2])
    have e3 : (goR p n ((p (t, 0)).2.1, 0)).2.2 = 0 := by rw [← e2]; exact e
    obtain ⟨g1, g2, g3⟩ := goR_back h n _ e3
    rw [← e2] at g1 g2 g3
    refine ⟨fun x hx => ?_, by simp [g2], ?_⟩
    · rcases List.mem_cons.1 hx with rfl | hx
      · exact h1
      · exact g1 x hx
    · show t = (_ :: _).flatMap b ++ _
      rw [List.flatMap_cons, List.append_assoc, ← g3]
      exact h2
/-- a list of so many, told ahead -/
theorem many_cd {α : Type} {p : RS → α × RS} {ok : α → Prop} {b : α → List UInt8} {c : RS → Int × RS} {most : Int} (hc : Cd c (fun n => 0 ≤ n ∧ n ≤ most) encI) (hm : most ≤ 4096) (h : Cd p ok b) :
    Cd (fun s => goR p (c s).1.toNat (c s).2) (fun l => (l.length : Int) ≤ most ∧ ∀ x ∈ l, ok x) (putsB b) where
  len := fun s => Nat.le_trans (goR_len h.len _ _) (hc.len s)
  stay := fun s hs => goR_stay h.toRd1 _ _ (hc.stay s hs)
  there := fun l r hl => by
    unfold putsB
    rw [List.append_assoc, hc.there _ _ ⟨by omega, hl.1⟩]
    show goR p ((l.length : Nat) : Int).toNat _ = _
    rw [Int.toNat_natCast]
    exact goR_put h l r hl.2
  back := fun t e => by
    have e : (goR p (c (t, 0)).1.toNat (c (t, 0)).2).2.2 = 0 := e
    have e2 := (goR_rd h.toRd1 _).ok (s := (c (t, 0)).2) e
    obtain ⟨⟨h0, h1⟩, h2⟩ := hc.back t (by rw [e2])
    have e3 : (goR p (c (t, 0)).1.toNat ((c (t, 0)).2.1, 0)).2.2 = 0 := by rw [← e2]; exact e
    obtain ⟨g1, g2, g3⟩ := goR_back h _ _ e3
    rw [← e2] at g1 g2 g3
    refine ⟨⟨?_, g1⟩, ?_⟩
    · show (((goR p (c (t, 0)).1.toNat (c (t, 0)).2).1.length : Nat) : Int) ≤ most
      rw [g2]; omega
    · show t = putsB b (goR p (c (t, 0)).1.toNat (c (t, 0)).2).1 ++ _
      unfold putsB
      rw [g2, Int.toNat_of_nonneg h0, List.append_assoc, ← g3]
      exact h2
theorem listR_rd {α : Type} {p : RS → α × RS} (h : Rd1 p) (most : Int) : Rd1 (listR p most) :=
  ⟨fun s => Nat.le_trans (goR_len h.len _ _) ((manyR_rd most).len s), fun s hs => goR_stay h _ _ ((manyR_rd most).stay s hs)⟩
theorem listR_cd {α : Type} {p : RS → α × RS} {ok : α → Prop} {b : α → List UInt8} (h : Cd p ok b) (most : Int) (hm : most ≤ 4096) : Cd (listR p most) (fun l => (l.length : Int) ≤ most ∧ ∀ x ∈ l, ok x) (putsB b) :=
  many_cd (manyR_cd most hm) hm h
theorem takesR_cd {α : Type} {p : RS → α × RS} {ok : α → Prop} {b : α → List UInt8} (h : Cd p ok b) : Cd (takesR p) (putsOk ok) (putsB b) := by
  have := many_cd (nR_cd 4096 (by decide)) (by decide) h
  have e : (fun s => goR p (nR 4096 s).1.toNat (nR 4096 s).2) = takesR p := by
    funext s
    show goR p (((numR 4096 s).1 : Nat) : Int).toNat _ = goR p _ _
    rw [Int.toNat_natCast]
    rfl
  rw [e] at this
  exact this.as (fun l => by unfold putsOk; constructor <;> intro ⟨h1, h2⟩ <;> exact ⟨by omega, h2⟩) (fun _ _ => rfl)
/-! bytes as a whole -/
structure Pc {α : Type} (p : List UInt8 → α × Int) (ok : α → Prop) (b : α → List UInt8) : Prop where
  there : ∀ x, ok x → p (b x) = (x, 0)
  back : ∀ t, (p t).2 = 0 → ok (p t).1 ∧ t = b (p t).1
theorem doneR_zero {s : RS} (h : doneR s = 0) : s = ([], 0) := by
  obtain ⟨b, e⟩ := s
  unfold doneR at h
  by_cases he : e = 0
  · rw [if_pos he] at h
    by_cases hb : b = []
    · rw [he, hb]
    · rw [if_neg hb] at h; cases h
  · rw [if_neg he] at h; exact absurd h he
theorem parseR_pc {α : Type} {p : RS → α × RS} {z : α} {ok : α → Prop} {b : α → List UInt8} (h : Cd p ok b) : Pc (parseR p z) (fun x => ok x ∧ (b x).length ≤ 262144) b where
  there := fun x hx => by
    have e := h.there x [] hx.1
    rw [List.append_nil] at e
    exact parse_ok (by have := hx.2; omega) e rfl
  back := fun t e => by
    unfold parseR at e ⊢
    split at e
    · cases e
    · rename_i hl
      rw [if_neg hl]
      split at e
      · rename_i hd
        rw [if_pos hd]
        have hs := doneR_zero hd
        obtain ⟨h1, h2⟩ := h.back t (by rw [hs])
        rw [hs, List.append_nil] at h2
        refine ⟨⟨h1, ?_⟩, h2⟩
        show (b _).length ≤ _
        rw [← h2]; omega
      · rename_i hd
        exact absurd e hd
theorem withinR_rd {α : Type} (p : List UInt8 → α × Int) (z : α) : Rd1 (withinR p z) :=
  ⟨withinR_len p z, fun s hs => by
    unfold withinR
    have := (bytesR_rd 4194304).stay s hs
    rw [if_neg this]
    exact this⟩
theorem withinR_cd {α : Type} {p : List UInt8 → α × Int} {z : α} {ok : α → Prop} {b : α → List UInt8} (h : Pc p ok b) (hl : ∀ x, ok x → (b x).length ≤ 4194304) : Cd (withinR p z) ok (fun x => byF (b x)) where
  toRd1 := withinR_rd p z
  there := fun x r hx => by
    unfold withinR
    rw [(bytesR_cd 4194304 (Nat.le_refl _)).there (b x) r (hl x hx), if_pos rfl]
    show ((p (b x)).1, if (p (b x)).2 = 0 then (r, (0 : Int)) else (r, 200)) = _
    rw [h.there x hx, if_pos rfl]
  back := fun t e => by
    unfold withinR at e ⊢
    by_cases h0 : (bytesR 4194304 (t, 0)).2.2 = 0
    · rw [if_pos h0] at e ⊢
      by_cases h1 : (p (bytesR 4194304 (t, 0)).1).2 = 0
      · rw [if_pos h1] at e ⊢
        obtain ⟨g1, g2⟩ := (bytesR_cd 4194304 (Nat.le_refl _)).back t h0
        obtain ⟨k1, k2⟩ := h.back _ h1
        refine ⟨k1, ?_⟩
        show t = byF (b _) ++ _
        rw [← k2]
        exact g2
      · rw [if_neg h1] at e
        cases e
    · rw [if_neg h0] at e
      exact absurd e h0
end Go.Proofs.YteaggenihhaajaaGreat

/- What packages op, request, message and state read, in plain Lean: each reader made of readers. No program here. -/
namespace Go.Proofs.YteaggenihhaajaaGreat
open Go.RowKit
set_option linter.unusedVariables false

theorem Rd1.get {α : Type} {p : RS → α × RS} (h : Rd1 p) (s : RS) : ∃ (x : α) (b : List UInt8) (e : Int), p s = (x, (b, e)) ∧ b.length ≤ s.1.length := ⟨_, _, _, rfl, h.len s⟩
theorem Rd1.pair {α β : Type} {p : RS → α × RS} {q : RS → β × RS} (h : Rd1 p) (k : Rd1 q) : Rd1 (pairR p q) := h.bind fun _ => k
/-- so many, whatever is wrong -/
def allR {α : Type} (p : RS → α × RS) : Nat → RS → List α × RS
  | 0 => pureR []
  | n + 1 => mapR (fun z => z.1 :: z.2) (pairR p (allR p n))
theorem allR_rd {α : Type} {p : RS → α × RS} (h : Rd1 p) : ∀ n, Rd1 (allR p n)
  | 0 => pureR_rd _
  | n + 1 => (h.pair (allR_rd h n)).map _
/-! package op -/
def opBodyR (k : Int) : RS → OpD × RS :=
  if k = 0 then pureR ⟨0, [], [], 0, []⟩
  else if k = 1 then mapR (fun t => ⟨1, t, [], 0, []⟩) (bytesR 64)
  else if k = 2 then mapR (fun z => ⟨2, z.1, [], 0, z.2⟩) (pairR (bytesR 64) (mapR Prod.snd (bindR (nR 4) fun n => allR (bytesR 64) n.toNat)))
  else if k = 3 then mapR (fun z => ⟨3, z.1, z.2.1, z.2.2, []⟩) (pairR (bytesR 64) (pairR (bytesR 64) (nR MX)))
  else mapR (fun z => ⟨k, z.1, [], z.2, []⟩) (pairR (bytesR 64) (nR MX))
theorem opBodyR_rd (k : Int) : Rd1 (opBodyR k) := by
  unfold opBodyR
  repeat' split
  · exact pureR_rd _
  · exact (bytesR_rd _).map _
  · exact ((bytesR_rd _).pair (((nR_rd 4).bind fun n => allR_rd (bytesR_rd 64) _).map _)).map _
  · exact ((bytesR_rd _).pair ((bytesR_rd _).pair (nR_rd _))).map _
  · exact ((bytesR_rd _).pair (nR_rd _)).map _
def opR : RS → OpD × RS := zeroR (guardR (mapR Prod.snd (bindR (nR 4) opBodyR)) opE) zOp
theorem opR_rd : Rd1 opR := ((((nR_rd 4).bind opBodyR_rd).map _).guard _).zero _
def resultR : RS → ResultD × RS := zeroR (mapR (fun z => ⟨z.1, z.2⟩) (pairR (nR 65536) (nR MX))) zResult
theorem resultR_rd : Rd1 resultR := (((nR_rd _).pair (nR_rd _)).map _).zero _
/-! package request -/
theorem signR_eq : signR = zeroR (guardR (mapR (fun z => ⟨z.1, z.2⟩) (pairR (nR 20) (nR MX))) fun s => if s.digest = 0 then 81 else 0) zSign := by
  funext s
  obtain ⟨n, b, e, en, hn, hb⟩ := numR_pair 20 s
  obtain ⟨m, b2, e2, em, hm, hb2⟩ := numR_pair MX (b, e)
  unfold signR zeroR guardR mapR pairR bindR nR failR
  simp only [en, em]
  by_cases he : e2 = 0
  · subst he
    by_cases hm : m = 0
    · simp [hm]
    · simp [hm]
  · simp [he]
theorem signR_rd : Rd1 signR := by rw [signR_eq]; exact ((((nR_rd _).pair (nR_rd _)).map _).guard _).zero _
def zReq : RequestD := ⟨0, 0, zOp⟩
def reqBodyR : RS → RequestD × RS := mapR (fun z => ⟨z.1, z.2.1, z.2.2⟩) (pairR (nR 7) (pairR (nR MX) opR))
/-- the request of bytes -/
def reqR (b : List UInt8) : RequestD × Int :=
  if doneR (reqBodyR (b, 0)).2 = 0 then (if (reqBodyR (b, 0)).1.time = 0 then (zReq, 80) else ((reqBodyR (b, 0)).1, 0)) else (zReq, doneR (reqBodyR (b, 0)).2)
/-- a signed request: its bytes, as a whole, then its signature -/
def signedR : RS → SignedD × RS := mapR (fun z => ⟨(reqR z.1).1, z.2⟩) (pairR (guardR (bytesR 1024) fun x => (reqR x).2) signR)
theorem signedR_rd : Rd1 signedR := (((bytesR_rd _).guard _).pair signR_rd).map _
/-- so many of them; nothing behind what is wrong -/
def batchR : RS → List SignedD × RS := zeroR (guardR (mapR Prod.snd (bindR (nR 4) fun n => goR signedR n.toNat)) batchE) []
theorem batchR_rd : Rd1 batchR := ((((nR_rd 4).bind fun n => goR_rd signedR_rd _).map _).guard _).zero _
/-! package message -/
theorem certR_eq : certR = mapR (fun z => ⟨z.1.1, z.1.2, z.2⟩) (bindR (guardR (pairR (mNumR 0) (mNumR 0)) fun z => if (z.1 == 0) == (z.2 == 0) then 0 else 100) fun z => listR signR (if z.1 = 0 then 0 else 13)) := by
  funext s
  unfold certR mapR bindR guardR pairR bindR
  simp only [mustR_eq]
theorem certR_rd : Rd1 certR := by rw [certR_eq]; exact ((((mNumR_rd _).pair (mNumR_rd _)).guard _).bind fun z => listR_rd signR_rd _).map _
def signsR : RS → List SignD × RS := listR signR 13
def prepR : RS → PreparedD × RS := mapR (fun z => ⟨z.1, z.2.1, z.2.2.1, z.2.2.2.1, z.2.2.2.2.1, z.2.2.2.2.2⟩) (pairR (mNumR 0) (pairR (mNumR 1) (pairR (mNumR 1) (pairR signR (pairR signsR batchR)))))
theorem prepR_rd : Rd1 prepR := ((mNumR_rd _).pair ((mNumR_rd _).pair ((mNumR_rd _).pair (signR_rd.pair ((listR_rd signR_rd _).pair batchR_rd))))).map _
def chgR : RS → ChangeD × RS := mapR (fun z => ⟨z.1, z.2.1, z.2.2.1, z.2.2.2.1, z.2.2.2.2⟩) (pairR (mNumR 1) (pairR (nR 12) (pairR certR (pairR (listR prepR 8) signR))))
theorem chgR_rd : Rd1 chgR := ((mNumR_rd _).pair ((nR_rd _).pair (certR_rd.pair ((listR_rd prepR_rd _).pair signR_rd)))).map _
def entryR : RS → EntryD × RS := mapR (fun z => ⟨z.1, z.2.1, z.2.2.1, z.2.2.2⟩) (pairR (mNumR 0) (pairR (mNumR 1) (pairR batchR signR)))
theorem entryR_rd : Rd1 entryR := ((mNumR_rd _).pair ((mNumR_rd _).pair (batchR_rd.pair signR_rd))).map _
def headR : RS → HeaderD × RS := mapR (fun z => ⟨z.1, z.2.1, z.2.2.1, z.2.2.2.1, z.2.2.2.2⟩) (pairR (mNumR 1) (pairR (mNumR 0) (pairR (mNumR 0) (pairR (mNumR 0) (mNumR 0)))))
theorem headR_rd : Rd1 headR := ((mNumR_rd _).pair ((mNumR_rd _).pair ((mNumR_rd _).pair ((mNumR_rd _).pair (mNumR_rd _))))).map _
def nameR : RS → List UInt8 × RS := guardR (bytesR 64) nameE
theorem nameR_rd : Rd1 nameR := (bytesR_rd _).guard _
def proofR : RS → ProofD × RS :=
  mapR (fun z => ⟨z.1.1, z.1.2.1, z.1.2.2.1, z.1.2.2.2.1, z.1.2.2.2.2.1, z.1.2.2.2.2.2, z.2.1, z.2.2⟩)
    (pairR (guardR (pairR nameR (pairR (mNumR 0) (pairR (bytesR 64) (pairR (listR headR 64) (pairR (mNumR 0) (manyR 16)))))) fun z => if z.2.2.2.2.1 < z.2.2.2.2.2 then 0 else 100) (pairR (listR (mNumR 0) 8) certR))
theorem proofR_rd : Rd1 proofR := (((nameR_rd.pair ((mNumR_rd _).pair ((bytesR_rd _).pair ((listR_rd headR_rd _).pair ((mNumR_rd _).pair (manyR_rd _)))))).guard _).pair ((listR_rd (mNumR_rd _) _).pair certR_rd)).map _
/-- a vote's numbers: broker, view, sequence number, digest -/
def voteR4 : RS → (Int × Int × Int × Int) × RS := pairR (nR 12) (pairR (mNumR 0) (pairR (mNumR 1) (mNumR 1)))
theorem voteR4_rd : Rd1 voteR4 := (nR_rd _).pair ((mNumR_rd _).pair ((mNumR_rd _).pair (mNumR_rd _)))
def mBodyR (k : Int) : RS → MsgD × RS :=
  if k = 1 then mapR (fun l => { zMsg with kind := 1, batch := l }) (guardR batchR fun l => if l.length = 1 then 0 else 100)
  else if k = 2 then mapR (fun z => { zMsg with kind := 2, src := z.1.1, view := z.1.2.1, seq := z.1.2.2.1, digest := z.1.2.2.2, batch := z.2 }) (pairR voteR4 batchR)
  else if k = 3 then mapR (fun z => { zMsg with kind := 3, src := z.1, view := z.2.1, seq := z.2.2.1, digest := z.2.2.2 }) voteR4
  else if k = 4 then mapR (fun z => { zMsg with kind := 4, src := z.1, view := z.2.1, seq := z.2.2.1, digest := z.2.2.2 }) voteR4
  else if k = 5 then mapR (fun z => { zMsg with kind := 5, src := z.1, view := z.2.1, client := z.2.2.1, time := z.2.2.2.1, result := z.2.2.2.2 }) (pairR (nR 12) (pairR (mNumR 0) (pairR (nR 7) (pairR (mNumR 0) resultR))))
  else if k = 6 then mapR (fun z => { zMsg with kind := 6, src := z.1, seq := z.2.1, digest := z.2.2 }) (pairR (nR 12) (pairR (mNumR 1) (mNumR 1)))
  else if k = 7 then mapR (fun c => { zMsg with kind := 7, src := c.src, view := c.view, changes := [c] }) chgR
  else if k = 8 then mapR (fun z => { zMsg with kind := 8, src := z.1, view := z.2.1, changes := z.2.2.1, entries := z.2.2.2 }) (pairR (nR 12) (pairR (mNumR 1) (pairR (listR chgR 13) (listR entryR 8))))
  else if k = 9 then mapR (fun z => { zMsg with kind := 9, src := z.1, seq := z.2 }) (pairR (nR 12) (mNumR 0))
  else if k = 10 then mapR (fun z => { zMsg with kind := 10, src := z.1, cert := z.2.1, state := z.2.2 }) (pairR (nR 12) (pairR certR (bytesR 262144)))
  else if k = 11 then mapR (fun z => { zMsg with kind := 11, client := z.1, topic := z.2.1, offset := z.2.2 }) (pairR (nR 7) (pairR nameR (mNumR 0)))
  else if k = 12 then mapR (fun z => { zMsg with kind := 12, src := z.1, proof := z.2 }) (pairR (nR 12) proofR)
  else guardR (pureR { zMsg with kind := k }) fun _ => 100
theorem rd_ite {α : Type} {c : Prop} [Decidable c] {p q : RS → α × RS} (h : Rd1 p) (k : Rd1 q) : Rd1 (if c then p else q) := by split <;> assumption
theorem mBodyR_rd (k : Int) : Rd1 (mBodyR k) := by
  unfold mBodyR
  refine rd_ite ((batchR_rd.guard _).map _) ?_
  refine rd_ite ((voteR4_rd.pair batchR_rd).map _) ?_
  refine rd_ite (voteR4_rd.map _) ?_
  refine rd_ite (voteR4_rd.map _) ?_
  refine rd_ite (((nR_rd _).pair ((mNumR_rd _).pair ((nR_rd _).pair ((mNumR_rd _).pair resultR_rd)))).map _) ?_
  refine rd_ite (((nR_rd _).pair ((mNumR_rd _).pair (mNumR_rd _))).map _) ?_
  refine rd_ite (chgR_rd.map _) ?_
  refine rd_ite (((nR_rd _).pair ((mNumR_rd _).pair ((listR_rd chgR_rd _).pair (listR_rd entryR_rd _)))).map _) ?_
  refine rd_ite (((nR_rd _).pair (mNumR_rd _)).map _) ?_
  refine rd_ite (((nR_rd _).pair (certR_rd.pair (bytesR_rd _))).map _) ?_
  refine rd_ite (((nR_rd _).pair (nameR_rd.pair (mNumR_rd _))).map _) ?_
  refine rd_ite (((nR_rd _).pair proofR_rd).map _) ?_
  exact (pureR_rd _).guard _
/-- a message's own signature, where its kind has one -/
def ownSR (k : Int) : RS → SignD × RS := if signedK k then signR else pureR zSign
theorem ownSR_rd (k : Int) : Rd1 (ownSR k) := by
  unfold ownSR
  split
  · exact signR_rd
  · exact pureR_rd _
def msgR : RS → MsgD × RS := mapR (fun z => { z.2.1 with sign := z.2.2 }) (bindR (nR MX) fun k => pairR (mBodyR k) (ownSR k))
theorem msgR_rd : Rd1 msgR := ((nR_rd _).bind fun k => (mBodyR_rd k).pair (ownSR_rd k)).map _
/-! package state -/
theorem takesR_rd {α : Type} {p : RS → α × RS} (h : Rd1 p) : Rd1 (takesR p) :=
  ⟨fun s => Nat.le_trans (goR_len h.len _ _) (numR_len 4096 s), fun s hs => by
    unfold takesR
    rw [numR_stay 4096 s hs]
    exact goR_stay h _ _ hs⟩
def tHdR : RS → HeaderD × RS := withinR hdR zHd
def tCertR : RS → CertD × RS := withinR (parseR certR zCert) zCert
def zChg : ChangeD := ⟨0, 0, zCert, [], zSign⟩
def tChgR : RS → ChangeD × RS := withinR (parseR chgR zChg) zChg
def tMsgR : RS → MsgD × RS := withinR (parseR msgR zMsg) zMsg
def placedR : RS → PlacedD × RS := mapR (fun z => ⟨z.1, z.2.1, z.2.2⟩) (pairR (bytesR 4194304) (pairR (nR MX) (bytesR 4194304)))
theorem placedR_rd : Rd1 placedR := ((bytesR_rd _).pair ((nR_rd _).pair (bytesR_rd _))).map _
def blockR : RS → BlockD × RS := mapR (fun z => ⟨z.1, z.2.1, z.2.2⟩) (pairR tHdR (pairR batchR (takesR placedR)))
theorem blockR_rd : Rd1 blockR := ((withinR_rd _ _).pair (batchR_rd.pair (takesR_rd placedR_rd))).map _
def voteR : RS → VoteD × RS := mapR (fun z => ⟨z.1, z.2.1, z.2.2⟩) (pairR (nR MX) (pairR (nR MX) signR))
theorem voteR_rd : Rd1 voteR := ((nR_rd _).pair ((nR_rd _).pair signR_rd)).map _
theorem markR_eq : markR = mapR (fun z => ⟨z.1, z.2⟩) (pairR tHdR (bytesR 4194304)) := rfl
theorem markR_rd : Rd1 markR := by rw [markR_eq]; exact ((withinR_rd _ _).pair (bytesR_rd _)).map _
def voteOfR : RS → VoteOfD × RS := mapR (fun z => ⟨z.1, z.2⟩) (pairR (nR MX) signR)
theorem voteOfR_rd : Rd1 voteOfR := ((nR_rd _).pair signR_rd).map _
def flagR : RS → Bool × RS := mapR (fun n => n == 1) (nR 1)
theorem flagR_rd : Rd1 flagR := (nR_rd _).map _
def midR (h : Bool) : RS → (SignD × List SignedD) × RS := if h then pairR signR batchR else pureR (zSign, [])
theorem midR_rd (h : Bool) : Rd1 (midR h) := by
  unfold midR
  split
  · exact signR_rd.pair batchR_rd
  · exact pureR_rd _
def slotR : RS → SlotD × RS :=
  mapR (fun z => ⟨z.1.1, z.1.2.1, z.1.2.2, z.2.1.1, z.2.1.2, z.2.2.1, z.2.2.2⟩) (bindR (pairR (nR MX) (pairR flagR (nR MX))) fun z => pairR (midR z.2.1) (pairR (takesR voteOfR) (takesR voteOfR)))
theorem slotR_rd : Rd1 slotR := (((nR_rd _).pair (flagR_rd.pair (nR_rd _))).bind fun z => (midR_rd _).pair ((takesR_rd voteOfR_rd).pair (takesR_rd voteOfR_rd))).map _
def heldR : RS → PreparedD × RS := mapR (fun z => ⟨z.1, z.2.1, z.2.2.1, z.2.2.2.1, z.2.2.2.2.1, z.2.2.2.2.2⟩) (pairR (nR MX) (pairR (nR MX) (pairR (nR MX) (pairR signR (pairR (takesR signR) batchR)))))
theorem heldR_rd : Rd1 heldR := ((nR_rd _).pair ((nR_rd _).pair ((nR_rd _).pair (signR_rd.pair ((takesR_rd signR_rd).pair batchR_rd))))).map _
def zSigned : SignedD := ⟨zReq, zSign⟩
def onlyR (l : List SignedD) : SignedD := match l with
  | [x] => x
  | _ => zSigned
def waitR : RS → SignedD × RS := mapR onlyR (guardR batchR fun l => if l.length = 1 then 0 else 200)
theorem waitR_rd : Rd1 waitR := (batchR_rd.guard _).map _
def coreR1 : RS → (Int × Bool × Int × Int × HeaderD × List BlockD × List UInt8) × RS := pairR (nR MX) (pairR flagR (pairR (nR MX) (pairR (nR MX) (pairR tHdR (pairR (takesR blockR) (bytesR 4194304))))))
theorem coreR1_rd : Rd1 coreR1 := (nR_rd _).pair (flagR_rd.pair ((nR_rd _).pair ((nR_rd _).pair ((withinR_rd _ _).pair ((takesR_rd blockR_rd).pair (bytesR_rd _))))))
def coreR2 : RS → (CertD × List VoteD × List CertD × List CertD × List MarkD × List SlotD × List PreparedD) × RS := pairR tCertR (pairR (takesR voteR) (pairR (takesR tCertR) (pairR (takesR tCertR) (pairR (takesR markR) (pairR (takesR slotR) (takesR heldR))))))
theorem coreR2_rd : Rd1 coreR2 := (withinR_rd _ _).pair ((takesR_rd voteR_rd).pair ((takesR_rd (withinR_rd _ _)).pair ((takesR_rd (withinR_rd _ _)).pair ((takesR_rd markR_rd).pair ((takesR_rd slotR_rd).pair (takesR_rd heldR_rd))))))
def coreR3 : RS → (List ChangeD × List SignedD × Int × Int × List MsgD × Int) × RS := pairR (takesR tChgR) (pairR (takesR waitR) (pairR (nR MX) (pairR (nR MX) (pairR (takesR tMsgR) (nR MX)))))
theorem coreR3_rd : Rd1 coreR3 := (takesR_rd (withinR_rd _ _)).pair ((takesR_rd waitR_rd).pair ((nR_rd _).pair ((nR_rd _).pair ((takesR_rd (withinR_rd _ _)).pair (nR_rd _)))))
def coreR : RS → CoreD × RS :=
  mapR (fun z => { view := z.1.1, active := z.1.2.1, ticks := z.1.2.2.1, floor := z.1.2.2.2.1, base := z.1.2.2.2.2.1, blocks := z.1.2.2.2.2.2.1, topics := z.1.2.2.2.2.2.2, points := ⟨z.2.1.1, z.2.1.2.1, z.2.1.2.2.1⟩, certs := z.2.1.2.2.2.1, marks := z.2.1.2.2.2.2.1, slots := z.2.1.2.2.2.2.2.1, held := z.2.1.2.2.2.2.2.2, changes := z.2.2.1, pool := ⟨z.2.2.2.1⟩, timer := ⟨z.2.2.2.2.1, z.2.2.2.2.2.1⟩, news := z.2.2.2.2.2.2.1, wants := z.2.2.2.2.2.2.2 }) (pairR coreR1 (pairR coreR2 coreR3))
theorem coreR_rd : Rd1 coreR := (coreR1_rd.pair (coreR2_rd.pair coreR3_rd)).map _
end Go.Proofs.YteaggenihhaajaaGreat

/- What is put is read, what is read was put: operations, requests, batches, certificates, changes, messages, cores. No program here. -/
namespace Go.Proofs.YteaggenihhaajaaGreat
open Go.RowKit
set_option linter.unusedVariables false

theorem goR_cd {α : Type} {p : RS → α × RS} {ok : α → Prop} {b : α → List UInt8} (h : Cd p ok b) (n : Nat) : Cd (goR p n) (fun l => l.length = n ∧ ∀ x ∈ l, ok x) (fun l => l.flatMap b) where
  toRd1 := goR_rd h.toRd1 n
  there := fun l r hl => by rw [← hl.1]; exact goR_put h l r hl.2
  back := fun t e => by
    obtain ⟨h1, h2, h3⟩ := goR_back h n t e
    exact ⟨⟨h2, h1⟩, h3⟩
theorem allR_cd {α : Type} {p : RS → α × RS} {ok : α → Prop} {b : α → List UInt8} (h : Cd p ok b) : ∀ n, Cd (allR p n) (fun l => l.length = n ∧ ∀ x ∈ l, ok x) (fun l => l.flatMap b)
  | 0 => { toRd1 := pureR_rd _, there := fun l r hl => by rw [List.eq_nil_of_length_eq_zero hl.1]; rfl, back := fun t e => ⟨⟨rfl, fun x hx => (List.not_mem_nil hx).elim⟩, rfl⟩ }
  | n + 1 => by
    have ih := allR_cd h n
    have e := h.pair ih
    refine { toRd1 := allR_rd h.toRd1 _, there := fun l r hl => ?_, back := fun t hb => ?_ }
    · cases l with
      | nil => simp at hl
      | cons x l =>
        have := e.there (x, l) r ⟨hl.2 x (.head _), by simpa using hl.1, fun y hy => hl.2 y (.tail _ hy)⟩
        show mapR _ (pairR p (allR p n)) _ = _
        unfold mapR
        rw [List.flatMap_cons, this]
    · obtain ⟨h1, h2⟩ := e.back t hb
      refine ⟨⟨congrArg Nat.succ h1.2.1, fun y hy => ?_⟩, ?_⟩
      · rcases List.mem_cons.1 hy with e | hy
        · rw [e]; exact h1.1
        · exact h1.2.2 y hy
      · show t = List.flatMap b (_ :: _) ++ _
        rw [List.flatMap_cons]
        exact h2
/-- a list behind its number -/
theorem some_cd {α : Type} {c : RS → Int × RS} {most : Int} (hc : Cd c (fun n => 0 ≤ n ∧ n ≤ most) encI) {q : Nat → RS → List α × RS} {ok : α → Prop} {b : α → List UInt8} (hq : ∀ n, Cd (q n) (fun l => l.length = n ∧ ∀ x ∈ l, ok x) (fun l => l.flatMap b)) :
    Cd (mapR Prod.snd (bindR c fun n => q n.toNat)) (fun l => (l.length : Int) ≤ most ∧ ∀ x ∈ l, ok x) (putsB b) :=
  (hc.bind (ok' := fun (n : Int) l => l.length = n.toNat ∧ ∀ x ∈ l, ok x) (b' := fun _ l => l.flatMap b) (fun n => (hq _).toRd1) (fun n _ => hq _)).map Prod.snd (fun l => ((l.length : Int), l))
    (fun z ⟨⟨h0, h1⟩, h2, h3⟩ => ⟨⟨by show ((z.2.length : Nat) : Int) ≤ most; rw [h2]; omega, h3⟩, by show putsB b z.2 = encI z.1 ++ z.2.flatMap b; unfold putsB; rw [h2, Int.toNat_of_nonneg h0]⟩)
    (fun l ⟨h1, h2⟩ => ⟨⟨⟨by show (0 : Int) ≤ ((l.length : Nat) : Int); omega, h1⟩, by show l.length = ((l.length : Nat) : Int).toNat; rw [Int.toNat_natCast], h2⟩, rfl⟩)
/-! operations -/
def opTail (o : OpD) : List UInt8 :=
  (if o.kind = 0 then [] else byF o.topic) ++ (if o.kind = 2 then enc o.records.length ++ o.records.flatMap byF else if o.kind = 3 then byF o.group ++ enc o.offset.toNat else if o.kind = 4 then enc o.offset.toNat else [])
structure OpSh (k : Int) (o : OpD) : Prop where
  kind : o.kind = k
  only : o = onlyF o
  topic : o.topic.length ≤ 64
  group : o.group.length ≤ 64
  recs : o.records.length ≤ 4 ∧ ∀ r ∈ o.records, r.length ≤ 64
  off : 0 ≤ o.offset ∧ o.offset ≤ 9007199254740992
theorem only0 {o : OpD} (h : o = onlyF o) (k : o.kind = 0) : o = ⟨0, [], [], 0, []⟩ := by rw [h]; simp [onlyF, k]
theorem only1 {o : OpD} (h : o = onlyF o) (k : o.kind = 1) : (⟨1, o.topic, [], 0, []⟩ : OpD) = o := by
  conv => rhs; rw [h]
  simp [onlyF, k]
theorem only2 {o : OpD} (h : o = onlyF o) (k : o.kind = 2) : (⟨2, o.topic, [], 0, o.records⟩ : OpD) = o := by
  conv => rhs; rw [h]
  simp [onlyF, k]
theorem only3 {o : OpD} (h : o = onlyF o) (k : o.kind = 3) : (⟨3, o.topic, o.group, o.offset, []⟩ : OpD) = o := by
  conv => rhs; rw [h]
  simp [onlyF, k]
theorem only4 {o : OpD} (h : o = onlyF o) (k : o.kind = 4) : (⟨4, o.topic, [], o.offset, []⟩ : OpD) = o := by
  conv => rhs; rw [h]
  simp [onlyF, k]
theorem MX_int : ((MX : Nat) : Int) = 9007199254740992 := rfl
theorem enc_len_nat (n : Nat) (h : n < 18446744073709551616) : encI ((n : Nat) : Int) = enc n := by rw [encI_nat (by omega) (by omega), Int.toNat_natCast]
theorem opBodyR_cd (k : Int) (h : 0 ≤ k ∧ k ≤ 4) : Cd (opBodyR k) (OpSh k) opTail := by
  have hk : k = 0 ∨ k = 1 ∨ k = 2 ∨ k = 3 ∨ k = 4 := by omega
  have nx := nR_cd MX (by decide)
  rcases hk with rfl | rfl | rfl | rfl | rfl
  · refine (pureR_cd _).as (fun o => ⟨fun h => only0 h.only h.kind, fun h => ?_⟩) (fun o h => by rw [h]; rfl)
    rw [h]
    exact ⟨rfl, rfl, by simp, by simp, by simp, by simp⟩
  · exact (bytesR_cd 64 (by decide)).map (ok' := OpSh 1) (b' := opTail) (fun t => ⟨1, t, [], 0, []⟩) (fun o => o.topic) (fun t ht => ⟨⟨rfl, rfl, ht, by simp, by simp, by simp⟩, by simp [opTail]⟩) (fun o h => ⟨h.topic, only1 h.only h.kind⟩)
  · refine ((bytesR_cd 64 (by decide)).pair (some_cd (nR_cd 4 (by decide)) (allR_cd (bytesR_cd 64 (by decide))))).map (ok' := OpSh 2) (b' := opTail) (fun z => ⟨2, z.1, [], 0, z.2⟩) (fun o => (o.topic, o.records)) (fun z ⟨h1, h2, h3⟩ => ⟨⟨rfl, rfl, h1, by simp, ⟨?_, h3⟩, by simp⟩, ?_⟩) (fun o h => ⟨⟨h.topic, ?_, h.recs.2⟩, only2 h.only h.kind⟩)
    · have h2 : ((z.2.length : Nat) : Int) ≤ ((4 : Nat) : Int) := h2
      show z.2.length ≤ 4
      omega
    · have h2 : ((z.2.length : Nat) : Int) ≤ ((4 : Nat) : Int) := h2
      simp only [opTail, putsB]
      rw [enc_len_nat _ (by omega)]
      simp
    · have := h.recs.1
      show ((o.records.length : Nat) : Int) ≤ ((4 : Nat) : Int)
      omega
  · refine ((bytesR_cd 64 (by decide)).pair ((bytesR_cd 64 (by decide)).pair nx)).map (ok' := OpSh 3) (b' := opTail) (fun z => ⟨3, z.1, z.2.1, z.2.2, []⟩) (fun o => (o.topic, o.group, o.offset)) (fun z ⟨h1, h2, h3, h4⟩ => ⟨⟨rfl, rfl, h1, h2, by simp, ⟨h3, h4⟩⟩, ?_⟩) (fun o h => ⟨⟨h.topic, h.group, h.off⟩, only3 h.only h.kind⟩)
    rw [MX_int] at h4
    simp only [opTail]
    rw [encI_nat h3 (by omega)]
    simp
  · refine ((bytesR_cd 64 (by decide)).pair nx).map (ok' := OpSh 4) (b' := opTail) (fun z => ⟨4, z.1, [], z.2, []⟩) (fun o => (o.topic, o.offset)) (fun z ⟨h1, h3, h4⟩ => ⟨⟨rfl, rfl, h1, by simp, by simp, ⟨h3, h4⟩⟩, ?_⟩) (fun o h => ⟨⟨h.topic, h.off⟩, only4 h.only h.kind⟩)
    rw [MX_int] at h4
    simp only [opTail]
    rw [encI_nat h3 (by omega)]
    simp
theorem opE_sh {o : OpD} (h : opE o = 0) : OpSh o.kind o := by
  obtain ⟨h1, h2, h3, h4, h5⟩ := opE_ok h
  have h0 := h
  unfold opE at h
  split at h
  · cases h
  split at h
  · cases h
  split at h
  · cases h
  split at h
  · cases h
  rename_i a1 a2 a3 a4
  have hk : o.kind = 0 ∨ o.kind = 1 ∨ o.kind = 2 ∨ o.kind = 3 ∨ o.kind = 4 := by omega
  have nt : o.kind ≠ 0 → o.topic.length ≤ 64 := fun hk => nameF_len (by
    cases hn : nameF o.topic with
    | true => rfl
    | false => exact absurd ⟨hk, hn⟩ a2)
  have ng : o.kind = 3 → o.group.length ≤ 64 := fun hk => nameF_len (by
    cases hn : nameF o.group with
    | true => rfl
    | false => exact absurd ⟨hk, hn⟩ a3)
  have nr : o.kind = 2 → ∀ r ∈ o.records, r.length ≤ 64 := fun hk r hr => by
    have : ¬ longF o = true := fun e => a4 ⟨hk, .inr (.inr e)⟩
    unfold longF at this
    simp at this
    exact this r hr
  rcases hk with k | k | k | k | k
  · have e := only0 h2 k
    refine ⟨rfl, h2, ?_, ?_, ?_, ⟨h3, h4⟩⟩ <;> rw [e] <;> simp
  · have e := only1 h2 k
    refine ⟨rfl, h2, nt (by omega), ?_, ?_, ⟨h3, h4⟩⟩ <;> rw [← e] <;> simp
  · have e := only2 h2 k
    refine ⟨rfl, h2, nt (by omega), ?_, ⟨h5 k, nr k⟩, ⟨h3, h4⟩⟩
    rw [← e]; simp
  · have e := only3 h2 k
    refine ⟨rfl, h2, nt (by omega), ng k, ?_, ⟨h3, h4⟩⟩
    rw [← e]; simp
  · have e := only4 h2 k
    refine ⟨rfl, h2, nt (by omega), ?_, ?_, ⟨h3, h4⟩⟩ <;> rw [← e] <;> simp
theorem opR_cd : Cd opR (fun o => opE o = 0) opB := by
  have h := (nR_cd 4 (by decide)).bind (ok' := OpSh) (b' := fun _ => opTail) opBodyR_rd (fun k hk => opBodyR_cd k hk)
  have h2 := h.map (ok' := fun o => (0 ≤ o.kind ∧ o.kind ≤ 4) ∧ OpSh o.kind o) (b' := fun o => encI o.kind ++ opTail o) Prod.snd (fun o => (o.kind, o))
    (fun z ⟨h1, h2⟩ => by have e := h2.kind; refine ⟨⟨by rw [e]; exact h1, by rw [e]; exact h2⟩, by show encI z.2.kind ++ _ = _; rw [e]⟩) (fun o hh => ⟨hh, rfl⟩)
  refine ((h2.guard opE).zero zOp).as (fun o => ⟨fun h => ⟨⟨(opE_ok h).1, opE_sh h⟩, h⟩, fun h => h.2⟩) (fun o h => ?_)
  have := h.1.1
  unfold opB
  rw [encI_nat this.1 (by omega)]
  unfold opTail
  rw [List.append_assoc]
theorem resultR_cd : Cd resultR (fun r => (0 ≤ r.err ∧ r.err ≤ 65536) ∧ (0 ≤ r.offset ∧ r.offset ≤ 9007199254740992)) resultB := by
  refine ((((nR_cd 65536 (by decide)).pair (nR_cd MX (by decide))).map (ok' := fun r : ResultD => (0 ≤ r.err ∧ r.err ≤ 65536) ∧ (0 ≤ r.offset ∧ r.offset ≤ 9007199254740992)) (b' := resultB) (fun z => ⟨z.1, z.2⟩) (fun r => (r.err, r.offset)) (fun z ⟨h1, h2⟩ => ⟨⟨h1, h2⟩, ?_⟩) (fun r h => ⟨h, rfl⟩)).zero _)
  have h3 : z.2 ≤ 9007199254740992 := h2.2
  have h4 : z.1 ≤ 65536 := h1.2
  show enc (max z.1 0).toNat ++ enc (max z.2 0).toNat = encI z.1 ++ encI z.2
  rw [encI_nat h1.1 (by omega), encI_nat h2.1 (by omega), Int.max_eq_left h1.1, Int.max_eq_left h2.1]
/-! requests -/
theorem signR_cd : Cd signR (fun s => signE s = 0) signP := by
  rw [signR_eq]
  refine (((((nR_cd 20 (by decide)).pair (nR_cd MX (by decide))).map (ok' := fun s : SignD => (0 ≤ s.key ∧ s.key ≤ 20) ∧ (0 ≤ s.digest ∧ s.digest ≤ 9007199254740992)) (b' := signB) (fun z => ⟨z.1, z.2⟩) (fun s => (s.key, s.digest)) (fun z ⟨h1, h2⟩ => ⟨⟨h1, h2⟩, ?_⟩) (fun s h => ⟨h, rfl⟩)).guard _).zero _).as (fun s => ?_) (fun s h => ?_)
  · have h3 : z.2 ≤ 9007199254740992 := h2.2
    have h4 : z.1 ≤ 20 := h1.2
    show enc z.1.toNat ++ enc z.2.toNat = _
    rw [encI_nat h1.1 (by omega), encI_nat h2.1 (by omega)]
  · rw [signE_ok]
    constructor
    · intro h; exact ⟨⟨⟨h.1, by omega⟩, by omega, h.2.2.2⟩, if_neg (by omega)⟩
    · intro ⟨⟨h1, h2⟩, h3⟩
      refine ⟨h1.1, by omega, ?_, h2.2⟩
      by_cases e : s.digest = 0
      · rw [if_pos e] at h3; cases h3
      · omega
  · obtain ⟨⟨h1, h2⟩, h3⟩ := h
    unfold signP
    rw [if_pos]
    rw [signE_ok]
    refine ⟨h1.1, by omega, ?_, h2.2⟩
    by_cases e : s.digest = 0
    · rw [if_pos e] at h3; cases h3
    · omega
theorem reqBodyR_cd : Cd reqBodyR (fun x => (0 ≤ x.client ∧ x.client ≤ 7) ∧ (0 ≤ x.time ∧ x.time ≤ 9007199254740992) ∧ opE x.op = 0) reqB := by
  refine ((nR_cd 7 (by decide)).pair ((nR_cd MX (by decide)).pair opR_cd)).map (ok' := fun x : RequestD => (0 ≤ x.client ∧ x.client ≤ 7) ∧ (0 ≤ x.time ∧ x.time ≤ 9007199254740992) ∧ opE x.op = 0) (b' := reqB) (fun z => ⟨z.1, z.2.1, z.2.2⟩) (fun x => (x.client, x.time, x.op)) (fun z ⟨h1, h2, h3⟩ => ⟨⟨h1, h2, h3⟩, ?_⟩) (fun x h => ⟨h, rfl⟩)
  have h4 : z.2.1 ≤ 9007199254740992 := h2.2
  have h5 : z.1 ≤ 7 := h1.2
  show enc z.1.toNat ++ enc z.2.1.toNat ++ opB z.2.2 = _
  rw [encI_nat h1.1 (by omega), encI_nat h2.1 (by omega), List.append_assoc]
theorem reqE_iff {x : RequestD} : reqE x = 0 ↔ ((0 ≤ x.client ∧ x.client ≤ 7) ∧ (0 ≤ x.time ∧ x.time ≤ 9007199254740992) ∧ opE x.op = 0) ∧ ¬ x.time = 0 := by
  constructor
  · intro h
    obtain ⟨h1, h2, h3⟩ := reqE_ok h
    exact ⟨⟨⟨h1.1, by omega⟩, ⟨by omega, h2.2⟩, h3⟩, by omega⟩
  · intro ⟨⟨h1, h2, h3⟩, h4⟩
    unfold reqE
    rw [if_neg (by omega)]
    exact h3
theorem reqR_pc : Pc reqR (fun x => reqE x = 0) reqB where
  there := fun x hx => by
    obtain ⟨h1, h2⟩ := reqE_iff.1 hx
    have e := reqBodyR_cd.there x [] h1
    rw [List.append_nil] at e
    unfold reqR
    simp [e, doneR, h2]
  back := fun t e => by
    unfold reqR at e ⊢
    split at e
    · rename_i hd
      rw [if_pos hd]
      split at e
      · cases e
      · rename_i ht
        rw [if_neg ht]
        have hs := doneR_zero hd
        obtain ⟨h1, h2⟩ := reqBodyR_cd.back t (by rw [hs])
        rw [hs, List.append_nil] at h2
        exact ⟨reqE_iff.2 ⟨h1, ht⟩, h2⟩
    · rename_i hd
      exact absurd e hd
theorem signedR_cd : Cd signedR (fun s => reqE s.request = 0 ∧ signE s.sign = 0) signedB := by
  refine (((bytesR_cd 1024 (by decide)).guard fun x => (reqR x).2).pair signR_cd).map (ok' := fun s : SignedD => reqE s.request = 0 ∧ signE s.sign = 0) (b' := signedB) (fun z => ⟨(reqR z.1).1, z.2⟩) (fun s => (reqB s.request, s.sign)) (fun z ⟨⟨h1, h2⟩, h3⟩ => ?_) (fun s ⟨h1, h2⟩ => ?_)
  · obtain ⟨k1, k2⟩ := reqR_pc.back z.1 h2
    refine ⟨⟨k1, h3⟩, ?_⟩
    show byF (reqB (reqR z.1).1) ++ signB z.2 = byF z.1 ++ signP z.2
    have h3 : signE z.2 = 0 := h3
    rw [← k2]
    unfold signP
    rw [if_pos h3]
  · have e := reqR_pc.there _ h1
    have hl := reqB_short h1
    refine ⟨⟨⟨by show (reqB s.request).length ≤ _; omega, by show (reqR (reqB s.request)).2 = 0; rw [e]⟩, h2⟩, ?_⟩
    show (⟨(reqR (reqB s.request)).1, s.sign⟩ : SignedD) = s
    rw [e]
theorem batchR_cd : Cd batchR (fun l => batchE l = 0) batchP := by
  have h := some_cd (nR_cd 4 (by decide)) (q := fun n => goR signedR n) (goR_cd signedR_cd)
  refine ((h.guard batchE).zero []).as (fun l => ⟨fun h => ⟨?_, h⟩, fun h => h.2⟩) (fun l h => ?_)
  · obtain ⟨h1, h2⟩ := batchE_ok h
    exact ⟨by show ((l.length : Nat) : Int) ≤ ((4 : Nat) : Int); omega, h2⟩
  · unfold batchP
    rw [if_pos h.2]
    have := h.1.1
    have h4 : ((l.length : Nat) : Int) ≤ ((4 : Nat) : Int) := this
    unfold batchB putsB
    rw [enc_len_nat _ (by omega)]
end Go.Proofs.YteaggenihhaajaaGreat

/- What is put is read, what is read was put: certificates, changes, messages. No program here. -/
namespace Go.Proofs.YteaggenihhaajaaGreat
open Go.RowKit
set_option linter.unusedVariables false

/-! messages -/
theorem certR_cd : Cd certR (fun c => certE c = 0) certB := by
  rw [certR_eq]
  have c1 := ((mNumR_cd 0 (by decide)).pair (mNumR_cd 0 (by decide))).guard fun z : Int × Int => if (z.1 == 0) == (z.2 == 0) then (0 : Int) else 100
  have hm : ∀ z : Int × Int, (if z.1 = 0 then (0 : Int) else 13) ≤ 4096 := fun z => by split <;> decide
  have hq := fun z : Int × Int => listR_cd signR_cd (if z.1 = 0 then (0 : Int) else 13) (hm z)
  have k : ∀ z : Int × Int, Rd1 (listR signR (if z.1 = 0 then (0 : Int) else 13)) := fun z => listR_rd signR_rd _
  have c2 := c1.bind k (fun z _ => hq z)
  refine c2.map (ok' := fun c : CertD => certE c = 0) (b' := certB) (fun z => ⟨z.1.1, z.1.2, z.2⟩) (fun c => ((c.seq, c.digest), c.signs)) (fun z h => ?_) (fun c h => ?_)
  · obtain ⟨⟨⟨h1, h2⟩, h3⟩, h4, h5⟩ := h
    refine ⟨?_, by show certB ⟨_, _, _⟩ = _; simp [certB, numsB, signsB, putsB]⟩
    obtain ⟨⟨a, b⟩, l⟩ := z
    have h1 : 0 ≤ a ∧ a ≤ 9007199254740992 := h1
    have h2 : 0 ≤ b ∧ b ≤ 9007199254740992 := h2
    have h3 : (if (a == 0) == (b == 0) then (0 : Int) else 100) = 0 := h3
    have h4 : (l.length : Int) ≤ (if a = 0 then 0 else 13) := h4
    unfold certE signsE
    simp only [orE_zero]
    refine ⟨numE_ok.2 h1, numE_ok.2 h2, ?_, manyE_ok.2 ?_, listE_zero.2 h5⟩
    · show (if (decide (a = 0) != decide (b = 0)) || (decide (a = 0) && decide (0 < l.length)) then (100 : Int) else 0) = 0
      by_cases ha : a = 0
      · rw [if_pos ha] at h4
        by_cases hb : b = 0
        · have : ¬ 0 < l.length := by omega
          simp [ha, hb, this]
        · simp [ha, hb] at h3
      · by_cases hb : b = 0
        · simp [ha, hb] at h3
        · simp [ha, hb]
    · split at h4 <;> omega
  · obtain ⟨h1, h2, h3⟩ := certE_ok h
    unfold certE signsE at h
    simp only [orE_zero] at h
    obtain ⟨_, _, h4, h5, h6⟩ := h
    refine ⟨⟨⟨⟨h1, h2⟩, ?_⟩, ?_, listE_zero.1 h6⟩, rfl⟩
    · show (if (c.seq == 0) == (c.digest == 0) then (0 : Int) else 100) = 0
      by_cases ha : c.seq = 0 <;> by_cases hb : c.digest = 0
      all_goals
        first
        | (simp [ha, hb]; done)
        | (exfalso; simp [ha, hb] at h4; done)
        | (have e1 : (c.seq == 0) = false := by simpa using ha
           have e2 : (c.digest == 0) = false := by simpa using hb
           rw [e1, e2]; rfl)
    · show ((c.signs.length : Nat) : Int) ≤ (if c.seq = 0 then 0 else 13)
      have := manyE_ok.1 h5
      split
      · rename_i ha
        simp [ha] at h4
        by_cases hb : c.digest = 0
        · simp [hb] at h4; simp [h4]
        · simp [hb] at h4
      · exact this
theorem signsR_cd : Cd signsR (fun l => signsE l = 0) signsB :=
  (listR_cd signR_cd 13 (by decide)).as (fun l => by unfold signsE; rw [orE_zero, manyE_ok, listE_zero]) (fun l _ => rfl)
theorem prepR_cd : Cd prepR (fun p => prepE p = 0) prepB := by
  refine ((mNumR_cd 0 (by decide)).pair ((mNumR_cd 1 (by decide)).pair ((mNumR_cd 1 (by decide)).pair (signR_cd.pair (signsR_cd.pair batchR_cd))))).map (ok' := fun p : PreparedD => prepE p = 0) (b' := prepB) (fun z => ⟨z.1, z.2.1, z.2.2.1, z.2.2.2.1, z.2.2.2.2.1, z.2.2.2.2.2⟩) (fun p => (p.view, p.seq, p.digest, p.firstS, p.signs, p.batch)) (fun z h => ⟨?_, ?_⟩) (fun p h => ⟨?_, rfl⟩)
  · show prepE ⟨_, _, _, _, _, _⟩ = 0
    unfold prepE
    simp only [orE_zero, numE_ok, posE_ok]
    exact h
  · simp [prepB, numsB]
  · unfold prepE at h
    simp only [orE_zero, numE_ok, posE_ok] at h
    exact h
theorem chgR_cd : Cd chgR (fun c => chgE c = 0) chgB := by
  refine ((mNumR_cd 1 (by decide)).pair ((nR_cd 12 (by decide)).pair (certR_cd.pair ((listR_cd prepR_cd 8 (by decide)).pair signR_cd)))).map (ok' := fun c : ChangeD => chgE c = 0) (b' := chgB) (fun z => ⟨z.1, z.2.1, z.2.2.1, z.2.2.2.1, z.2.2.2.2⟩) (fun c => (c.view, c.src, c.cert, c.above, c.sign)) (fun z h => ⟨?_, ?_⟩) (fun c h => ⟨?_, rfl⟩)
  · show chgE ⟨_, _, _, _, _⟩ = 0
    unfold chgE
    simp only [orE_zero, posE_ok, brokE_ok, manyE_ok, listE_zero]
    obtain ⟨h1, h2, h3, ⟨h4, h5⟩, h6⟩ := h
    exact ⟨h1, h2, h3, h4, h5, h6⟩
  · simp [chgB, bodyC, numsB, putsB]
  · unfold chgE at h
    simp only [orE_zero, posE_ok, brokE_ok, manyE_ok, listE_zero] at h
    obtain ⟨h1, h2, h3, h4, h5, h6⟩ := h
    exact ⟨h1, h2, h3, ⟨h4, h5⟩, h6⟩
theorem entryR_cd : Cd entryR (fun x => entryE x = 0) entryB := by
  refine ((mNumR_cd 0 (by decide)).pair ((mNumR_cd 1 (by decide)).pair (batchR_cd.pair signR_cd))).map (ok' := fun x : EntryD => entryE x = 0) (b' := entryB) (fun z => ⟨z.1, z.2.1, z.2.2.1, z.2.2.2⟩) (fun c => (c.view, c.seq, c.batch, c.sign)) (fun z h => ⟨?_, ?_⟩) (fun c h => ⟨?_, rfl⟩)
  · show entryE ⟨_, _, _, _⟩ = 0
    unfold entryE
    simp only [orE_zero, posE_ok, numE_ok]
    exact h
  · simp [entryB, numsB]
  · unfold entryE at h
    simp only [orE_zero, posE_ok, numE_ok] at h
    exact h
theorem headR_cd : Cd headR (fun x => headE x = 0) headB := by
  refine ((mNumR_cd 1 (by decide)).pair ((mNumR_cd 0 (by decide)).pair ((mNumR_cd 0 (by decide)).pair ((mNumR_cd 0 (by decide)).pair (mNumR_cd 0 (by decide)))))).map (ok' := fun x : HeaderD => headE x = 0) (b' := headB) (fun z => ⟨z.1, z.2.1, z.2.2.1, z.2.2.2.1, z.2.2.2.2⟩) (fun c => (c.seq, c.prev, c.batch, c.root, c.state)) (fun z h => ⟨?_, ?_⟩) (fun c h => ⟨?_, rfl⟩)
  · show headE ⟨_, _, _, _, _⟩ = 0
    unfold headE
    simp only [orE_zero, posE_ok, numE_ok]
    exact h
  · simp [headB, numsB]
  · unfold headE at h
    simp only [orE_zero, posE_ok, numE_ok] at h
    exact h
theorem nameR_cd : Cd nameR (fun s => nameE s = 0) byF :=
  ((bytesR_cd 64 (by decide)).guard nameE).as (fun s => ⟨fun h => ⟨nameE0 h, h⟩, fun h => h.2⟩) (fun _ _ => rfl)
theorem proofR_cd : Cd proofR (fun p => proofE p = 0) proofB := by
  refine ((((nameR_cd.pair ((mNumR_cd 0 (by decide)).pair ((bytesR_cd 64 (by decide)).pair ((listR_cd headR_cd 64 (by decide)).pair ((mNumR_cd 0 (by decide)).pair (manyR_cd 16 (by decide))))))).guard fun z => if z.2.2.2.2.1 < z.2.2.2.2.2 then 0 else 100).pair ((listR_cd (mNumR_cd 0 (by decide)) 8 (by decide)).pair certR_cd))).map (ok' := fun p : ProofD => proofE p = 0) (b' := proofB) (fun z => ⟨z.1.1, z.1.2.1, z.1.2.2.1, z.1.2.2.2.1, z.1.2.2.2.2.1, z.1.2.2.2.2.2, z.2.1, z.2.2⟩)
    (fun p => ((p.topic, p.offset, p.record, p.headers, p.index, p.count), p.path, p.cert)) (fun z h => ⟨?_, ?_⟩) (fun p h => ⟨?_, rfl⟩)
  · obtain ⟨⟨⟨h1, h2, h3, ⟨h4, h5⟩, h6, h7⟩, h8⟩, ⟨h9, h10⟩, h11⟩ := h
    obtain ⟨⟨a, b, c, d, i, n⟩, l, k⟩ := z
    have h8 : (if i < n then (0 : Int) else 100) = 0 := h8
    have h8 : i < n := by
      by_cases e : i < n
      · exact e
      · rw [if_neg e] at h8; cases h8
    have h7 : 0 ≤ n ∧ n ≤ 16 := h7
    have h6 : 0 ≤ i ∧ i ≤ 9007199254740992 := h6
    have h3 : c.length ≤ 64 := h3
    show proofE ⟨a, b, c, d, i, n, l, k⟩ = 0
    unfold proofE
    simp only [orE_zero, numE_ok, manyE_ok, listE_zero, rangeE_ok]
    exact ⟨h1, h2, by omega, h4, h5, h6, h7, ⟨h6.1, by omega⟩, h9, h10, h11⟩
  · simp [proofB, numsB, putsB]
  · unfold proofE at h
    simp only [orE_zero, numE_ok, manyE_ok, listE_zero, rangeE_ok] at h
    obtain ⟨h1, h2, h3, h4, h5, h6, h7, h8, h9, h10, h11⟩ := h
    exact ⟨⟨⟨h1, h2, by show p.record.length ≤ 64; omega, ⟨h4, h5⟩, h6, h7⟩, if_pos (by show p.index < p.count; omega)⟩, ⟨h9, h10⟩, h11⟩
theorem vote4_cd : Cd voteR4 (fun z => (0 ≤ z.1 ∧ z.1 ≤ 12) ∧ (0 ≤ z.2.1 ∧ z.2.1 ≤ 9007199254740992) ∧ (1 ≤ z.2.2.1 ∧ z.2.2.1 ≤ 9007199254740992) ∧ (1 ≤ z.2.2.2 ∧ z.2.2.2 ≤ 9007199254740992)) (fun z => numsB [z.1, z.2.1, z.2.2.1, z.2.2.2]) :=
  ((nR_cd 12 (by decide)).pair ((mNumR_cd 0 (by decide)).pair ((mNumR_cd 1 (by decide)).pair (mNumR_cd 1 (by decide))))).as (fun z => Iff.rfl) (fun z h => by simp [numsB])
end Go.Proofs.YteaggenihhaajaaGreat

/- Messages: what is put is read, what is read was put (printed by gen_wd.py). No program here. -/
namespace Go.Proofs.YteaggenihhaajaaGreat
open Go.RowKit
set_option linter.unusedVariables false

/-- a message's body: all but its signature -/
structure MSh (k : Int) (m : MsgD) : Prop where
  kind : m.kind = k
  kindOk : kindE m = 0
  bare : m = bareF m
  sign : m.sign = zSign
theorem kindAt {m : MsgD} (h : kindE m = 0) : ∀ {k : Int}, m.kind = k → kindE { m with kind := k } = 0 := fun e => by
  have : ({ m with kind := m.kind } : MsgD) = m := by cases m; rfl
  rw [← e, this]
  exact h
theorem mBody2_cd : Cd (mBodyR 2) (MSh 2) tailB := by
  refine (vote4_cd.pair batchR_cd).map (ok' := MSh 2) (b' := tailB) (fun z => { zMsg with kind := 2, src := z.1.1, view := z.1.2.1, seq := z.1.2.2.1, digest := z.1.2.2.2, batch := z.2 }) (fun m => ((m.src, m.view, m.seq, m.digest), m.batch)) (fun z h => ⟨⟨rfl, ?_, rfl, rfl⟩, ?_⟩) (fun m h => ⟨?_, ?_⟩)
  · simp [kindE, voteE, orE_zero, numE_ok, posE_ok, brokE_ok]
    (try simp at h)
    first
    | exact h
    | omega
    | simp_all
    | (simp_all; omega)
  · simp [tailB, numsB]
  · have := kindAt h.kindOk h.kind
    simp [kindE, voteE, orE_zero, numE_ok, posE_ok, brokE_ok] at this
    (try simp)
    first
    | exact this
    | omega
    | simp_all
    | (simp_all; omega)
  · conv => rhs; rw [h.bare]
    simp only [bareF, h.kind, h.sign]
    rfl
theorem mBody3_cd : Cd (mBodyR 3) (MSh 3) tailB := by
  refine vote4_cd.map (ok' := MSh 3) (b' := tailB) (fun z => { zMsg with kind := 3, src := z.1, view := z.2.1, seq := z.2.2.1, digest := z.2.2.2 }) (fun m => (m.src, m.view, m.seq, m.digest)) (fun z h => ⟨⟨rfl, ?_, rfl, rfl⟩, ?_⟩) (fun m h => ⟨?_, ?_⟩)
  · simp [kindE, voteE, orE_zero, numE_ok, posE_ok, brokE_ok]
    (try simp at h)
    first
    | exact h
    | omega
    | simp_all
    | (simp_all; omega)
  · simp [tailB, numsB]
  · have := kindAt h.kindOk h.kind
    simp [kindE, voteE, orE_zero, numE_ok, posE_ok, brokE_ok] at this
    (try simp)
    first
    | exact this
    | omega
    | simp_all
    | (simp_all; omega)
  · conv => rhs; rw [h.bare]
    simp only [bareF, h.kind, h.sign]
    rfl
theorem mBody4_cd : Cd (mBodyR 4) (MSh 4) tailB := by
  refine vote4_cd.map (ok' := MSh 4) (b' := tailB) (fun z => { zMsg with kind := 4, src := z.1, view := z.2.1, seq := z.2.2.1, digest := z.2.2.2 }) (fun m => (m.src, m.view, m.seq, m.digest)) (fun z h => ⟨⟨rfl, ?_, rfl, rfl⟩, ?_⟩) (fun m h => ⟨?_, ?_⟩)
  · simp [kindE, voteE, orE_zero, numE_ok, posE_ok, brokE_ok]
    (try simp at h)
    first
    | exact h
    | omega
    | simp_all
    | (simp_all; omega)
  · simp [tailB, numsB]
  · have := kindAt h.kindOk h.kind
    simp [kindE, voteE, orE_zero, numE_ok, posE_ok, brokE_ok] at this
    (try simp)
    first
    | exact this
    | omega
    | simp_all
    | (simp_all; omega)
  · conv => rhs; rw [h.bare]
    simp only [bareF, h.kind, h.sign]
    rfl
theorem mBody5_cd : Cd (mBodyR 5) (MSh 5) tailB := by
  refine ((nR_cd 12 (by decide)).pair ((mNumR_cd 0 (by decide)).pair ((nR_cd 7 (by decide)).pair ((mNumR_cd 0 (by decide)).pair resultR_cd)))).map (ok' := MSh 5) (b' := tailB) (fun z => { zMsg with kind := 5, src := z.1, view := z.2.1, client := z.2.2.1, time := z.2.2.2.1, result := z.2.2.2.2 }) (fun m => (m.src, m.view, m.client, m.time, m.result)) (fun z h => ⟨⟨rfl, ?_, rfl, rfl⟩, ?_⟩) (fun m h => ⟨?_, ?_⟩)
  · simp [kindE, orE_zero, numE_ok, brokE_ok, rangeE_ok]
    (try simp at h)
    first
    | exact h
    | omega
    | simp_all
    | (simp_all; omega)
  · simp [tailB, numsB]
  · have := kindAt h.kindOk h.kind
    simp [kindE, orE_zero, numE_ok, brokE_ok, rangeE_ok] at this
    (try simp)
    first
    | exact this
    | omega
    | simp_all
    | (simp_all; omega)
  · conv => rhs; rw [h.bare]
    simp only [bareF, h.kind, h.sign]
    rfl
theorem mBody6_cd : Cd (mBodyR 6) (MSh 6) tailB := by
  refine ((nR_cd 12 (by decide)).pair ((mNumR_cd 1 (by decide)).pair (mNumR_cd 1 (by decide)))).map (ok' := MSh 6) (b' := tailB) (fun z => { zMsg with kind := 6, src := z.1, seq := z.2.1, digest := z.2.2 }) (fun m => (m.src, m.seq, m.digest)) (fun z h => ⟨⟨rfl, ?_, rfl, rfl⟩, ?_⟩) (fun m h => ⟨?_, ?_⟩)
  · simp [kindE, orE_zero, posE_ok, brokE_ok]
    (try simp at h)
    first
    | exact h
    | omega
    | simp_all
    | (simp_all; omega)
  · simp [tailB, numsB]
  · have := kindAt h.kindOk h.kind
    simp [kindE, orE_zero, posE_ok, brokE_ok] at this
    (try simp)
    first
    | exact this
    | omega
    | simp_all
    | (simp_all; omega)
  · conv => rhs; rw [h.bare]
    simp only [bareF, h.kind, h.sign]
    rfl
theorem mBody8_cd : Cd (mBodyR 8) (MSh 8) tailB := by
  refine ((nR_cd 12 (by decide)).pair ((mNumR_cd 1 (by decide)).pair ((listR_cd chgR_cd 13 (by decide)).pair (listR_cd entryR_cd 8 (by decide))))).map (ok' := MSh 8) (b' := tailB) (fun z => { zMsg with kind := 8, src := z.1, view := z.2.1, changes := z.2.2.1, entries := z.2.2.2 }) (fun m => (m.src, m.view, m.changes, m.entries)) (fun z h => ⟨⟨rfl, ?_, rfl, rfl⟩, ?_⟩) (fun m h => ⟨?_, ?_⟩)
  · simp [kindE, newE, orE_zero, posE_ok, brokE_ok, manyE_ok, listE_zero]
    (try simp at h)
    first
    | exact h
    | omega
    | simp_all
    | (simp_all; omega)
  · simp [tailB, numsB, putsB]
  · have := kindAt h.kindOk h.kind
    simp [kindE, newE, orE_zero, posE_ok, brokE_ok, manyE_ok, listE_zero] at this
    (try simp)
    first
    | exact this
    | omega
    | simp_all
    | (simp_all; omega)
  · conv => rhs; rw [h.bare]
    simp only [bareF, h.kind, h.sign]
    rfl
theorem mBody9_cd : Cd (mBodyR 9) (MSh 9) tailB := by
  refine ((nR_cd 12 (by decide)).pair (mNumR_cd 0 (by decide))).map (ok' := MSh 9) (b' := tailB) (fun z => { zMsg with kind := 9, src := z.1, seq := z.2 }) (fun m => (m.src, m.seq)) (fun z h => ⟨⟨rfl, ?_, rfl, rfl⟩, ?_⟩) (fun m h => ⟨?_, ?_⟩)
  · simp [kindE, orE_zero, numE_ok, brokE_ok]
    (try simp at h)
    first
    | exact h
    | omega
    | simp_all
    | (simp_all; omega)
  · simp [tailB, numsB]
  · have := kindAt h.kindOk h.kind
    simp [kindE, orE_zero, numE_ok, brokE_ok] at this
    (try simp)
    first
    | exact this
    | omega
    | simp_all
    | (simp_all; omega)
  · conv => rhs; rw [h.bare]
    simp only [bareF, h.kind, h.sign]
    rfl
theorem mBody10_cd : Cd (mBodyR 10) (MSh 10) tailB := by
  refine ((nR_cd 12 (by decide)).pair (certR_cd.pair (bytesR_cd 262144 (by decide)))).map (ok' := MSh 10) (b' := tailB) (fun z => { zMsg with kind := 10, src := z.1, cert := z.2.1, state := z.2.2 }) (fun m => (m.src, m.cert, m.state)) (fun z h => ⟨⟨rfl, ?_, rfl, rfl⟩, ?_⟩) (fun m h => ⟨?_, ?_⟩)
  · simp [kindE, orE_zero, brokE_ok, manyE_ok]
    (try simp at h)
    first
    | exact h
    | omega
    | simp_all
    | (simp_all; omega)
  · simp [tailB, numsB]
  · have := kindAt h.kindOk h.kind
    simp [kindE, orE_zero, brokE_ok, manyE_ok] at this
    (try simp)
    first
    | exact this
    | omega
    | simp_all
    | (simp_all; omega)
  · conv => rhs; rw [h.bare]
    simp only [bareF, h.kind, h.sign]
    rfl
theorem mBody11_cd : Cd (mBodyR 11) (MSh 11) tailB := by
  refine ((nR_cd 7 (by decide)).pair (nameR_cd.pair (mNumR_cd 0 (by decide)))).map (ok' := MSh 11) (b' := tailB) (fun z => { zMsg with kind := 11, client := z.1, topic := z.2.1, offset := z.2.2 }) (fun m => (m.client, m.topic, m.offset)) (fun z h => ⟨⟨rfl, ?_, rfl, rfl⟩, ?_⟩) (fun m h => ⟨?_, ?_⟩)
  · simp [kindE, orE_zero, numE_ok, rangeE_ok]
    (try simp at h)
    first
    | exact h
    | omega
    | simp_all
    | (simp_all; omega)
  · simp [tailB, numsB]
  · have := kindAt h.kindOk h.kind
    simp [kindE, orE_zero, numE_ok, rangeE_ok] at this
    (try simp)
    first
    | exact this
    | omega
    | simp_all
    | (simp_all; omega)
  · conv => rhs; rw [h.bare]
    simp only [bareF, h.kind, h.sign]
    rfl
theorem mBody12_cd : Cd (mBodyR 12) (MSh 12) tailB := by
  refine ((nR_cd 12 (by decide)).pair proofR_cd).map (ok' := MSh 12) (b' := tailB) (fun z => { zMsg with kind := 12, src := z.1, proof := z.2 }) (fun m => (m.src, m.proof)) (fun z h => ⟨⟨rfl, ?_, rfl, rfl⟩, ?_⟩) (fun m h => ⟨?_, ?_⟩)
  · simp [kindE, orE_zero, brokE_ok]
    (try simp at h)
    first
    | exact h
    | omega
    | simp_all
    | (simp_all; omega)
  · simp [tailB, numsB]
  · have := kindAt h.kindOk h.kind
    simp [kindE, orE_zero, brokE_ok] at this
    (try simp)
    first
    | exact this
    | omega
    | simp_all
    | (simp_all; omega)
  · conv => rhs; rw [h.bare]
    simp only [bareF, h.kind, h.sign]
    rfl
theorem mBody1_cd : Cd (mBodyR 1) (MSh 1) tailB := by
  refine (batchR_cd.guard fun l => if l.length = 1 then 0 else 100).map (ok' := MSh 1) (b' := tailB) (fun l => { zMsg with kind := 1, batch := l }) (fun m => m.batch) (fun l h => ⟨⟨rfl, ?_, rfl, rfl⟩, by simp [tailB]⟩) (fun m h => ⟨?_, ?_⟩)
  · obtain ⟨h1, h2⟩ := h
    have h2 : l.length = 1 := by
      by_cases e : l.length = 1
      · exact e
      · rw [if_neg e] at h2; cases h2
    simp [kindE, orE_zero, rangeE_ok, h2]
    exact h1
  · have := kindAt h.kindOk h.kind
    simp [kindE, orE_zero, rangeE_ok] at this
    exact ⟨this.2, if_pos (by omega)⟩
  · conv => rhs; rw [h.bare]
    simp only [bareF, h.kind, h.sign]
    rfl
theorem mBody7_cd : Cd (mBodyR 7) (fun m => MSh 7 m) (fun m => match m.changes with | c :: _ => chgB c | [] => []) := by
  refine chgR_cd.map (ok' := fun m => MSh 7 m) (b' := fun m => match m.changes with | c :: _ => chgB c | [] => []) (fun c => { zMsg with kind := 7, src := c.src, view := c.view, changes := [c] }) (fun m => match m.changes with | c :: _ => c | [] => zChg) (fun c h => ⟨⟨rfl, ?_, rfl, rfl⟩, rfl⟩) (fun m h => ?_)
  · simp [kindE, orE_zero, rangeE_ok, listE, viewE, h]
  · have := kindAt h.kindOk h.kind
    simp [kindE, orE_zero, rangeE_ok] at this
    obtain ⟨h1, h2⟩ := this
    obtain ⟨c, hc⟩ : ∃ c, m.changes = [c] := one_of (by omega)
    rw [hc] at h2
    simp [listE, viewE, orE_zero] at h2
    obtain ⟨h2, h3, h4⟩ := h2
    simp only [hc]
    refine ⟨h2, ?_⟩
    conv => rhs; rw [h.bare]
    simp only [bareF, h.kind, h.sign, hc, h3, h4]
    rfl
/-- a kind that no message has -/
theorem mBodyX_cd {k : Int} (hk : ¬ (1 ≤ k ∧ k ≤ 12)) : Cd (mBodyR k) (MSh k) tailB := by
  have e : mBodyR k = guardR (pureR { zMsg with kind := k }) fun _ => 100 := by
    unfold mBodyR
    rw [if_neg (by omega), if_neg (by omega), if_neg (by omega), if_neg (by omega), if_neg (by omega), if_neg (by omega), if_neg (by omega), if_neg (by omega), if_neg (by omega), if_neg (by omega), if_neg (by omega), if_neg (by omega)]
  rw [e]
  refine { toRd1 := (pureR_rd _).guard _, there := fun m r h => ?_, back := fun t h => ?_ }
  · have := kind_range h.kindOk
    rw [h.kind] at this
    exact absurd this hk
  · exact absurd h (by show ¬ (100 : Int) = 0; decide)
/-- a body's bytes: of a view change, all of the change -/
def mBodB (m : MsgD) : List UInt8 := if m.kind = 7 then (match m.changes with | c :: _ => chgB c | [] => []) else tailB m
theorem mBodyR_cd (k : Int) : Cd (mBodyR k) (MSh k) mBodB := by
  have q : ∀ {k : Int}, ¬ k = 7 → Cd (mBodyR k) (MSh k) tailB → Cd (mBodyR k) (MSh k) mBodB := fun h7 h => h.as (fun _ => Iff.rfl) (fun m hm => by unfold mBodB; rw [if_neg (by rw [hm.kind]; exact h7)])
  by_cases hk : 1 ≤ k ∧ k ≤ 12
  · have : k = 1 ∨ k = 2 ∨ k = 3 ∨ k = 4 ∨ k = 5 ∨ k = 6 ∨ k = 7 ∨ k = 8 ∨ k = 9 ∨ k = 10 ∨ k = 11 ∨ k = 12 := by omega
    rcases this with rfl | rfl | rfl | rfl | rfl | rfl | rfl | rfl | rfl | rfl | rfl | rfl
    · exact q (by decide) mBody1_cd
    · exact q (by decide) mBody2_cd
    · exact q (by decide) mBody3_cd
    · exact q (by decide) mBody4_cd
    · exact q (by decide) mBody5_cd
    · exact q (by decide) mBody6_cd
    · exact mBody7_cd.as (fun _ => Iff.rfl) (fun m hm => by unfold mBodB; rw [if_pos hm.kind])
    · exact q (by decide) mBody8_cd
    · exact q (by decide) mBody9_cd
    · exact q (by decide) mBody10_cd
    · exact q (by decide) mBody11_cd
    · exact q (by decide) mBody12_cd
  · exact q (by omega) (mBodyX_cd hk)
theorem ownSR_cd (k : Int) : Cd (ownSR k) (fun s => if signedK k = true then signE s = 0 else s = zSign) (fun s => if signedK k = true then signP s else []) := by
  unfold ownSR
  cases h : signedK k
  · simp only [Bool.false_eq_true, if_false]
    exact pureR_cd _
  · simp only [if_true]
    exact signR_cd
theorem ite_same {α β : Type} {c : Prop} {_ : Decidable c} {f : α → β} {a b : α} {a' b' : β} (h : a' = f a) (k : b' = f b) : (if c then a' else b') = f (if c then a else b) := by split <;> assumption
def reSign (t : SignD) (x : MsgD) : MsgD := { x with sign := t }
theorem bareSg {m : MsgD} (h : m = bareF m) (s : SignD) (hs : signedK m.kind = false → s = zSign) : { m with sign := s } = bareF { m with sign := s } := by
  have e : bareF { m with sign := s } = reSign (if signedK m.kind = true then s else zSign) (bareF m) := by
    generalize ht : (if signedK m.kind = true then s else zSign) = t
    unfold bareF
    dsimp only
    rw [ht]
    iterate 11 refine ite_same (f := reSign t) rfl ?_
    rfl
  rw [e]
  have hz : (if signedK m.kind = true then s else zSign) = s := by
    cases hk : signedK m.kind
    · simp [hs hk]
    · simp
  show _ = { bareF m with sign := if signedK m.kind = true then s else zSign }
  rw [hz, ← h]
theorem sign_id (m : MsgD) : { m with sign := m.sign } = m := by cases m; rfl
/-- a message is read as it was, and what is read has those bytes -/
theorem msgR_cd : Cd msgR (fun m => checkE m = 0) fullB := by
  have h := (nR_cd MX (by decide)).bind (q := fun k => pairR (mBodyR k) (ownSR k)) (fun k => (mBodyR_rd k).pair (ownSR_rd k)) (fun k _ => (mBodyR_cd k).pair (ownSR_cd k))
  refine h.map (ok' := fun m => checkE m = 0) (b' := fullB) (fun z => { z.2.1 with sign := z.2.2 }) (fun m => (m.kind, ({ m with sign := zSign }, m.sign))) (fun z hz => ?_) (fun m hm => ?_)
  · obtain ⟨k, m, s⟩ := z
    obtain ⟨hk, hm, hs⟩ := hz
    have hm : MSh k m := hm
    have hs : (if signedK k = true then signE s = 0 else s = zSign) := hs
    have hkind := hm.kind
    have hns : signedK m.kind = false → s = zSign := fun e => by rw [hkind] at e; rw [e] at hs; simpa using hs
    have hb := bareSg hm.bare s hns
    have hkE : kindE { m with sign := s } = 0 := hm.kindOk
    refine ⟨?_, ?_⟩
    · show checkE { m with sign := s } = 0
      have hE : msgE { m with sign := s } = 0 := by
        unfold msgE
        rw [orE_zero]
        refine ⟨hkE, ?_⟩
        show (if signedK m.kind = true then signE s else 0) = 0
        rw [hkind]
        cases e : signedK k
        · simp
        · rw [e] at hs; simpa using hs
      unfold checkE
      rw [if_neg (fun q => q.2 hb)]
      exact hE
    · show fullB { m with sign := s } = encI k ++ (mBodB m ++ if signedK k = true then signP s else [])
      unfold fullB unsB mBodB
      show encI m.kind ++ tailB m ++ (if m.kind = 7 then (match m.changes with | c :: _ => signP c.sign | [] => []) else if signedK m.kind = true then signP s else []) = _
      rw [hkind]
      by_cases h7 : k = 7
      · rw [if_pos h7, if_pos h7]
        have hk7 : m.kind = 7 := by rw [hkind, h7]
        have n7 : signedK k = false := by rw [h7]; rfl
        rw [n7]
        unfold tailB
        rw [hk7]
        cases hc : m.changes with
        | nil => simp
        | cons c r => simp [chgB]
      · rw [if_neg h7, if_neg h7, List.append_assoc]
  · obtain ⟨h1, h2⟩ := checkE_ok hm
    unfold msgE at h1
    rw [orE_zero] at h1
    obtain ⟨h3, h4⟩ := h1
    have hr := kind_range h3
    have hsz := bareF_sign m
    refine ⟨⟨⟨by show 0 ≤ m.kind; omega, by show m.kind ≤ ((MX : Nat) : Int); rw [MX_int]; omega⟩, ⟨rfl, h3, bareSg h2 zSign (fun _ => rfl), rfl⟩, ?_⟩, sign_id m⟩
    show if signedK m.kind = true then signE m.sign = 0 else m.sign = zSign
    cases e : signedK m.kind
    · rw [← h2, e] at hsz
      simpa using hsz
    · rw [e] at h4
      simpa using h4
end Go.Proofs.YteaggenihhaajaaGreat

/- A core: what is put is read, what is read was put. No program here. -/
namespace Go.Proofs.YteaggenihhaajaaGreat
open Go.RowKit
set_option linter.unusedVariables false

theorem takeR_cd (n : Nat) : Cd (takeR (n : Int)) (fun x => x.length = n) (fun x => x) where
  toRd1 := takeR_rd _
  there := fun x r h => by rw [← h]; exact takeR_put x r
  back := fun t e => by
    obtain ⟨h1, h2⟩ := takeR_back e
    exact ⟨h2, h1⟩
def hd0R : RS → (List UInt8 × Int × Int × Int × Int × Int) × RS := pairR (takeR ((1 : Nat) : Int)) (pairR (nR MX) (pairR (nR MX) (pairR (nR MX) (pairR (nR MX) (nR MX)))))
theorem nX_cd : Cd (nR MX) nOk encI := nR_cd MX (by decide)
theorem hd0_cd : Cd hd0R (fun z => z.1.length = 1 ∧ nOk z.2.1 ∧ nOk z.2.2.1 ∧ nOk z.2.2.2.1 ∧ nOk z.2.2.2.2.1 ∧ nOk z.2.2.2.2.2) (fun z => z.1 ++ (encI z.2.1 ++ (encI z.2.2.1 ++ (encI z.2.2.2.1 ++ (encI z.2.2.2.2.1 ++ encI z.2.2.2.2.2))))) :=
  (takeR_cd 1).pair (nX_cd.pair (nX_cd.pair (nX_cd.pair (nX_cd.pair nX_cd))))
theorem hdR_eq (b : List UInt8) : hdR b = if doneR (hd0R (b, 0)).2 = 0 ∧ (hd0R (b, 0)).1.1 = [3] then (⟨(hd0R (b, 0)).1.2.1, (hd0R (b, 0)).1.2.2.1, (hd0R (b, 0)).1.2.2.2.1, (hd0R (b, 0)).1.2.2.2.2.1, (hd0R (b, 0)).1.2.2.2.2.2⟩, 0) else (zHd, 90) := rfl
theorem hdrB_eq (h : HeaderD) : hdrB h = [3] ++ (encI h.seq ++ (encI h.prev ++ (encI h.batch ++ (encI h.root ++ encI h.state)))) := by simp [hdrB, numsB]
theorem hdR_pc : Pc hdR hdrOk hdrB where
  there := fun h hh => by
    have e := hd0_cd.there ([3], h.seq, h.prev, h.batch, h.root, h.state) [] ⟨rfl, hh⟩
    rw [List.append_nil] at e
    rw [hdR_eq, hdrB_eq, e, if_pos ⟨rfl, rfl⟩]
  back := fun t e => by
    rw [hdR_eq] at e ⊢
    split at e
    · rename_i hd
      rw [if_pos hd]
      have hs := doneR_zero hd.1
      obtain ⟨h1, h2⟩ := hd0_cd.back t (by rw [hs])
      rw [hs, hd.2, List.append_nil] at h2
      exact ⟨h1.2, by rw [hdrB_eq]; exact h2⟩
    · cases e
theorem tHdR_cd : Cd tHdR hdrOk (fun h => byF (hdrB h)) := withinR_cd hdR_pc fun h hh => by have := hdrB_len hh; omega
theorem tCertR_cd : Cd tCertR kCertOk kCertB := withinR_cd (parseR_pc certR_cd) fun c h => by have := h.2; omega
theorem tChgR_cd : Cd tChgR kChgOk kChgB := withinR_cd (parseR_pc chgR_cd) fun c h => by have := h.2; omega
theorem tMsgR_cd : Cd tMsgR kMsgOk kMsgB := withinR_cd (parseR_pc msgR_cd) fun c h => by have := h.2; omega
def placedOk' (p : PlacedD) : Prop := placedOk p ∧ p.topic.length ≤ 4194304 ∧ p.record.length ≤ 4194304
theorem placedR_cd : Cd placedR placedOk' placedB :=
  ((bytesR_cd 4194304 (by decide)).pair (nX_cd.pair (bytesR_cd 4194304 (by decide)))).map (ok' := placedOk') (b' := placedB) (fun z => ⟨z.1, z.2.1, z.2.2⟩) (fun p => (p.topic, p.offset, p.record)) (fun z h => ⟨⟨h.2.1, h.1, h.2.2⟩, by simp [placedB, numsB]⟩) (fun p h => ⟨⟨h.2.1, h.1, h.2.2⟩, rfl⟩)
def blockOk' (x : BlockD) : Prop := hdrOk x.header ∧ batchE x.batch = 0 ∧ putsOk placedOk' x.placed
theorem blockR_cd : Cd blockR blockOk' blockB :=
  (tHdR_cd.pair (batchR_cd.pair (takesR_cd placedR_cd))).map (ok' := blockOk') (b' := blockB) (fun z => ⟨z.1, z.2.1, z.2.2⟩) (fun x => (x.header, x.batch, x.placed)) (fun z h => ⟨h, by simp [blockB]⟩) (fun x h => ⟨h, rfl⟩)
theorem voteR_cd : Cd voteR kVoteOk kVoteB :=
  (nX_cd.pair (nX_cd.pair signR_cd)).map (ok' := kVoteOk) (b' := kVoteB) (fun z => ⟨z.1, z.2.1, z.2.2⟩) (fun x => (x.seq, x.digest, x.sign)) (fun z h => ⟨h, by simp [kVoteB, numsB]⟩) (fun x h => ⟨h, rfl⟩)
def markOk' (m : MarkD) : Prop := hdrOk m.header ∧ m.topics.length ≤ 4194304
theorem markR_cd : Cd markR markOk' markB := by
  rw [markR_eq]
  exact (tHdR_cd.pair (bytesR_cd 4194304 (by decide))).map (ok' := markOk') (b' := markB) (fun z => ⟨z.1, z.2⟩) (fun x => (x.header, x.topics)) (fun z h => ⟨h, rfl⟩) (fun x h => ⟨h, rfl⟩)
theorem voteOfR_cd : Cd voteOfR voteOfOk voteOfB :=
  (nX_cd.pair signR_cd).map (ok' := voteOfOk) (b' := voteOfB) (fun z => ⟨z.1, z.2⟩) (fun x => (x.digest, x.sign)) (fun z h => ⟨h, by simp [voteOfB, numsB]⟩) (fun x h => ⟨h, rfl⟩)
theorem flagR_cd : Cd flagR (fun _ => True) flagB := by
  refine (nR_cd 1 (by decide)).map (ok' := fun _ : Bool => True) (b' := flagB) (fun n => n == 1) (fun b => if b then 1 else 0) (fun n ⟨h0, h1⟩ => ⟨trivial, ?_⟩) (fun b _ => ?_)
  · have h1 : n ≤ 1 := h1
    have : n = 0 ∨ n = 1 := by omega
    rcases this with rfl | rfl <;> rfl
  · cases b <;> exact ⟨⟨by decide, by decide⟩, rfl⟩
theorem midR_cd (h : Bool) : Cd (midR h) (fun z => (h = true → signE z.1 = 0 ∧ batchE z.2 = 0) ∧ (h = false → z.1 = zSign ∧ z.2 = [])) (fun z => if h then signP z.1 ++ batchP z.2 else []) := by
  unfold midR
  cases h
  · simp only [Bool.false_eq_true, if_false]
    refine (pureR_cd _).as (fun z => ?_) (fun _ _ => rfl)
    obtain ⟨a, b⟩ := z
    simp
  · simp only [if_true]
    exact (signR_cd.pair batchR_cd).as (fun z => by simp) (fun _ _ => rfl)
theorem slotR_cd : Cd slotR slotOk slotB := by
  have h1 := nX_cd.pair (flagR_cd.pair nX_cd)
  have k : ∀ z : Int × Bool × Int, Rd1 (pairR (midR z.2.1) (pairR (takesR voteOfR) (takesR voteOfR))) := fun z => (midR_rd _).pair ((takesR_rd voteOfR_rd).pair (takesR_rd voteOfR_rd))
  have h2 := h1.bind k (fun z _ => (midR_cd z.2.1).pair ((takesR_cd voteOfR_cd).pair (takesR_cd voteOfR_cd)))
  refine h2.map (ok' := slotOk) (b' := slotB) (fun z => ⟨z.1.1, z.1.2.1, z.1.2.2, z.2.1.1, z.2.1.2, z.2.2.1, z.2.2.2⟩) (fun s => ((s.seq, s.has, s.digest), (s.firstS, s.batch), s.prepares, s.commits)) (fun z h => ⟨?_, ?_⟩) (fun s h => ⟨?_, rfl⟩)
  · obtain ⟨⟨a1, _, a2⟩, ⟨a3, a4⟩, a5, a6⟩ := h
    exact ⟨a1, a2, a3, a4, a5, a6⟩
  · simp [slotB, numsB]
  · obtain ⟨a1, a2, a3, a4, a5, a6⟩ := h
    exact ⟨⟨a1, trivial, a2⟩, ⟨a3, a4⟩, a5, a6⟩
theorem heldR_cd : Cd heldR kPrepOk kPrepB :=
  (nX_cd.pair (nX_cd.pair (nX_cd.pair (signR_cd.pair ((takesR_cd signR_cd).pair batchR_cd))))).map (ok' := kPrepOk) (b' := kPrepB) (fun z => ⟨z.1, z.2.1, z.2.2.1, z.2.2.2.1, z.2.2.2.2.1, z.2.2.2.2.2⟩) (fun p => (p.view, p.seq, p.digest, p.firstS, p.signs, p.batch)) (fun z h => ⟨h, by simp [kPrepB, numsB]⟩) (fun p h => ⟨h, rfl⟩)
theorem waitR_cd : Cd waitR waitOk waitB := by
  refine (batchR_cd.guard fun l => if l.length = 1 then 0 else 200).map (ok' := waitOk) (b' := waitB) onlyR (fun x => [x]) (fun l h => ?_) (fun x h => ⟨⟨h, rfl⟩, rfl⟩)
  obtain ⟨h1, h2⟩ := h
  have h2 : l.length = 1 := by
    by_cases e : l.length = 1
    · exact e
    · rw [if_neg e] at h2; cases h2
  obtain ⟨c, rfl⟩ := one_of h2
  exact ⟨h1, rfl⟩
structure coreOk' (c : CoreD) : Prop where
  ok : coreOk c
  blocks : ∀ x ∈ c.blocks, ∀ p ∈ x.placed, p.topic.length ≤ 4194304 ∧ p.record.length ≤ 4194304
  topics : c.topics.length ≤ 4194304
  marks : ∀ m ∈ c.marks, m.topics.length ≤ 4194304
set_option maxRecDepth 4000 in
theorem coreR_cd : Cd coreR coreOk' coreB := by
  have h1 : Cd coreR1 _ _ := nX_cd.pair (flagR_cd.pair (nX_cd.pair (nX_cd.pair (tHdR_cd.pair ((takesR_cd blockR_cd).pair (bytesR_cd 4194304 (by decide)))))))
  have h2 : Cd coreR2 _ _ := tCertR_cd.pair ((takesR_cd voteR_cd).pair ((takesR_cd tCertR_cd).pair ((takesR_cd tCertR_cd).pair ((takesR_cd markR_cd).pair ((takesR_cd slotR_cd).pair (takesR_cd heldR_cd))))))
  have h3 : Cd coreR3 _ _ := (takesR_cd tChgR_cd).pair ((takesR_cd waitR_cd).pair (nX_cd.pair (nX_cd.pair ((takesR_cd tMsgR_cd).pair nX_cd))))
  have h := h1.pair (h2.pair h3)
  refine h.map (ok' := coreOk') (b' := coreB) (fun z => { view := z.1.1, active := z.1.2.1, ticks := z.1.2.2.1, floor := z.1.2.2.2.1, base := z.1.2.2.2.2.1, blocks := z.1.2.2.2.2.2.1, topics := z.1.2.2.2.2.2.2, points := ⟨z.2.1.1, z.2.1.2.1, z.2.1.2.2.1⟩, certs := z.2.1.2.2.2.1, marks := z.2.1.2.2.2.2.1, slots := z.2.1.2.2.2.2.2.1, held := z.2.1.2.2.2.2.2.2, changes := z.2.2.1, pool := ⟨z.2.2.2.1⟩, timer := ⟨z.2.2.2.2.1, z.2.2.2.2.2.1⟩, news := z.2.2.2.2.2.2.1, wants := z.2.2.2.2.2.2.2 })
    (fun c => ((c.view, c.active, c.ticks, c.floor, c.base, c.blocks, c.topics), ((c.points.stable, c.points.votes, c.points.certs, c.certs, c.marks, c.slots, c.held), (c.changes, c.pool.waiting, c.timer.length, c.timer.left, c.news, c.wants)))) (fun z h => ⟨?_, ?_⟩) (fun c h => ⟨?_, rfl⟩)
  · obtain ⟨⟨a1, _, a2, a3, a4, a5, a6⟩, ⟨b1, b2, b3, b4, b5, b6, b7⟩, c1, c2, c3, c4, c5, c6⟩ := h
    exact ⟨⟨a1, a2, a3, a4, ⟨a5.1, fun x hx => ⟨(a5.2 x hx).1, (a5.2 x hx).2.1, (a5.2 x hx).2.2.1, fun p hp => ((a5.2 x hx).2.2.2 p hp).1⟩⟩, b1, b2, b3, b4, ⟨b5.1, fun m hm => (b5.2 m hm).1⟩, b6, b7, c1, c2, c3, c4, c5, c6⟩,
      fun x hx p hp => ((a5.2 x hx).2.2.2 p hp).2, a6, fun m hm => (b5.2 m hm).2⟩
  · simp only [coreB, numsB, List.append_assoc, List.flatMap_cons, List.flatMap_nil, List.append_nil]
  · obtain ⟨⟨a1, a2, a3, a4, a5, b1, b2, b3, b4, b5, b6, b7, c1, c2, c3, c4, c5, c6⟩, d1, d2, d3⟩ := h
    exact ⟨⟨a1, trivial, a2, a3, a4, ⟨a5.1, fun x hx => ⟨(a5.2 x hx).1, (a5.2 x hx).2.1, (a5.2 x hx).2.2.1, fun p hp => ⟨(a5.2 x hx).2.2.2 p hp, d1 x hx p hp⟩⟩⟩, d2⟩, ⟨b1, b2, b3, b4, ⟨b5.1, fun m hm => ⟨b5.2 m hm, d3 m hm⟩⟩, b6, b7⟩, c1, c2, c3, c4, c5, c6⟩
/-- bytes as a whole core -/
def zCore : CoreD := { view := 0, active := false, ticks := 0, floor := 0, base := zHd, blocks := [], topics := [], points := ⟨zCert, [], []⟩, certs := [], marks := [], slots := [], held := [], changes := [], pool := ⟨[]⟩, timer := ⟨0, 0⟩, news := [], wants := 0 }
/-- state.Parse -/
def coreP (b : List UInt8) : CoreD × Int :=
  if 4194304 < b.length then (zCore, 3) else if doneR (coreR (b, 0)).2 = 0 then ((coreR (b, 0)).1, 0) else (zCore, if doneR (coreR (b, 0)).2 = 10 ∨ doneR (coreR (b, 0)).2 = 11 ∨ doneR (coreR (b, 0)).2 = 12 then doneR (coreR (b, 0)).2 else 200)
theorem coreP_there {c : CoreD} (h : coreOk' c) (hl : (coreB c).length ≤ 4194304) : coreP (coreB c) = (c, 0) := by
  have e := coreR_cd.there c [] h
  rw [List.append_nil] at e
  unfold coreP
  rw [if_neg (by omega), e]
  rfl
theorem coreP_back {b : List UInt8} (h : (coreP b).2 = 0) : coreOk' (coreP b).1 ∧ b = coreB (coreP b).1 ∧ b.length ≤ 4194304 := by
  unfold coreP at h ⊢
  split at h
  · cases h
  · rename_i hl
    rw [if_neg hl]
    split at h
    · rename_i hd
      rw [if_pos hd]
      have hs := doneR_zero hd
      obtain ⟨h1, h2⟩ := coreR_cd.back b (by rw [hs])
      rw [hs, List.append_nil] at h2
      exact ⟨h1, h2, by omega⟩
    · rename_i hd
      exfalso
      generalize doneR (coreR (b, 0)).2 = d at h hd
      dsimp only at h
      split at h
      · exact hd h
      · cases h
end Go.Proofs.YteaggenihhaajaaGreat

/- What may be written is in range: every part of it is a datum of its type. No program here. -/
namespace Go.Proofs.YteaggenihhaajaaGreat
open Go.RowKit
set_option linter.unusedVariables false

theorem i_of {n a b : Int} (h : a ≤ n ∧ n ≤ b) (ha : -9223372036854775808 ≤ a) (hb : b ≤ 9223372036854775807) : dI.ok n := ⟨Int.le_trans ha h.1, Int.le_trans h.2 hb⟩
theorem nOk_d {n : Int} (h : nOk n) : dI.ok n := i_of h (by decide) (by decide)
theorem l_of {α : Type} {A : Dt α} {l : List α} {m : Nat} (h : l.length ≤ m) (hm : m ≤ 4194304) (k : ∀ x ∈ l, A.ok x) : (dL A).ok l := ⟨Nat.le_trans h hm, k⟩
theorem opSh_d {k : Int} {o : OpD} (h : OpSh k o) (hk : 0 ≤ k ∧ k ≤ 4) : dOp.ok o :=
  ⟨show dI.ok o.kind by rw [h.kind]; exact i_of hk (by decide) (by decide), Nat.le_trans h.topic (by decide), Nat.le_trans h.group (by decide), i_of h.off (by decide) (by decide), l_of h.recs.1 (by decide) fun r hr => Nat.le_trans (h.recs.2 r hr) (by decide)⟩
theorem op_d {o : OpD} (h : opE o = 0) : dOp.ok o := opSh_d (opE_sh h) (opE_ok h).1
theorem sign_d {s : SignD} (h : signE s = 0) : dSign.ok s := by
  obtain ⟨h1, h2, h3, h4⟩ := signE_ok.1 h
  exact ⟨show dI.ok s.key from i_of (b := 20) ⟨h1, by omega⟩ (by decide) (by decide), i_of ⟨h3, h4⟩ (by decide) (by decide)⟩
theorem req_d {x : RequestD} (h : reqE x = 0) : dRequest.ok x := by
  obtain ⟨h1, h2, h3⟩ := reqE_ok h
  exact ⟨show dI.ok x.client from i_of (b := 7) ⟨h1.1, by omega⟩ (by decide) (by decide), i_of h2 (by decide) (by decide), op_d h3⟩
theorem batch_d {l : List SignedD} (h : batchE l = 0) : (dL dSigned).ok l := by
  obtain ⟨h1, h2⟩ := batchE_ok h
  exact l_of h1 (by decide) fun s hs => ⟨req_d (h2 s hs).1, sign_d (h2 s hs).2⟩
theorem signs_d {l : List SignD} (h : signsE l = 0) : (dL dSign).ok l := by
  unfold signsE at h
  rw [orE_zero, manyE_ok, listE_zero] at h
  exact l_of (m := 13) (by omega) (by decide) fun s hs => sign_d (h.2 s hs)
theorem cert_d {c : CertD} (h : certE c = 0) : dCert.ok c := by
  obtain ⟨h1, h2, h3⟩ := certE_ok h
  exact ⟨i_of h1 (by decide) (by decide), i_of h2 (by decide) (by decide), signs_d h3⟩
theorem prep_d {p : PreparedD} (h : prepE p = 0) : dPrepared.ok p := by
  unfold prepE at h
  simp only [orE_zero, numE_ok, posE_ok] at h
  obtain ⟨h1, h2, h3, h4, h5, h6⟩ := h
  exact ⟨i_of h1 (by decide) (by decide), i_of h2 (by decide) (by decide), i_of h3 (by decide) (by decide), sign_d h4, signs_d h5, batch_d h6⟩
theorem chg_d {c : ChangeD} (h : chgE c = 0) : dChange.ok c := by
  obtain ⟨h1, h2, h3, h4, h5, h6⟩ := chgE_ok h
  exact ⟨i_of h1 (by decide) (by decide), i_of h2 (by decide) (by decide), cert_d h3, l_of h4 (by decide) fun p hp => prep_d (h5 p hp), sign_d h6⟩
theorem entry_d {x : EntryD} (h : entryE x = 0) : dEntry.ok x := by
  unfold entryE at h
  simp only [orE_zero, numE_ok, posE_ok] at h
  obtain ⟨h1, h2, h3, h4⟩ := h
  exact ⟨i_of h1 (by decide) (by decide), i_of h2 (by decide) (by decide), batch_d h3, sign_d h4⟩
theorem head_d {h : HeaderD} (e : headE h = 0) : dHeader.ok h := by
  unfold headE at e
  simp only [orE_zero, numE_ok, posE_ok] at e
  obtain ⟨h1, h2, h3, h4, h5⟩ := e
  exact ⟨i_of h1 (by decide) (by decide), i_of h2 (by decide) (by decide), i_of h3 (by decide) (by decide), i_of h4 (by decide) (by decide), i_of h5 (by decide) (by decide)⟩
theorem hdr_d {h : HeaderD} (e : hdrOk h) : dHeader.ok h := ⟨nOk_d e.1, nOk_d e.2.1, nOk_d e.2.2.1, nOk_d e.2.2.2.1, nOk_d e.2.2.2.2⟩
theorem proof_d {p : ProofD} (h : proofE p = 0) : dProof.ok p := by
  unfold proofE at h
  simp only [orE_zero, numE_ok, manyE_ok, listE_zero, rangeE_ok] at h
  obtain ⟨h1, h2, h3, h4, h5, h6, h7, h8, h9, h10, h11⟩ := h
  exact ⟨Nat.le_trans (nameE0 h1) (by decide), i_of h2 (by decide) (by decide), show p.record.length ≤ 4194304 by omega, (show (dL dHeader).ok p.headers from l_of (m := 64) (by omega) (by decide) fun x hx => head_d (h5 x hx)), i_of h6 (by decide) (by decide), i_of h7 (by decide) (by decide), (show (dL dI).ok p.path from l_of (m := 8) (by omega) (by decide) fun x hx => i_of (h10 x hx) (by decide) (by decide)), cert_d h11⟩
theorem lz_d {α : Type} {A : Dt α} : (dL A).ok [] := ⟨Nat.zero_le _, fun x hx => (List.not_mem_nil hx).elim⟩
theorem iz_d : dI.ok 0 := ⟨by decide, by decide⟩
theorem zsign_d : dSign.ok zSign := ⟨iz_d, iz_d⟩
theorem zcert_d : dCert.ok zCert := ⟨iz_d, iz_d, lz_d⟩
theorem zproof_d : dProof.ok zProof := ⟨Nat.zero_le _, iz_d, Nat.zero_le _, lz_d, iz_d, iz_d, lz_d, zcert_d⟩
theorem zres_d : dResult.ok zResult := ⟨iz_d, iz_d⟩
theorem msg_d {m : MsgD} (h : checkE m = 0) : dMsg.ok m := by
  obtain ⟨h1, h2⟩ := checkE_ok h
  unfold msgE at h1
  rw [orE_zero] at h1
  obtain ⟨h3, h4⟩ := h1
  have hr := kind_range h3
  have hk : dI.ok m.kind := i_of hr (by decide) (by decide)
  have hs : dSign.ok m.sign := by
    cases e : signedK m.kind
    · have := bareF_sign m
      rw [e, ← h2] at this
      rw [show m.sign = zSign by simpa using this]
      exact zsign_d
    · rw [if_pos e] at h4
      exact sign_d h4
  have kk := fun k => @kindAt m h3 k
  have hk' : m.kind = 1 ∨ m.kind = 2 ∨ m.kind = 3 ∨ m.kind = 4 ∨ m.kind = 5 ∨ m.kind = 6 ∨ m.kind = 7 ∨ m.kind = 8 ∨ m.kind = 9 ∨ m.kind = 10 ∨ m.kind = 11 ∨ m.kind = 12 := by omega
  have b12 : ∀ {n : Int}, 0 ≤ n ∧ n ≤ 12 → dI.ok n := fun h => i_of h (by decide) (by decide)
  have b7 : ∀ {n : Int}, 0 ≤ n ∧ n ≤ 7 → dI.ok n := fun h => i_of h (by decide) (by decide)
  have bn : ∀ {n : Int}, 0 ≤ n ∧ n ≤ 9007199254740992 → dI.ok n := fun h => i_of h (by decide) (by decide)
  have bp : ∀ {n : Int}, 1 ≤ n ∧ n ≤ 9007199254740992 → dI.ok n := fun h => i_of h (by decide) (by decide)
  rcases hk' with k | k | k | k | k | k | k | k | k | k | k | k
  all_goals
    have g := kk _ k
    simp [kindE, voteE, newE, orE_zero, numE_ok, posE_ok, brokE_ok, rangeE_ok, manyE_ok, listE_zero] at g
    have e : ∀ (P : MsgD → Prop), P (bareF m) → P m := fun P hP => by rw [h2]; exact hP
  · skip
    exact ⟨hk, (e (fun m => dI.ok m.src) (by unfold bareF; rw [k]; exact iz_d)), (e (fun m => dI.ok m.view) (by unfold bareF; rw [k]; exact iz_d)), (e (fun m => dI.ok m.seq) (by unfold bareF; rw [k]; exact iz_d)), (e (fun m => dI.ok m.digest) (by unfold bareF; rw [k]; exact iz_d)), (e (fun m => dI.ok m.client) (by unfold bareF; rw [k]; exact iz_d)), (e (fun m => dI.ok m.time) (by unfold bareF; rw [k]; exact iz_d)), (e (fun m => dResult.ok m.result) (by unfold bareF; rw [k]; exact zres_d)), batch_d g.2, (e (fun m => dCert.ok m.cert) (by unfold bareF; rw [k]; exact zcert_d)), (e (fun m => (dL dChange).ok m.changes) (by unfold bareF; rw [k]; exact lz_d)), (e (fun m => (dL dEntry).ok m.entries) (by unfold bareF; rw [k]; exact lz_d)), (e (fun m => dY.ok m.state) (by unfold bareF; rw [k]; exact Nat.zero_le _)), (e (fun m => dS.ok m.topic) (by unfold bareF; rw [k]; exact Nat.zero_le _)), (e (fun m => dI.ok m.offset) (by unfold bareF; rw [k]; exact iz_d)), (e (fun m => dProof.ok m.proof) (by unfold bareF; rw [k]; exact zproof_d)), hs⟩
  · skip
    exact ⟨hk, b12 g.1.1, bn g.1.2.1, bp g.1.2.2.1, bp g.1.2.2.2, (e (fun m => dI.ok m.client) (by unfold bareF; rw [k]; exact iz_d)), (e (fun m => dI.ok m.time) (by unfold bareF; rw [k]; exact iz_d)), (e (fun m => dResult.ok m.result) (by unfold bareF; rw [k]; exact zres_d)), batch_d g.2, (e (fun m => dCert.ok m.cert) (by unfold bareF; rw [k]; exact zcert_d)), (e (fun m => (dL dChange).ok m.changes) (by unfold bareF; rw [k]; exact lz_d)), (e (fun m => (dL dEntry).ok m.entries) (by unfold bareF; rw [k]; exact lz_d)), (e (fun m => dY.ok m.state) (by unfold bareF; rw [k]; exact Nat.zero_le _)), (e (fun m => dS.ok m.topic) (by unfold bareF; rw [k]; exact Nat.zero_le _)), (e (fun m => dI.ok m.offset) (by unfold bareF; rw [k]; exact iz_d)), (e (fun m => dProof.ok m.proof) (by unfold bareF; rw [k]; exact zproof_d)), hs⟩
  · skip
    exact ⟨hk, b12 g.1, bn g.2.1, bp g.2.2.1, bp g.2.2.2, (e (fun m => dI.ok m.client) (by unfold bareF; rw [k]; exact iz_d)), (e (fun m => dI.ok m.time) (by unfold bareF; rw [k]; exact iz_d)), (e (fun m => dResult.ok m.result) (by unfold bareF; rw [k]; exact zres_d)), (e (fun m => (dL dSigned).ok m.batch) (by unfold bareF; rw [k]; exact lz_d)), (e (fun m => dCert.ok m.cert) (by unfold bareF; rw [k]; exact zcert_d)), (e (fun m => (dL dChange).ok m.changes) (by unfold bareF; rw [k]; exact lz_d)), (e (fun m => (dL dEntry).ok m.entries) (by unfold bareF; rw [k]; exact lz_d)), (e (fun m => dY.ok m.state) (by unfold bareF; rw [k]; exact Nat.zero_le _)), (e (fun m => dS.ok m.topic) (by unfold bareF; rw [k]; exact Nat.zero_le _)), (e (fun m => dI.ok m.offset) (by unfold bareF; rw [k]; exact iz_d)), (e (fun m => dProof.ok m.proof) (by unfold bareF; rw [k]; exact zproof_d)), hs⟩
  · skip
    exact ⟨hk, b12 g.1, bn g.2.1, bp g.2.2.1, bp g.2.2.2, (e (fun m => dI.ok m.client) (by unfold bareF; rw [k]; exact iz_d)), (e (fun m => dI.ok m.time) (by unfold bareF; rw [k]; exact iz_d)), (e (fun m => dResult.ok m.result) (by unfold bareF; rw [k]; exact zres_d)), (e (fun m => (dL dSigned).ok m.batch) (by unfold bareF; rw [k]; exact lz_d)), (e (fun m => dCert.ok m.cert) (by unfold bareF; rw [k]; exact zcert_d)), (e (fun m => (dL dChange).ok m.changes) (by unfold bareF; rw [k]; exact lz_d)), (e (fun m => (dL dEntry).ok m.entries) (by unfold bareF; rw [k]; exact lz_d)), (e (fun m => dY.ok m.state) (by unfold bareF; rw [k]; exact Nat.zero_le _)), (e (fun m => dS.ok m.topic) (by unfold bareF; rw [k]; exact Nat.zero_le _)), (e (fun m => dI.ok m.offset) (by unfold bareF; rw [k]; exact iz_d)), (e (fun m => dProof.ok m.proof) (by unfold bareF; rw [k]; exact zproof_d)), hs⟩
  · skip
    exact ⟨hk, b12 g.1, bn g.2.1, (e (fun m => dI.ok m.seq) (by unfold bareF; rw [k]; exact iz_d)), (e (fun m => dI.ok m.digest) (by unfold bareF; rw [k]; exact iz_d)), b7 g.2.2.1, bn g.2.2.2.1, ⟨i_of g.2.2.2.2.1 (by decide) (by decide), bn g.2.2.2.2.2⟩, (e (fun m => (dL dSigned).ok m.batch) (by unfold bareF; rw [k]; exact lz_d)), (e (fun m => dCert.ok m.cert) (by unfold bareF; rw [k]; exact zcert_d)), (e (fun m => (dL dChange).ok m.changes) (by unfold bareF; rw [k]; exact lz_d)), (e (fun m => (dL dEntry).ok m.entries) (by unfold bareF; rw [k]; exact lz_d)), (e (fun m => dY.ok m.state) (by unfold bareF; rw [k]; exact Nat.zero_le _)), (e (fun m => dS.ok m.topic) (by unfold bareF; rw [k]; exact Nat.zero_le _)), (e (fun m => dI.ok m.offset) (by unfold bareF; rw [k]; exact iz_d)), (e (fun m => dProof.ok m.proof) (by unfold bareF; rw [k]; exact zproof_d)), hs⟩
  · skip
    exact ⟨hk, b12 g.1, (e (fun m => dI.ok m.view) (by unfold bareF; rw [k]; exact iz_d)), bp g.2.1, bp g.2.2, (e (fun m => dI.ok m.client) (by unfold bareF; rw [k]; exact iz_d)), (e (fun m => dI.ok m.time) (by unfold bareF; rw [k]; exact iz_d)), (e (fun m => dResult.ok m.result) (by unfold bareF; rw [k]; exact zres_d)), (e (fun m => (dL dSigned).ok m.batch) (by unfold bareF; rw [k]; exact lz_d)), (e (fun m => dCert.ok m.cert) (by unfold bareF; rw [k]; exact zcert_d)), (e (fun m => (dL dChange).ok m.changes) (by unfold bareF; rw [k]; exact lz_d)), (e (fun m => (dL dEntry).ok m.entries) (by unfold bareF; rw [k]; exact lz_d)), (e (fun m => dY.ok m.state) (by unfold bareF; rw [k]; exact Nat.zero_le _)), (e (fun m => dS.ok m.topic) (by unfold bareF; rw [k]; exact Nat.zero_le _)), (e (fun m => dI.ok m.offset) (by unfold bareF; rw [k]; exact iz_d)), (e (fun m => dProof.ok m.proof) (by unfold bareF; rw [k]; exact zproof_d)), hs⟩
  · obtain ⟨g1, g2⟩ := g
    obtain ⟨c, hc⟩ : ∃ c, m.changes = [c] := one_of (by omega)
    rw [hc] at g2
    simp [viewE, orE_zero] at g2
    obtain ⟨g2, g3, g4⟩ := g2
    have hcd := chg_d g2
    have hch : (dL dChange).ok m.changes := by rw [hc]; exact ⟨by simp, fun x hx => by rw [List.mem_singleton.1 hx]; exact hcd⟩
    have h5 : dI.ok m.src := by rw [← g3]; exact hcd.2.1
    have h6 : dI.ok m.view := by rw [← g4]; exact hcd.1
    exact ⟨hk, h5, h6, (e (fun m => dI.ok m.seq) (by unfold bareF; rw [k]; exact iz_d)), (e (fun m => dI.ok m.digest) (by unfold bareF; rw [k]; exact iz_d)), (e (fun m => dI.ok m.client) (by unfold bareF; rw [k]; exact iz_d)), (e (fun m => dI.ok m.time) (by unfold bareF; rw [k]; exact iz_d)), (e (fun m => dResult.ok m.result) (by unfold bareF; rw [k]; exact zres_d)), (e (fun m => (dL dSigned).ok m.batch) (by unfold bareF; rw [k]; exact lz_d)), (e (fun m => dCert.ok m.cert) (by unfold bareF; rw [k]; exact zcert_d)), hch, (e (fun m => (dL dEntry).ok m.entries) (by unfold bareF; rw [k]; exact lz_d)), (e (fun m => dY.ok m.state) (by unfold bareF; rw [k]; exact Nat.zero_le _)), (e (fun m => dS.ok m.topic) (by unfold bareF; rw [k]; exact Nat.zero_le _)), (e (fun m => dI.ok m.offset) (by unfold bareF; rw [k]; exact iz_d)), (e (fun m => dProof.ok m.proof) (by unfold bareF; rw [k]; exact zproof_d)), hs⟩
  · skip
    exact ⟨hk, b12 g.1, bp g.2.1, (e (fun m => dI.ok m.seq) (by unfold bareF; rw [k]; exact iz_d)), (e (fun m => dI.ok m.digest) (by unfold bareF; rw [k]; exact iz_d)), (e (fun m => dI.ok m.client) (by unfold bareF; rw [k]; exact iz_d)), (e (fun m => dI.ok m.time) (by unfold bareF; rw [k]; exact iz_d)), (e (fun m => dResult.ok m.result) (by unfold bareF; rw [k]; exact zres_d)), (e (fun m => (dL dSigned).ok m.batch) (by unfold bareF; rw [k]; exact lz_d)), (e (fun m => dCert.ok m.cert) (by unfold bareF; rw [k]; exact zcert_d)), (show (dL dChange).ok m.changes from l_of (m := 13) (by have := g.2.2.1; omega) (by decide) fun c hc => chg_d (g.2.2.2.1 c hc)), (show (dL dEntry).ok m.entries from l_of (m := 8) (by have := g.2.2.2.2.1; omega) (by decide) fun x hx => entry_d (g.2.2.2.2.2 x hx)), (e (fun m => dY.ok m.state) (by unfold bareF; rw [k]; exact Nat.zero_le _)), (e (fun m => dS.ok m.topic) (by unfold bareF; rw [k]; exact Nat.zero_le _)), (e (fun m => dI.ok m.offset) (by unfold bareF; rw [k]; exact iz_d)), (e (fun m => dProof.ok m.proof) (by unfold bareF; rw [k]; exact zproof_d)), hs⟩
  · skip
    exact ⟨hk, b12 g.1, (e (fun m => dI.ok m.view) (by unfold bareF; rw [k]; exact iz_d)), bn g.2, (e (fun m => dI.ok m.digest) (by unfold bareF; rw [k]; exact iz_d)), (e (fun m => dI.ok m.client) (by unfold bareF; rw [k]; exact iz_d)), (e (fun m => dI.ok m.time) (by unfold bareF; rw [k]; exact iz_d)), (e (fun m => dResult.ok m.result) (by unfold bareF; rw [k]; exact zres_d)), (e (fun m => (dL dSigned).ok m.batch) (by unfold bareF; rw [k]; exact lz_d)), (e (fun m => dCert.ok m.cert) (by unfold bareF; rw [k]; exact zcert_d)), (e (fun m => (dL dChange).ok m.changes) (by unfold bareF; rw [k]; exact lz_d)), (e (fun m => (dL dEntry).ok m.entries) (by unfold bareF; rw [k]; exact lz_d)), (e (fun m => dY.ok m.state) (by unfold bareF; rw [k]; exact Nat.zero_le _)), (e (fun m => dS.ok m.topic) (by unfold bareF; rw [k]; exact Nat.zero_le _)), (e (fun m => dI.ok m.offset) (by unfold bareF; rw [k]; exact iz_d)), (e (fun m => dProof.ok m.proof) (by unfold bareF; rw [k]; exact zproof_d)), hs⟩
  · skip
    exact ⟨hk, b12 g.1, (e (fun m => dI.ok m.view) (by unfold bareF; rw [k]; exact iz_d)), (e (fun m => dI.ok m.seq) (by unfold bareF; rw [k]; exact iz_d)), (e (fun m => dI.ok m.digest) (by unfold bareF; rw [k]; exact iz_d)), (e (fun m => dI.ok m.client) (by unfold bareF; rw [k]; exact iz_d)), (e (fun m => dI.ok m.time) (by unfold bareF; rw [k]; exact iz_d)), (e (fun m => dResult.ok m.result) (by unfold bareF; rw [k]; exact zres_d)), (e (fun m => (dL dSigned).ok m.batch) (by unfold bareF; rw [k]; exact lz_d)), cert_d g.2.1, (e (fun m => (dL dChange).ok m.changes) (by unfold bareF; rw [k]; exact lz_d)), (e (fun m => (dL dEntry).ok m.entries) (by unfold bareF; rw [k]; exact lz_d)), by have := g.2.2; show m.state.length ≤ 4194304; omega, (e (fun m => dS.ok m.topic) (by unfold bareF; rw [k]; exact Nat.zero_le _)), (e (fun m => dI.ok m.offset) (by unfold bareF; rw [k]; exact iz_d)), (e (fun m => dProof.ok m.proof) (by unfold bareF; rw [k]; exact zproof_d)), hs⟩
  · skip
    exact ⟨hk, (e (fun m => dI.ok m.src) (by unfold bareF; rw [k]; exact iz_d)), (e (fun m => dI.ok m.view) (by unfold bareF; rw [k]; exact iz_d)), (e (fun m => dI.ok m.seq) (by unfold bareF; rw [k]; exact iz_d)), (e (fun m => dI.ok m.digest) (by unfold bareF; rw [k]; exact iz_d)), b7 g.1, (e (fun m => dI.ok m.time) (by unfold bareF; rw [k]; exact iz_d)), (e (fun m => dResult.ok m.result) (by unfold bareF; rw [k]; exact zres_d)), (e (fun m => (dL dSigned).ok m.batch) (by unfold bareF; rw [k]; exact lz_d)), (e (fun m => dCert.ok m.cert) (by unfold bareF; rw [k]; exact zcert_d)), (e (fun m => (dL dChange).ok m.changes) (by unfold bareF; rw [k]; exact lz_d)), (e (fun m => (dL dEntry).ok m.entries) (by unfold bareF; rw [k]; exact lz_d)), (e (fun m => dY.ok m.state) (by unfold bareF; rw [k]; exact Nat.zero_le _)), Nat.le_trans (nameE0 g.2.1) (by decide), bn g.2.2, (e (fun m => dProof.ok m.proof) (by unfold bareF; rw [k]; exact zproof_d)), hs⟩
  · skip
    exact ⟨hk, b12 g.1, (e (fun m => dI.ok m.view) (by unfold bareF; rw [k]; exact iz_d)), (e (fun m => dI.ok m.seq) (by unfold bareF; rw [k]; exact iz_d)), (e (fun m => dI.ok m.digest) (by unfold bareF; rw [k]; exact iz_d)), (e (fun m => dI.ok m.client) (by unfold bareF; rw [k]; exact iz_d)), (e (fun m => dI.ok m.time) (by unfold bareF; rw [k]; exact iz_d)), (e (fun m => dResult.ok m.result) (by unfold bareF; rw [k]; exact zres_d)), (e (fun m => (dL dSigned).ok m.batch) (by unfold bareF; rw [k]; exact lz_d)), (e (fun m => dCert.ok m.cert) (by unfold bareF; rw [k]; exact zcert_d)), (e (fun m => (dL dChange).ok m.changes) (by unfold bareF; rw [k]; exact lz_d)), (e (fun m => (dL dEntry).ok m.entries) (by unfold bareF; rw [k]; exact lz_d)), (e (fun m => dY.ok m.state) (by unfold bareF; rw [k]; exact Nat.zero_le _)), (e (fun m => dS.ok m.topic) (by unfold bareF; rw [k]; exact Nat.zero_le _)), (e (fun m => dI.ok m.offset) (by unfold bareF; rw [k]; exact iz_d)), proof_d g.2, hs⟩
end Go.Proofs.YteaggenihhaajaaGreat

/- A call of what only computes, with rows of one's own among its arguments, read as data. No program here. -/
namespace Go.Proofs.YteaggenihhaajaaGreat
open Go.RowKit
set_option linter.unusedVariables false

/-- a datum that holds no memory -/
def bareD : D → Bool
  | .bool _ => true
  | .int _ _ => true
  | .str _ => true
  | _ => false
theorem bareD_vr {I I' : Nat → Prop} {g g' : Ghost} {w w' : World} {v : Value} {d : D} (hb : bareD d = true) (h : Vr I g w v d) : Vr I' g' w' v d := by
  cases d <;> first | (cases hb; done) | skip
  all_goals
    cases h with
    | rd h =>
      cases h
      first
      | exact .rd (.bool _)
      | exact .rd (.int _ _)
      | exact .rd (.str _)
theorem okOwn [Wd] {P : Program} {Q : Exit → S → Prop} {f : FuncId} {ar ar' : List D} {h : List AO} {c : D → List AO → T} {r : D} (fz : List Nat) (hF : FnP P f ar r) (hp : pureD.pl ar = true) (hc : Cos (D.frz.fl h fz ar') ar) (hb : bareD r = true) (k : (c r h).ok P Q) : (T.call f ar' h c).ok P Q := by
  refine ⟨fun r' h' => r' = r ∧ h' = h, ⟨hF.1, fun w I g vs hW hd ha => ?_⟩, fun r' h' ⟨e1, e2⟩ => by subst e1 e2; exact k⟩
  have hv : Vrs (fun b => I b ∨ OwnedIn fz g h b) g w vs (D.frz.fl h fz ar') := by
    rw [fl_map]
    refine ⟨by rw [List.length_map]; exact ha.1, fun i v d h1 h2 => ?_⟩
    rw [List.getElem?_map] at h2
    cases hq : ar'[i]? with
    | none => rw [hq] at h2; cases h2
    | some d0 =>
      rw [hq] at h2
      injection h2 with h2
      subst h2
      exact (ha.2 i v d0 h1 hq).frz hd (fun _ h => .inl h) (fun _ h => .inr h)
  have hdr := pureL_ok (hc.ok hv) hp
  have hd0 : Den (fun b => I b ∨ OwnedIn fz g h b) [] w [] := ⟨rfl, fun b hb => hb.elim (hd.inn b) (fun ho => hd.lt ho.owned), fun o ao p h1 => by simp at h1, fun o ao p b h1 => by simp at h1, fun o o' ao ao' p p' b h1 => by simp at h1⟩
  refine (hF.2 w _ [] vs (Wd.cl hW (fun _ _ => rfl) (fun _ h => .inl h)) hd0 hdr.vrs).mono ?_
  rintro e w' ⟨v, I', gs', r0, h0, rfl, ⟨rfl, rfl⟩, hd1, hv0, hx, i1, i2, ow, ck⟩
  have hno : ∀ b, ¬ Owned [] [] b := by rintro b ⟨o, ao, p, q1, _⟩; simp at q1
  have hx' : Ext (fun _ => False) w w' := hx.mono (fun b _ hb => hno b hb)
  exact ⟨v, I, g, r0, h, rfl, ⟨rfl, rfl⟩, ⟨hd.ext hx' (fun _ _ => id) (fun _ _ => id), hx'.mono (fun _ _ h => h.elim), fun _ h => h, fun _ h => .inl h, fun _ _ h => h, fun _ _ _ => rfl, fun o ao p b ho h1 _ h3 => ⟨ao, h1, h3⟩, fun o ao p b ho h1 _ _ => by have := (List.getElem?_eq_some_iff.1 h1).1; omega⟩, bareD_vr hb hv0⟩
end Go.Proofs.YteaggenihhaajaaGreat

/- Packages op, request and message: what they read, over data (printed by gen_we.py). -/
namespace Go.Proofs.YteaggenihhaajaaGreat
open Go.RowKit
set_option linter.unusedVariables false
set_option maxRecDepth 20000

theorem mtBroker_s [Wd] : FnR 275 (.agg [.ptr 0 0]) [] (fun s => .int .i64 (nR 12 s).1) (fun s => (nR 12 s).2) := by
  intro s hs
  have h1 := numR_le 12 s
  refine mkS 7 [] Tryz.func275 rfl (by kernel_rfl) ?_
  repeat'
    (conv => arg 2; whnf)
    first
    | refine okAsk (by kernel_rfl) ?_
    | refine okBoth ?_ ?_
    | refine okBrT ?_
    | refine okBrF ?_
    | refine okWrap (w64 (by omega) (by omega)) ?_
    | refine okRd 0 s (numR 12 s).2 (.int .u64 ((numR 12 s).1 : Int)) (rdNum_s 12) hs rfl rfl ⟨⟨rfl, rfl⟩, trivial⟩ (Cos.refl _) rfl ?_
    | refine endRd (d := .int .i64 ((numR 12 s).1 : Int)) (.inr rfl) rfl ⟨⟨rfl, rfl⟩, trivial⟩ rfl (.refl _) rfl rfl
theorem mtClient_s [Wd] : FnR 280 (.agg [.ptr 0 0]) [] (fun s => .int .i64 (nR 7 s).1) (fun s => (nR 7 s).2) := by
  intro s hs
  have h1 := numR_le 7 s
  refine mkS 7 [] Tryz.func280 rfl (by kernel_rfl) ?_
  repeat'
    (conv => arg 2; whnf)
    first
    | refine okAsk (by kernel_rfl) ?_
    | refine okBoth ?_ ?_
    | refine okBrT ?_
    | refine okBrF ?_
    | refine okWrap (w64 (by omega) (by omega)) ?_
    | refine okRd 0 s (numR 7 s).2 (.int .u64 ((numR 7 s).1 : Int)) (rdNum_s 7) hs rfl rfl ⟨⟨rfl, rfl⟩, trivial⟩ (Cos.refl _) rfl ?_
    | refine endRd (d := .int .i64 ((numR 7 s).1 : Int)) (.inr rfl) rfl ⟨⟨rfl, rfl⟩, trivial⟩ rfl (.refl _) rfl rfl
theorem Cd.got {α : Type} {p : RS → α × RS} {ok : α → Prop} {b : α → List UInt8} (h : Cd p ok b) {s : RS} {x : α} {b1 : List UInt8} {e1 : Int} (q : p s = (x, (b1, e1))) (he : e1 = 0) : ok x := by
  have e2 := h.toRd1.ok (s := s) (by rw [q]; exact he)
  rw [e2] at q
  have h1 := (h.back s.1 (by rw [q]; exact he)).1
  rw [q] at h1
  exact h1
theorem oCheck_s [Wd] (o : OpD) (h : dOp.ok o) : FnP Tryz.prog 302 [.agg (cOp o)] (.int .i64 (opE o)) := FnP.ofT LkOp h (fun _ _ => .int _ _) (by kernel_rfl) rfl opE_c
theorem bytes64_s [Wd] : FnR 171 (.ptr 0 0) [.int .i64 64] (fun s => .list 1 ((bytesR 64 s).1.map cByte)) (fun s => (bytesR 64 s).2) := rdBytes_s 64 (by decide)
theorem nR_in {most : Nat} {s : RS} {n : Int} {r : RS} (h : nR most s = (n, r)) : 0 ≤ n ∧ n ≤ most := by
  have h1 := numR_le most s
  have h2 : ((numR most s).1 : Int) = n := congrArg Prod.fst h
  omega
theorem bytes_in {most : Nat} {s : RS} {x : List UInt8} {r : RS} (h : bytesR most s = (x, r)) : x.length ≤ most := by
  obtain ⟨y, b, e, hy, _, h2⟩ := bytesR_pair most s
  rw [h] at hy
  cases hy
  exact h2
theorem okBr1 [Wd] {P : Program} {Q : Exit → S → Prop} {b : Bool} {t f : T} (hb : b = true) (h : t.ok P Q) : (T.br b t f).ok P Q := by subst hb; exact okBrT h
theorem okBr0 [Wd] {P : Program} {Q : Exit → S → Prop} {b : Bool} {t f : T} (hb : b = false) (h : f.ok P Q) : (T.br b t f).ok P Q := by subst hb; exact okBrF h
theorem okBrZ [Wd] {P : Program} {Q : Exit → S → Prop} {e : Int} {t f : T} (h1 : e = 0 → t.ok P Q) (h2 : ¬ e = 0 → f.ok P Q) : (T.br (e == 0) t f).ok P Q := ⟨fun h => h1 (by simpa using h), fun h => h2 (by simpa using h)⟩
theorem okBrNZ [Wd] {P : Program} {Q : Exit → S → Prop} {e : Int} {t f : T} (h1 : ¬ e = 0 → t.ok P Q) (h2 : e = 0 → f.ok P Q) : (T.br (e != 0) t f).ok P Q := ⟨fun h => h1 (by simpa using h), fun h => h2 (by simpa using h)⟩
theorem failR_at (k : Int) {b : List UInt8} : failR k (b, 0) = (b, k) := rfl
theorem failR_no (k : Int) {b : List UInt8} {e : Int} (h : ¬ e = 0) : failR k (b, e) = (b, e) := if_neg h
theorem oTake0_s [Wd] (b : List UInt8) (e : Int) (hs : b.length ≤ 8388609) {b0 : List UInt8} {e0 : Int} (q : nR 4 (b, e) = (0, (b0, e0))) (h0 : b0.length ≤ 8388609) : FnS Tryz.prog 317 [.ptr 0 0] (oRd (b, e)) (fun r h => r = .agg (cOp (opR (b, e)).1) ∧ h = oRd (opR (b, e)).2) := by
  have eB : opBodyR 0 (b0, e0) = (⟨0, [], [], 0, []⟩, (b0, e0)) := by unfold opBodyR; simp [pureR]
  obtain ⟨o, ho⟩ : ∃ o : OpD, o = ⟨0, [], [], 0, []⟩ := ⟨_, rfl⟩
  obtain ⟨ef, hef⟩ : ∃ ef : Int, failR (opE o) (b0, e0) = (b0, ef) := ⟨(failR (opE o) (b0, e0)).2, Prod.ext (failR_len _ _) rfl⟩
  have eR : opR (b, e) = if ef = 0 then (o, (b0, ef)) else (zOp, (b0, ef)) := by
    unfold opR zeroR guardR mapR bindR
    simp only [q, eB, ← ho, hef]
  have hok : e0 = 0 → dOp.ok o := fun he => by
    rw [ho]
    exact opSh_d ((opBodyR_cd 0 (by decide)).got eB he) (by decide)
  have hno : ¬ e0 = 0 → ef = e0 := fun he => by
    have := hef
    rw [failR_no _ he] at this
    exact (congrArg (fun r : RS => r.2) this).symm
  have gY : ef = 0 → opR (b, e) = (o, (b0, ef)) := fun h => by rw [eR, if_pos h]
  have gN : ¬ ef = 0 → opR (b, e) = (zOp, (b0, ef)) := fun h => by rw [eR, if_neg h]
  have gE : ¬ e0 = 0 → opR (b, e) = (zOp, (b0, e0)) := fun h => by rw [eR, hno h, if_neg h]
  refine mkS 59 [] Tryz.func317 rfl (by kernel_rfl) ?_
  repeat'
    (conv => arg 2; whnf)
    first
    | refine okAsk (by kernel_rfl) ?_
    | refine okBoth ?_ ?_
    | refine okBrT ?_
    | refine okBrF ?_
    | refine okBr1 (by decide) ?_
    | refine okBr0 (by decide) ?_
    | refine okBrZ (fun h => ?_) (fun hz => ?_)
    | refine okBrNZ (fun h => ?_) (fun h => ?_)
    | refine okRd 0 (b, e) (b0, e0) (.int .u64 0) (rdNum_s 4) hs (congrArg Prod.snd q).symm (congrArg (fun r : Int × RS => D.int .u64 r.1) q).symm ⟨⟨rfl, rfl⟩, trivial⟩ (Cos.refl _) rfl ?_
    | refine okWrap (w64 (by decide) (by decide)) ?_
    | refine okWrap (w64 (by omega) (by omega)) ?_
    | refine okByts _ rfl ?_
    | refine okAsk (by omega) ?_
    | refine okRd 0 (b0, e0) (b0, e0) (.int .i64 e0) rdErr_s h0 rfl rfl ⟨⟨rfl, rfl⟩, trivial⟩ (Cos.refl _) rfl ?_
    | refine okFn (oCheck_s o (hok h)) rfl (Cos.cons (by rw [ho]; exact Cos.mkAgg (Cos.cons (.refl _) (Cos.cons (.refl _) (Cos.cons (.refl _) (Cos.cons (.refl _) (Cos.cons (.nil _) .nil)))))) .nil) ?_
    | refine okRd 0 (b0, e0) (b0, ef) (.tup []) (rdFail_s (opE o)) h0 hef.symm rfl ⟨⟨rfl, rfl⟩, trivial⟩ (Cos.refl _) rfl ?_
    | refine okRd 0 (b0, ef) (b0, ef) (.int .i64 ef) rdErr_s h0 rfl rfl ⟨⟨rfl, rfl⟩, trivial⟩ (Cos.refl _) rfl ?_
    | refine endRd (x := b0) (y := ef) (d := .agg (cOp o)) (.inr rfl) rfl ⟨⟨rfl, rfl⟩, trivial⟩ rfl (by rw [ho]; exact Cos.mkAgg (Cos.cons (.refl _) (Cos.cons (.refl _) (Cos.cons (.refl _) (Cos.cons (.refl _) (Cos.cons (.nil _) .nil)))))) (congrArg Prod.snd (gY h)).symm (congrArg (fun r : OpD × RS => D.agg (cOp r.1)) (gY h)).symm
    | refine endRd (x := b0) (y := ef) (d := .agg (cOp zOp)) (.inr rfl) rfl ⟨⟨rfl, rfl⟩, trivial⟩ rfl (Cos.mkAgg (Cos.cons (.refl _) (Cos.cons (.refl _) (Cos.cons (.refl _) (Cos.cons (.refl _) (Cos.cons (.nil _) .nil)))))) (congrArg Prod.snd (gN h)).symm (congrArg (fun r : OpD × RS => D.agg (cOp r.1)) (gN h)).symm
    | refine endRd (x := b0) (y := e0) (d := .agg (cOp zOp)) (.inr rfl) rfl ⟨⟨rfl, rfl⟩, trivial⟩ rfl (Cos.mkAgg (Cos.cons (.refl _) (Cos.cons (.refl _) (Cos.cons (.refl _) (Cos.cons (.refl _) (Cos.cons (.nil _) .nil)))))) (congrArg Prod.snd (gE h)).symm (congrArg (fun r : OpD × RS => D.agg (cOp r.1)) (gE h)).symm
    | exact absurd h hz
    | fail
theorem oTake1_s [Wd] (b : List UInt8) (e : Int) (hs : b.length ≤ 8388609) {b0 : List UInt8} {e0 : Int} (q : nR 4 (b, e) = (1, (b0, e0))) (h0 : b0.length ≤ 8388609) : FnS Tryz.prog 317 [.ptr 0 0] (oRd (b, e)) (fun r h => r = .agg (cOp (opR (b, e)).1) ∧ h = oRd (opR (b, e)).2) := by
  obtain ⟨t, b1, e1, q1, l1⟩ := Rd1.get (bytesR_rd 64) (b0, e0)
  replace l1 : b1.length ≤ b0.length := l1
  have h1 : b1.length ≤ 8388609 := by omega
  have hb1 := bytes_in q1
  have eB : opBodyR 1 (b0, e0) = (⟨1, t, [], 0, []⟩, (b1, e1)) := by unfold opBodyR; simp [mapR, q1]
  obtain ⟨o, ho⟩ : ∃ o : OpD, o = ⟨1, t, [], 0, []⟩ := ⟨_, rfl⟩
  obtain ⟨ef, hef⟩ : ∃ ef : Int, failR (opE o) (b1, e1) = (b1, ef) := ⟨(failR (opE o) (b1, e1)).2, Prod.ext (failR_len _ _) rfl⟩
  have eR : opR (b, e) = if ef = 0 then (o, (b1, ef)) else (zOp, (b1, ef)) := by
    unfold opR zeroR guardR mapR bindR
    simp only [q, eB, ← ho, hef]
  have hok : e1 = 0 → dOp.ok o := fun he => by
    rw [ho]
    exact opSh_d ((opBodyR_cd 1 (by decide)).got eB he) (by decide)
  have hno : ¬ e1 = 0 → ef = e1 := fun he => by
    have := hef
    rw [failR_no _ he] at this
    exact (congrArg (fun r : RS => r.2) this).symm
  have gY : ef = 0 → opR (b, e) = (o, (b1, ef)) := fun h => by rw [eR, if_pos h]
  have gN : ¬ ef = 0 → opR (b, e) = (zOp, (b1, ef)) := fun h => by rw [eR, if_neg h]
  have gE : ¬ e1 = 0 → opR (b, e) = (zOp, (b1, e1)) := fun h => by rw [eR, hno h, if_neg h]
  refine mkS 59 [] Tryz.func317 rfl (by kernel_rfl) ?_
  repeat'
    (conv => arg 2; whnf)
    first
    | refine okAsk (by kernel_rfl) ?_
    | refine okBoth ?_ ?_
    | refine okBrT ?_
    | refine okBrF ?_
    | refine okBr1 (by decide) ?_
    | refine okBr0 (by decide) ?_
    | refine okBrZ (fun h => ?_) (fun hz => ?_)
    | refine okBrNZ (fun h => ?_) (fun h => ?_)
    | refine okRd 0 (b, e) (b0, e0) (.int .u64 1) (rdNum_s 4) hs (congrArg Prod.snd q).symm (congrArg (fun r : Int × RS => D.int .u64 r.1) q).symm ⟨⟨rfl, rfl⟩, trivial⟩ (Cos.refl _) rfl ?_
    | refine okWrap (w64 (by decide) (by decide)) ?_
    | refine okWrap (w64 (by omega) (by omega)) ?_
    | refine okByts _ rfl ?_
    | refine okAsk (by omega) ?_
    | refine okRd 0 (b0, e0) (b1, e1) (.list 1 (t.map cByte)) bytes64_s h0 (congrArg Prod.snd q1).symm (congrArg (fun r : List UInt8 × RS => D.list 1 (r.1.map cByte)) q1).symm ⟨⟨rfl, rfl⟩, trivial⟩ (Cos.refl _) rfl ?_
    | refine okRd 0 (b1, e1) (b1, e1) (.int .i64 e1) rdErr_s h1 rfl rfl ⟨⟨rfl, rfl⟩, trivial⟩ (Cos.refl _) rfl ?_
    | refine okFn (oCheck_s o (hok h)) rfl (Cos.cons (by rw [ho]; exact Cos.mkAgg (Cos.cons (.refl _) (Cos.cons (.refl _) (Cos.cons (.refl _) (Cos.cons (.refl _) (Cos.cons (.nil _) .nil)))))) .nil) ?_
    | refine okRd 0 (b1, e1) (b1, ef) (.tup []) (rdFail_s (opE o)) h1 hef.symm rfl ⟨⟨rfl, rfl⟩, trivial⟩ (Cos.refl _) rfl ?_
    | refine okRd 0 (b1, ef) (b1, ef) (.int .i64 ef) rdErr_s h1 rfl rfl ⟨⟨rfl, rfl⟩, trivial⟩ (Cos.refl _) rfl ?_
    | refine endRd (x := b1) (y := ef) (d := .agg (cOp o)) (.inr rfl) rfl ⟨⟨rfl, rfl⟩, trivial⟩ rfl (by rw [ho]; exact Cos.mkAgg (Cos.cons (.refl _) (Cos.cons (.refl _) (Cos.cons (.refl _) (Cos.cons (.refl _) (Cos.cons (.nil _) .nil)))))) (congrArg Prod.snd (gY h)).symm (congrArg (fun r : OpD × RS => D.agg (cOp r.1)) (gY h)).symm
    | refine endRd (x := b1) (y := ef) (d := .agg (cOp zOp)) (.inr rfl) rfl ⟨⟨rfl, rfl⟩, trivial⟩ rfl (Cos.mkAgg (Cos.cons (.refl _) (Cos.cons (.refl _) (Cos.cons (.refl _) (Cos.cons (.refl _) (Cos.cons (.nil _) .nil)))))) (congrArg Prod.snd (gN h)).symm (congrArg (fun r : OpD × RS => D.agg (cOp r.1)) (gN h)).symm
    | refine endRd (x := b1) (y := e1) (d := .agg (cOp zOp)) (.inr rfl) rfl ⟨⟨rfl, rfl⟩, trivial⟩ rfl (Cos.mkAgg (Cos.cons (.refl _) (Cos.cons (.refl _) (Cos.cons (.refl _) (Cos.cons (.refl _) (Cos.cons (.nil _) .nil)))))) (congrArg Prod.snd (gE h)).symm (congrArg (fun r : OpD × RS => D.agg (cOp r.1)) (gE h)).symm
    | exact absurd h hz
    | fail
theorem oTake3_s [Wd] (b : List UInt8) (e : Int) (hs : b.length ≤ 8388609) {b0 : List UInt8} {e0 : Int} (q : nR 4 (b, e) = (3, (b0, e0))) (h0 : b0.length ≤ 8388609) : FnS Tryz.prog 317 [.ptr 0 0] (oRd (b, e)) (fun r h => r = .agg (cOp (opR (b, e)).1) ∧ h = oRd (opR (b, e)).2) := by
  obtain ⟨t, b1, e1, q1, l1⟩ := Rd1.get (bytesR_rd 64) (b0, e0)
  replace l1 : b1.length ≤ b0.length := l1
  have h1 : b1.length ≤ 8388609 := by omega
  obtain ⟨g, b2, e2, q2, l2⟩ := Rd1.get (bytesR_rd 64) (b1, e1)
  replace l2 : b2.length ≤ b1.length := l2
  have h2 : b2.length ≤ 8388609 := by omega
  obtain ⟨n, b3, e3, q3, l3⟩ := Rd1.get (nR_rd MX) (b2, e2)
  replace l3 : b3.length ≤ b2.length := l3
  have h3 : b3.length ≤ 8388609 := by omega
  have hn := nR_in q3
  rw [MX_int] at hn
  have hb1 := bytes_in q1
  have hb2 := bytes_in q2
  have eB : opBodyR 3 (b0, e0) = (⟨3, t, g, n, []⟩, (b3, e3)) := by unfold opBodyR; simp [mapR, pairR, bindR, q1, q2, q3]
  obtain ⟨o, ho⟩ : ∃ o : OpD, o = ⟨3, t, g, n, []⟩ := ⟨_, rfl⟩
  obtain ⟨ef, hef⟩ : ∃ ef : Int, failR (opE o) (b3, e3) = (b3, ef) := ⟨(failR (opE o) (b3, e3)).2, Prod.ext (failR_len _ _) rfl⟩
  have eR : opR (b, e) = if ef = 0 then (o, (b3, ef)) else (zOp, (b3, ef)) := by
    unfold opR zeroR guardR mapR bindR
    simp only [q, eB, ← ho, hef]
  have hok : e3 = 0 → dOp.ok o := fun he => by
    rw [ho]
    exact opSh_d ((opBodyR_cd 3 (by decide)).got eB he) (by decide)
  have hno : ¬ e3 = 0 → ef = e3 := fun he => by
    have := hef
    rw [failR_no _ he] at this
    exact (congrArg (fun r : RS => r.2) this).symm
  have gY : ef = 0 → opR (b, e) = (o, (b3, ef)) := fun h => by rw [eR, if_pos h]
  have gN : ¬ ef = 0 → opR (b, e) = (zOp, (b3, ef)) := fun h => by rw [eR, if_neg h]
  have gE : ¬ e3 = 0 → opR (b, e) = (zOp, (b3, e3)) := fun h => by rw [eR, hno h, if_neg h]
  refine mkS 59 [] Tryz.func317 rfl (by kernel_rfl) ?_
  repeat'
    (conv => arg 2; whnf)
    first
    | refine okAsk (by kernel_rfl) ?_
    | refine okBoth ?_ ?_
    | refine okBrT ?_
    | refine okBrF ?_
    | refine okBr1 (by decide) ?_
    | refine okBr0 (by decide) ?_
    | refine okBrZ (fun h => ?_) (fun hz => ?_)
    | refine okBrNZ (fun h => ?_) (fun h => ?_)
    | refine okRd 0 (b, e) (b0, e0) (.int .u64 3) (rdNum_s 4) hs (congrArg Prod.snd q).symm (congrArg (fun r : Int × RS => D.int .u64 r.1) q).symm ⟨⟨rfl, rfl⟩, trivial⟩ (Cos.refl _) rfl ?_
    | refine okWrap (w64 (by decide) (by decide)) ?_
    | refine okWrap (w64 (by omega) (by omega)) ?_
    | refine okByts _ rfl ?_
    | refine okAsk (by omega) ?_
    | refine okRd 0 (b0, e0) (b1, e1) (.list 1 (t.map cByte)) bytes64_s h0 (congrArg Prod.snd q1).symm (congrArg (fun r : List UInt8 × RS => D.list 1 (r.1.map cByte)) q1).symm ⟨⟨rfl, rfl⟩, trivial⟩ (Cos.refl _) rfl ?_
    | refine okRd 0 (b1, e1) (b2, e2) (.list 1 (g.map cByte)) bytes64_s h1 (congrArg Prod.snd q2).symm (congrArg (fun r : List UInt8 × RS => D.list 1 (r.1.map cByte)) q2).symm ⟨⟨rfl, rfl⟩, trivial⟩ (Cos.refl _) rfl ?_
    | refine okRd 0 (b2, e2) (b3, e3) (.int .u64 n) (rdNum_s MX) h2 (congrArg Prod.snd q3).symm (congrArg (fun r : Int × RS => D.int .u64 r.1) q3).symm ⟨⟨rfl, rfl⟩, trivial⟩ (Cos.refl _) rfl ?_
    | refine okRd 0 (b3, e3) (b3, e3) (.int .i64 e3) rdErr_s h3 rfl rfl ⟨⟨rfl, rfl⟩, trivial⟩ (Cos.refl _) rfl ?_
    | refine okFn (oCheck_s o (hok h)) rfl (Cos.cons (by rw [ho]; exact Cos.mkAgg (Cos.cons (.refl _) (Cos.cons (.refl _) (Cos.cons (.refl _) (Cos.cons (.refl _) (Cos.cons (.nil _) .nil)))))) .nil) ?_
    | refine okRd 0 (b3, e3) (b3, ef) (.tup []) (rdFail_s (opE o)) h3 hef.symm rfl ⟨⟨rfl, rfl⟩, trivial⟩ (Cos.refl _) rfl ?_
    | refine okRd 0 (b3, ef) (b3, ef) (.int .i64 ef) rdErr_s h3 rfl rfl ⟨⟨rfl, rfl⟩, trivial⟩ (Cos.refl _) rfl ?_
    | refine endRd (x := b3) (y := ef) (d := .agg (cOp o)) (.inr rfl) rfl ⟨⟨rfl, rfl⟩, trivial⟩ rfl (by rw [ho]; exact Cos.mkAgg (Cos.cons (.refl _) (Cos.cons (.refl _) (Cos.cons (.refl _) (Cos.cons (.refl _) (Cos.cons (.nil _) .nil)))))) (congrArg Prod.snd (gY h)).symm (congrArg (fun r : OpD × RS => D.agg (cOp r.1)) (gY h)).symm
    | refine endRd (x := b3) (y := ef) (d := .agg (cOp zOp)) (.inr rfl) rfl ⟨⟨rfl, rfl⟩, trivial⟩ rfl (Cos.mkAgg (Cos.cons (.refl _) (Cos.cons (.refl _) (Cos.cons (.refl _) (Cos.cons (.refl _) (Cos.cons (.nil _) .nil)))))) (congrArg Prod.snd (gN h)).symm (congrArg (fun r : OpD × RS => D.agg (cOp r.1)) (gN h)).symm
    | refine endRd (x := b3) (y := e3) (d := .agg (cOp zOp)) (.inr rfl) rfl ⟨⟨rfl, rfl⟩, trivial⟩ rfl (Cos.mkAgg (Cos.cons (.refl _) (Cos.cons (.refl _) (Cos.cons (.refl _) (Cos.cons (.refl _) (Cos.cons (.nil _) .nil)))))) (congrArg Prod.snd (gE h)).symm (congrArg (fun r : OpD × RS => D.agg (cOp r.1)) (gE h)).symm
    | exact absurd h hz
    | fail
theorem oTake4_s [Wd] (b : List UInt8) (e : Int) (hs : b.length ≤ 8388609) {b0 : List UInt8} {e0 : Int} (q : nR 4 (b, e) = (4, (b0, e0))) (h0 : b0.length ≤ 8388609) : FnS Tryz.prog 317 [.ptr 0 0] (oRd (b, e)) (fun r h => r = .agg (cOp (opR (b, e)).1) ∧ h = oRd (opR (b, e)).2) := by
  obtain ⟨t, b1, e1, q1, l1⟩ := Rd1.get (bytesR_rd 64) (b0, e0)
  replace l1 : b1.length ≤ b0.length := l1
  have h1 : b1.length ≤ 8388609 := by omega
  obtain ⟨n, b2, e2, q2, l2⟩ := Rd1.get (nR_rd MX) (b1, e1)
  replace l2 : b2.length ≤ b1.length := l2
  have h2 : b2.length ≤ 8388609 := by omega
  have hn := nR_in q2
  rw [MX_int] at hn
  have hb1 := bytes_in q1
  have eB : opBodyR 4 (b0, e0) = (⟨4, t, [], n, []⟩, (b2, e2)) := by unfold opBodyR; simp [mapR, pairR, bindR, q1, q2]
  obtain ⟨o, ho⟩ : ∃ o : OpD, o = ⟨4, t, [], n, []⟩ := ⟨_, rfl⟩
  obtain ⟨ef, hef⟩ : ∃ ef : Int, failR (opE o) (b2, e2) = (b2, ef) := ⟨(failR (opE o) (b2, e2)).2, Prod.ext (failR_len _ _) rfl⟩
  have eR : opR (b, e) = if ef = 0 then (o, (b2, ef)) else (zOp, (b2, ef)) := by
    unfold opR zeroR guardR mapR bindR
    simp only [q, eB, ← ho, hef]
  have hok : e2 = 0 → dOp.ok o := fun he => by
    rw [ho]
    exact opSh_d ((opBodyR_cd 4 (by decide)).got eB he) (by decide)
  have hno : ¬ e2 = 0 → ef = e2 := fun he => by
    have := hef
    rw [failR_no _ he] at this
    exact (congrArg (fun r : RS => r.2) this).symm
  have gY : ef = 0 → opR (b, e) = (o, (b2, ef)) := fun h => by rw [eR, if_pos h]
  have gN : ¬ ef = 0 → opR (b, e) = (zOp, (b2, ef)) := fun h => by rw [eR, if_neg h]
  have gE : ¬ e2 = 0 → opR (b, e) = (zOp, (b2, e2)) := fun h => by rw [eR, hno h, if_neg h]
  refine mkS 59 [] Tryz.func317 rfl (by kernel_rfl) ?_
  repeat'
    (conv => arg 2; whnf)
    first
    | refine okAsk (by kernel_rfl) ?_
    | refine okBoth ?_ ?_
    | refine okBrT ?_
    | refine okBrF ?_
    | refine okBr1 (by decide) ?_
    | refine okBr0 (by decide) ?_
    | refine okBrZ (fun h => ?_) (fun hz => ?_)
    | refine okBrNZ (fun h => ?_) (fun h => ?_)
    | refine okRd 0 (b, e) (b0, e0) (.int .u64 4) (rdNum_s 4) hs (congrArg Prod.snd q).symm (congrArg (fun r : Int × RS => D.int .u64 r.1) q).symm ⟨⟨rfl, rfl⟩, trivial⟩ (Cos.refl _) rfl ?_
    | refine okWrap (w64 (by decide) (by decide)) ?_
    | refine okWrap (w64 (by omega) (by omega)) ?_
    | refine okByts _ rfl ?_
    | refine okAsk (by omega) ?_
    | refine okRd 0 (b0, e0) (b1, e1) (.list 1 (t.map cByte)) bytes64_s h0 (congrArg Prod.snd q1).symm (congrArg (fun r : List UInt8 × RS => D.list 1 (r.1.map cByte)) q1).symm ⟨⟨rfl, rfl⟩, trivial⟩ (Cos.refl _) rfl ?_
    | refine okRd 0 (b1, e1) (b2, e2) (.int .u64 n) (rdNum_s MX) h1 (congrArg Prod.snd q2).symm (congrArg (fun r : Int × RS => D.int .u64 r.1) q2).symm ⟨⟨rfl, rfl⟩, trivial⟩ (Cos.refl _) rfl ?_
    | refine okRd 0 (b2, e2) (b2, e2) (.int .i64 e2) rdErr_s h2 rfl rfl ⟨⟨rfl, rfl⟩, trivial⟩ (Cos.refl _) rfl ?_
    | refine okFn (oCheck_s o (hok h)) rfl (Cos.cons (by rw [ho]; exact Cos.mkAgg (Cos.cons (.refl _) (Cos.cons (.refl _) (Cos.cons (.refl _) (Cos.cons (.refl _) (Cos.cons (.nil _) .nil)))))) .nil) ?_
    | refine okRd 0 (b2, e2) (b2, ef) (.tup []) (rdFail_s (opE o)) h2 hef.symm rfl ⟨⟨rfl, rfl⟩, trivial⟩ (Cos.refl _) rfl ?_
    | refine okRd 0 (b2, ef) (b2, ef) (.int .i64 ef) rdErr_s h2 rfl rfl ⟨⟨rfl, rfl⟩, trivial⟩ (Cos.refl _) rfl ?_
    | refine endRd (x := b2) (y := ef) (d := .agg (cOp o)) (.inr rfl) rfl ⟨⟨rfl, rfl⟩, trivial⟩ rfl (by rw [ho]; exact Cos.mkAgg (Cos.cons (.refl _) (Cos.cons (.refl _) (Cos.cons (.refl _) (Cos.cons (.refl _) (Cos.cons (.nil _) .nil)))))) (congrArg Prod.snd (gY h)).symm (congrArg (fun r : OpD × RS => D.agg (cOp r.1)) (gY h)).symm
    | refine endRd (x := b2) (y := ef) (d := .agg (cOp zOp)) (.inr rfl) rfl ⟨⟨rfl, rfl⟩, trivial⟩ rfl (Cos.mkAgg (Cos.cons (.refl _) (Cos.cons (.refl _) (Cos.cons (.refl _) (Cos.cons (.refl _) (Cos.cons (.nil _) .nil)))))) (congrArg Prod.snd (gN h)).symm (congrArg (fun r : OpD × RS => D.agg (cOp r.1)) (gN h)).symm
    | refine endRd (x := b2) (y := e2) (d := .agg (cOp zOp)) (.inr rfl) rfl ⟨⟨rfl, rfl⟩, trivial⟩ rfl (Cos.mkAgg (Cos.cons (.refl _) (Cos.cons (.refl _) (Cos.cons (.refl _) (Cos.cons (.refl _) (Cos.cons (.nil _) .nil)))))) (congrArg Prod.snd (gE h)).symm (congrArg (fun r : OpD × RS => D.agg (cOp r.1)) (gE h)).symm
    | exact absurd h hz
    | fail
theorem allR_step {α : Type} {p : RS → α × RS} {m : Nat} {s s2 : RS} {x : α} (h : p s = (x, s2)) : allR p (m + 1) s = (x :: (allR p m s2).1, (allR p m s2).2) := by
  show mapR _ (pairR p (allR p m)) s = _
  unfold mapR pairR bindR
  rw [h]
set_option maxHeartbeats 2000000 in
theorem oTake2_s [Wd] (b : List UInt8) (e : Int) (hs : b.length ≤ 8388609) {b0 : List UInt8} {e0 : Int} (q : nR 4 (b, e) = (2, (b0, e0))) (h0 : b0.length ≤ 8388609) : FnS Tryz.prog 317 [.ptr 0 0] (oRd (b, e)) (fun r h => r = .agg (cOp (opR (b, e)).1) ∧ h = oRd (opR (b, e)).2) := by
  obtain ⟨t, b1, e1, q1, l1⟩ := Rd1.get (bytesR_rd 64) (b0, e0)
  replace l1 : b1.length ≤ b0.length := l1
  have h1 : b1.length ≤ 8388609 := by omega
  have hb1 := bytes_in q1
  obtain ⟨n, b2, e2, qn, hn, l2⟩ := numR_pair 4 (b1, e1)
  replace l2 : b2.length ≤ b1.length := l2
  have h2 : b2.length ≤ 8388609 := by omega
  have q2 : nR 4 (b1, e1) = ((n : Int), (b2, e2)) := by unfold nR; rw [qn]
  obtain ⟨rs, b3, e3, q3, l3⟩ := Rd1.get (allR_rd (bytesR_rd 64) n) (b2, e2)
  replace l3 : b3.length ≤ b2.length := l3
  have h3 : b3.length ≤ 8388609 := by omega
  have eB : opBodyR 2 (b0, e0) = (⟨2, t, [], 0, rs⟩, (b3, e3)) := by unfold opBodyR; simp [mapR, pairR, bindR, q1, q2, q3]
  obtain ⟨o, ho⟩ : ∃ o : OpD, o = ⟨2, t, [], 0, rs⟩ := ⟨_, rfl⟩
  obtain ⟨ef, hef⟩ : ∃ ef : Int, failR (opE o) (b3, e3) = (b3, ef) := ⟨(failR (opE o) (b3, e3)).2, Prod.ext (failR_len _ _) rfl⟩
  have eR : opR (b, e) = if ef = 0 then (o, (b3, ef)) else (zOp, (b3, ef)) := by
    unfold opR zeroR guardR mapR bindR
    simp only [q, eB, ← ho, hef]
  have hok : e3 = 0 → dOp.ok o := fun he => by
    rw [ho]
    exact opSh_d ((opBodyR_cd 2 (by decide)).got eB he) (by decide)
  have hno : ¬ e3 = 0 → ef = e3 := fun he => by
    have := hef
    rw [failR_no _ he] at this
    exact (congrArg (fun r : RS => r.2) this).symm
  have gY : ef = 0 → opR (b, e) = (o, (b3, ef)) := fun h => by rw [eR, if_pos h]
  have gN : ¬ ef = 0 → opR (b, e) = (zOp, (b3, ef)) := fun h => by rw [eR, if_neg h]
  have gE : ¬ e3 = 0 → opR (b, e) = (zOp, (b3, e3)) := fun h => by rw [eR, hno h, if_neg h]
  refine mkT 59 [(8, ⟨(.one 0 false (.one 2 false (.alt 1 (.one 3 true (.one 4 true (.one 5 true (.one 6 false (.one 7 true .done))))) (.one 3 true (.alt 1 (.one 4 true (.one 5 true (.one 6 false (.one 7 true .done)))) (.one 4 true (.one 1 true (.one 5 true (.one 6 false (.one 7 true .done)))))))))), [0, 2, 3]⟩)] Tryz.func317 rfl (by kernel_rfl) ?_
  repeat'
    (conv => arg 2; whnf)
    first
    | refine okAsk (by kernel_rfl) ?_
    | refine okBoth ?_ ?_
    | refine okBrT ?_
    | refine okBrF ?_
    | refine okRd 0 (b, e) (b0, e0) (.int .u64 2) (rdNum_s 4) hs (congrArg Prod.snd q).symm (congrArg (fun r : Int × RS => D.int .u64 r.1) q).symm ⟨⟨rfl, rfl⟩, trivial⟩ (Cos.refl _) rfl ?_
    | refine okWrap (w64 (by decide) (by decide)) ?_
    | refine okByts _ rfl ?_
    | refine okAsk (by omega) ?_
    | refine okRd 0 (b0, e0) (b1, e1) (.list 1 (t.map cByte)) bytes64_s h0 (congrArg Prod.snd q1).symm (congrArg (fun r : List UInt8 × RS => D.list 1 (r.1.map cByte)) q1).symm ⟨⟨rfl, rfl⟩, trivial⟩ (Cos.refl _) rfl ?_
    | refine okRd 0 (b1, e1) (b2, e2) (.int .u64 (n : Int)) (rdNum_s 4) h1 (congrArg Prod.snd q2).symm (congrArg (fun r : Int × RS => D.int .u64 r.1) q2).symm ⟨⟨rfl, rfl⟩, trivial⟩ (Cos.refl _) rfl ?_
  conv => arg 2; whnf
  refine okLoop (α := Nat × RS × List (List UInt8)) (fun a => match a.2.2 with
    | [] => ⟨[(21, .int .u64 a.1), (20, .int .u64 (n : Int)), (3, .ptr 2 0), (2, .ptr 1 0), (0, .ptr 0 0)], [.cells 164 [.list 1 (a.2.1.1.map cByte), .int .i64 a.2.1.2, .bool true], .cells 80 [.int .i64 0, .str [], .str [], .int .i64 0, .nils], .cells 80 [.int .i64 2, .str t, .str [], .int .i64 0, .nils]]⟩
    | x :: l => ⟨[(21, .int .u64 a.1), (20, .int .u64 (n : Int)), (3, .ptr 2 0), (2, .ptr 1 0), (0, .ptr 0 0)], [.cells 164 [.list 1 (a.2.1.1.map cByte), .int .i64 a.2.1.2, .bool true], .cells 80 [.int .i64 0, .str [], .str [], .int .i64 0, .nils], .cells 80 [.int .i64 2, .str t, .str [], .int .i64 0, .row 3], .row 69 1 ((x :: l).map cRec)]⟩) (fun a => a.1 ≤ n ∧ a.2.1.1.length ≤ 8388609 ∧ a.2.2.length = a.1 ∧ (rs, (b3, e3)) = (a.2.2 ++ (allR (bytesR 64) (n - a.1) a.2.1).1, (allR (bytesR 64) (n - a.1) a.2.1).2)) (fun a => n - a.1) (0, (b2, e2), []) ⟨Nat.zero_le _, h2, rfl, q3.symm⟩ (Sv.mk' [0, 1, 3] rfl ⟨⟨rfl, rfl⟩, ⟨rfl, rfl⟩, ⟨rfl, rfl⟩, trivial⟩ ⟨rfl, rfl, rfl, rfl, rfl, trivial⟩) ?_
  rintro ⟨i, ⟨bb, ee⟩, out⟩ ⟨hi, hl, ho2, hg⟩
  replace hi : i ≤ n := hi
  replace hl : bb.length ≤ 8388609 := hl
  replace ho2 : out.length = i := ho2
  replace hg : (rs, (b3, e3)) = (out ++ (allR (bytesR 64) (n - i) (bb, ee)).1, (allR (bytesR 64) (n - i) (bb, ee)).2) := hg
  obtain ⟨x, bx, ex, qx, lx⟩ := Rd1.get (bytesR_rd 64) (bb, ee)
  replace lx : bx.length ≤ bb.length := lx
  have hx : bx.length ≤ 8388609 := by omega
  have hnext : i < n → (rs, (b3, e3)) = ((out ++ [x]) ++ (allR (bytesR 64) (n - (i + 1)) (bx, ex)).1, (allR (bytesR 64) (n - (i + 1)) (bx, ex)).2) := fun hlt => by
    have e : n - i = (n - (i + 1)) + 1 := by omega
    rw [e, allR_step qx] at hg
    rw [hg]
    simp
  have hstop : n ≤ i → rs = out ∧ b3 = bb ∧ e3 = ee := fun h => by
    rw [show n - i = 0 by omega] at hg
    have hg : (rs, (b3, e3)) = (out ++ [], (bb, ee)) := hg
    rw [List.append_nil] at hg
    cases hg
    exact ⟨rfl, rfl, rfl⟩
  cases out with
  | nil =>
    conv => arg 2; whnf
    refine okLt (fun hlt => ?_) (fun hge => ?_)
    · replace hlt : i < n := hlt
      repeat'
        (conv => arg 2; whnf)
        first
        | refine okRd 0 (bb, ee) (bx, ex) (.list 1 (x.map cByte)) bytes64_s hl (congrArg Prod.snd qx).symm (congrArg (fun r : List UInt8 × RS => D.list 1 (r.1.map cByte)) qx).symm ⟨⟨rfl, rfl⟩, trivial⟩ (Cos.refl _) rfl ?_
        | refine okBoth ?_ ?_
        | refine okAsk (by kernel_rfl) ?_
        | refine okAsk (by constructor <;> (simp only [List.length_cons, List.length_nil]; decide)) ?_
        | refine okWrap (u64i (by show 0 ≤ (i : Int) + 1; omega) (by show (i : Int) + 1 < _; omega)) ?_
        | refine okAgain (i + 1, (bx, ex), [x]) (Sv.mk' [0, 1, 2, 4] rfl ⟨⟨rfl, rfl⟩, ⟨rfl, rfl⟩, ⟨rfl, rfl⟩, ⟨rfl, rfl⟩, trivial⟩ ⟨rfl, rfl, rfl, rfl, rfl, trivial⟩) ⟨hlt, hx, by show ([x]).length = i + 1; simp at ho2 ⊢; omega, hnext hlt⟩ (by show n - (i + 1) < n - i; omega)
    · obtain ⟨er, eb, ee2⟩ := hstop hge
      subst er eb ee2
      repeat'
        (conv => arg 2; whnf)
        first
        | refine okAsk (by kernel_rfl) ?_
        | refine okBoth ?_ ?_
        | refine okBrT ?_
        | refine okBrF ?_
        | refine okBrZ (fun h => ?_) (fun hz => ?_)
        | refine okBrNZ (fun h => ?_) (fun h => ?_)
        | refine okOut ?_
        | refine okRd 0 (b3, e3) (b3, e3) (.int .i64 e3) rdErr_s h3 rfl rfl ⟨⟨rfl, rfl⟩, trivial⟩ (Cos.refl _) rfl ?_
        | refine okFn (oCheck_s o (hok h)) rfl (Cos.cons (by rw [ho]; exact Cos.mkAgg (Cos.cons (.refl _) (Cos.cons (.refl _) (Cos.cons (.refl _) (Cos.cons (.refl _) (Cos.cons (.nil _) .nil)))))) .nil) ?_
        | refine okRd 0 (b3, e3) (b3, ef) (.tup []) (rdFail_s (opE o)) h3 hef.symm rfl ⟨⟨rfl, rfl⟩, trivial⟩ (Cos.refl _) rfl ?_
        | refine okRd 0 (b3, ef) (b3, ef) (.int .i64 ef) rdErr_s h3 rfl rfl ⟨⟨rfl, rfl⟩, trivial⟩ (Cos.refl _) rfl ?_
        | refine endRd (x := b3) (y := ef) (d := .agg (cOp o)) (.inr rfl) rfl ⟨⟨rfl, rfl⟩, trivial⟩ rfl (by rw [ho]; exact Cos.mkAgg (Cos.cons (.refl _) (Cos.cons (.refl _) (Cos.cons (.refl _) (Cos.cons (.refl _) (Cos.cons (.nil _) .nil)))))) (congrArg Prod.snd (gY h)).symm (congrArg (fun r : OpD × RS => D.agg (cOp r.1)) (gY h)).symm
        | refine endRd (x := b3) (y := ef) (d := .agg (cOp zOp)) (.inr rfl) rfl ⟨⟨rfl, rfl⟩, trivial⟩ rfl (Cos.mkAgg (Cos.cons (.refl _) (Cos.cons (.refl _) (Cos.cons (.refl _) (Cos.cons (.refl _) (Cos.cons (.nil _) .nil)))))) (congrArg Prod.snd (gN h)).symm (congrArg (fun r : OpD × RS => D.agg (cOp r.1)) (gN h)).symm
        | refine endRd (x := b3) (y := e3) (d := .agg (cOp zOp)) (.inr rfl) rfl ⟨⟨rfl, rfl⟩, trivial⟩ rfl (Cos.mkAgg (Cos.cons (.refl _) (Cos.cons (.refl _) (Cos.cons (.refl _) (Cos.cons (.refl _) (Cos.cons (.nil _) .nil)))))) (congrArg Prod.snd (gE h)).symm (congrArg (fun r : OpD × RS => D.agg (cOp r.1)) (gE h)).symm
        | exact absurd h hz
        | fail
  | cons y out =>
    conv => arg 2; whnf
    refine okLt (fun hlt => ?_) (fun hge => ?_)
    · replace hlt : i < n := hlt
      repeat'
        (conv => arg 2; whnf)
        first
        | refine okRd 0 (bb, ee) (bx, ex) (.list 1 (x.map cByte)) bytes64_s hl (congrArg Prod.snd qx).symm (congrArg (fun r : List UInt8 × RS => D.list 1 (r.1.map cByte)) qx).symm ⟨⟨rfl, rfl⟩, trivial⟩ (Cos.refl _) rfl ?_
        | refine okBoth ?_ ?_
        | refine okAsk (by kernel_rfl) ?_
        | refine okAsk (by constructor <;> (simp only [List.length_cons, List.length_nil, List.length_map, maxLen] at ho2 ⊢; omega)) ?_
        | refine okWrap (u64i (by show 0 ≤ (i : Int) + 1; omega) (by show (i : Int) + 1 < _; omega)) ?_
        | refine okAgain (i + 1, (bx, ex), (y :: out) ++ [x]) (Sv.mk' [0, 1, 2, 5] rfl ⟨⟨rfl, rfl⟩, ⟨rfl, rfl⟩, ⟨rfl, rfl⟩, ⟨rfl, by simp; rfl⟩, trivial⟩ ⟨rfl, rfl, rfl, rfl, rfl, trivial⟩) ⟨hlt, hx, by show ((y :: out) ++ [x]).length = i + 1; simp at ho2 ⊢; omega, hnext hlt⟩ (by show n - (i + 1) < n - i; omega)
    · obtain ⟨er, eb, ee2⟩ := hstop hge
      subst er eb ee2
      repeat'
        (conv => arg 2; whnf)
        first
        | refine okAsk (by kernel_rfl) ?_
        | refine okBoth ?_ ?_
        | refine okBrT ?_
        | refine okBrF ?_
        | refine okBrZ (fun h => ?_) (fun hz => ?_)
        | refine okBrNZ (fun h => ?_) (fun h => ?_)
        | refine okOut ?_
        | refine okRd 0 (b3, e3) (b3, e3) (.int .i64 e3) rdErr_s h3 rfl rfl ⟨⟨rfl, rfl⟩, trivial⟩ (Cos.refl _) rfl ?_
        | refine okOwn [3] (oCheck_s o (hok h)) rfl (by rw [ho]; exact Cos.refl _) rfl ?_
        | refine okRd 0 (b3, e3) (b3, ef) (.tup []) (rdFail_s (opE o)) h3 hef.symm rfl ⟨⟨rfl, rfl⟩, trivial⟩ (Cos.refl _) rfl ?_
        | refine okRd 0 (b3, ef) (b3, ef) (.int .i64 ef) rdErr_s h3 rfl rfl ⟨⟨rfl, rfl⟩, trivial⟩ (Cos.refl _) rfl ?_
        | refine endRdF [3] (x := b3) (y := ef) (d := .agg (cOp o)) (.inr rfl) rfl ⟨⟨rfl, rfl⟩, trivial⟩ rfl (by rw [ho]; exact .refl _) (congrArg Prod.snd (gY h)).symm (congrArg (fun r : OpD × RS => D.agg (cOp r.1)) (gY h)).symm
        | refine endRd (x := b3) (y := ef) (d := .agg (cOp zOp)) (.inr rfl) rfl ⟨⟨rfl, rfl⟩, trivial⟩ rfl (Cos.mkAgg (Cos.cons (.refl _) (Cos.cons (.refl _) (Cos.cons (.refl _) (Cos.cons (.refl _) (Cos.cons (.nil _) .nil)))))) (congrArg Prod.snd (gN h)).symm (congrArg (fun r : OpD × RS => D.agg (cOp r.1)) (gN h)).symm
        | refine endRd (x := b3) (y := e3) (d := .agg (cOp zOp)) (.inr rfl) rfl ⟨⟨rfl, rfl⟩, trivial⟩ rfl (Cos.mkAgg (Cos.cons (.refl _) (Cos.cons (.refl _) (Cos.cons (.refl _) (Cos.cons (.refl _) (Cos.cons (.nil _) .nil)))))) (congrArg Prod.snd (gE h)).symm (congrArg (fun r : OpD × RS => D.agg (cOp r.1)) (gE h)).symm
        | exact absurd h hz
        | fail
end Go.Proofs.YteaggenihhaajaaGreat

/- op.Take whole; op.TakeResult; request.Parse; request.TakeBatch, over data (printed by gen_wf.py). -/
namespace Go.Proofs.YteaggenihhaajaaGreat
open Go.RowKit
set_option linter.unusedVariables false
set_option maxRecDepth 20000

theorem oTake_s [Wd] : FnR 317 (.ptr 0 0) [] (fun s => .agg (cOp (opR s).1)) (fun s => (opR s).2) := by
  rintro ⟨b, e⟩ hs
  replace hs : b.length ≤ 8388609 := hs
  obtain ⟨k, b0, e0, q, l⟩ := Rd1.get (nR_rd 4) (b, e)
  replace l : b0.length ≤ b.length := l
  have h0 : b0.length ≤ 8388609 := by omega
  have hk := nR_in q
  have : k = 0 ∨ k = 1 ∨ k = 2 ∨ k = 3 ∨ k = 4 := by omega
  rcases this with rfl | rfl | rfl | rfl | rfl
  · exact oTake0_s b e hs q h0
  · exact oTake1_s b e hs q h0
  · exact oTake2_s b e hs q h0
  · exact oTake3_s b e hs q h0
  · exact oTake4_s b e hs q h0
theorem oTakeResult_s [Wd] : FnR 281 (.ptr 0 0) [] (fun s => .agg (cResult (resultR s).1)) (fun s => (resultR s).2) := by
  rintro ⟨b, e⟩ hs
  replace hs : b.length ≤ 8388609 := hs
  obtain ⟨x, b0, e0, q0, l0⟩ := Rd1.get (nR_rd 65536) (b, e)
  replace l0 : b0.length ≤ b.length := l0
  have h0 : b0.length ≤ 8388609 := by omega
  obtain ⟨y, b1, e1, q1, l1⟩ := Rd1.get (nR_rd MX) (b0, e0)
  replace l1 : b1.length ≤ b0.length := l1
  have h1 : b1.length ≤ 8388609 := by omega
  have n0 := nR_in q0
  have n1 := nR_in q1
  rw [MX_int] at n1
  have eR : resultR (b, e) = if e1 = 0 then (⟨x, y⟩, (b1, e1)) else (zResult, (b1, e1)) := by unfold resultR zeroR mapR pairR bindR; simp only [q0, q1]
  have gY : e1 = 0 → resultR (b, e) = (⟨x, y⟩, (b1, e1)) := fun h => by rw [eR, if_pos h]
  have gN : ¬ e1 = 0 → resultR (b, e) = (zResult, (b1, e1)) := fun h => by rw [eR, if_neg h]
  refine mkS 17 [] Tryz.func281 rfl (by kernel_rfl) ?_
  repeat'
    (conv => arg 2; whnf)
    first
    | refine okAsk (by kernel_rfl) ?_
    | refine okBoth ?_ ?_
    | refine okBrT ?_
    | refine okBrF ?_
    | refine okBr1 (by decide) ?_
    | refine okBr0 (by decide) ?_
    | refine okBrZ (fun h => ?_) (fun hz => ?_)
    | refine okBrNZ (fun h => ?_) (fun h => ?_)
    | refine okWrap (w64 (by decide) (by decide)) ?_
    | refine okWrap (w64 (by omega) (by omega)) ?_
    | refine okRd 0 (b, e) (b0, e0) (.int .u64 x) (rdNum_s 65536) hs (congrArg Prod.snd q0).symm (congrArg (fun r : Int × RS => D.int .u64 r.1) q0).symm ⟨⟨rfl, rfl⟩, trivial⟩ (Cos.refl _) rfl ?_
    | refine okRd 0 (b0, e0) (b1, e1) (.int .u64 y) (rdNum_s MX) h0 (congrArg Prod.snd q1).symm (congrArg (fun r : Int × RS => D.int .u64 r.1) q1).symm ⟨⟨rfl, rfl⟩, trivial⟩ (Cos.refl _) rfl ?_
    | refine okRd 0 (b1, e1) (b1, e1) (.int .i64 e1) rdErr_s h1 rfl rfl ⟨⟨rfl, rfl⟩, trivial⟩ (Cos.refl _) rfl ?_
    | refine endRd (x := b1) (y := e1) (d := .agg (cResult ⟨x, y⟩)) (.inr rfl) rfl ⟨⟨rfl, rfl⟩, trivial⟩ rfl (.refl _) (congrArg Prod.snd (gY h)).symm (congrArg (fun r : ResultD × RS => D.agg (cResult r.1)) (gY h)).symm
    | refine endRd (x := b1) (y := e1) (d := .agg (cResult zResult)) (.inr rfl) rfl ⟨⟨rfl, rfl⟩, trivial⟩ rfl (.refl _) (congrArg Prod.snd (gN h)).symm (congrArg (fun r : ResultD × RS => D.agg (cResult r.1)) (gN h)).symm
    | fail
theorem qParse_s [Wd] (bs : List UInt8) (hl : bs.length ≤ 8388609) : FnP Tryz.prog 269 [.list 1 (bs.map cByte)] (.tup [.agg (cRequest (reqR bs).1), .int .i64 (reqR bs).2]) := by
  obtain ⟨b, hb⟩ : ∃ b, b = bs := ⟨_, rfl⟩
  obtain ⟨e, he⟩ : ∃ e : Int, e = 0 := ⟨_, rfl⟩
  have hs : b.length ≤ 8388609 := by rw [hb]; exact hl
  obtain ⟨c, b0, e0, q0, l0⟩ := Rd1.get (nR_rd 7) (b, e)
  replace l0 : b0.length ≤ b.length := l0
  have h0 : b0.length ≤ 8388609 := by omega
  obtain ⟨t, b1, e1, q1, l1⟩ := Rd1.get (nR_rd MX) (b0, e0)
  replace l1 : b1.length ≤ b0.length := l1
  have h1 : b1.length ≤ 8388609 := by omega
  obtain ⟨o, b2, e2, q2, l2⟩ := Rd1.get opR_rd (b1, e1)
  replace l2 : b2.length ≤ b1.length := l2
  have h2 : b2.length ≤ 8388609 := by omega
  subst hb he
  have n0 := nR_in q0
  have n1 := nR_in q1
  rw [MX_int] at n1
  obtain ⟨d, hd⟩ : ∃ d, d = doneR (b2, e2) := ⟨_, rfl⟩
  have eR : reqR b = if d = 0 then (if t = 0 then (zReq, 80) else (⟨c, t, o⟩, 0)) else (zReq, d) := by unfold reqR reqBodyR mapR pairR bindR; simp only [q0, q1, q2, ← hd]
  have gD : ¬ d = 0 → reqR b = (zReq, d) := fun h => by rw [eR, if_neg h]
  have gT : d = 0 → t = 0 → reqR b = (zReq, 80) := fun h k => by rw [eR, if_pos h, if_pos k]
  have gY : d = 0 → ¬ t = 0 → reqR b = (⟨c, t, o⟩, 0) := fun h k => by rw [eR, if_pos h, if_neg k]
  refine mkS 31 [] Tryz.func269 rfl (by kernel_rfl) ?_
  repeat'
    (conv => arg 2; whnf)
    first
    | refine okAsk (by kernel_rfl) ?_
    | refine okBoth ?_ ?_
    | refine okBrT ?_
    | refine okBrF ?_
    | refine okBr1 (by decide) ?_
    | refine okBr0 (by decide) ?_
    | refine okBrNZ (fun h => ?_) (fun h => ?_)
    | refine okBrZ (fun k => ?_) (fun k => ?_)
    | refine okWrap (w64 (by decide) (by decide)) ?_
    | refine okWrap (w64 (by omega) (by omega)) ?_
    | refine okRd 1 (b, 0) (b0, e0) (.int .u64 c) (rdNum_s 7) hs (congrArg Prod.snd q0).symm (congrArg (fun r : Int × RS => D.int .u64 r.1) q0).symm ⟨⟨rfl, rfl⟩, trivial⟩ (Cos.refl _) rfl ?_
    | refine okRd 1 (b0, e0) (b1, e1) (.int .u64 t) (rdNum_s MX) h0 (congrArg Prod.snd q1).symm (congrArg (fun r : Int × RS => D.int .u64 r.1) q1).symm ⟨⟨rfl, rfl⟩, trivial⟩ (Cos.refl _) rfl ?_
    | refine okRd 1 (b1, e1) (b2, e2) (.agg (cOp o)) oTake_s h1 (congrArg Prod.snd q2).symm (congrArg (fun r : OpD × RS => D.agg (cOp r.1)) q2).symm ⟨⟨rfl, rfl⟩, trivial⟩ (Cos.refl _) rfl ?_
    | refine okCall [] (rdRead_s b (by omega)) (.mk' rfl trivial) (Cos.refl _) rfl ?_
    | refine okRd 1 (b2, e2) (b2, e2) (.int .i64 d) rdDone_s h2 rfl (by rw [hd]) ⟨⟨rfl, rfl⟩, trivial⟩ (Cos.refl _) rfl ?_
    | (rw [gY h k]; refine endFn0 (.inr rfl) rfl (.refl _) rfl)
    | (rw [gT h k]; refine endFn0 (.inr rfl) rfl (Cos.mkTup (Cos.cons (Cos.mkAgg (Cos.cons (.refl _) (Cos.cons (.refl _) (Cos.cons (.refl _) (Cos.cons (.refl _) (Cos.cons (.refl _) (Cos.cons (.refl _) (Cos.cons (.nil _) .nil)))))))) (Cos.cons (.refl _) .nil))) rfl)
    | (rw [gD h]; refine endFn0 (.inr rfl) rfl (Cos.mkTup (Cos.cons (Cos.mkAgg (Cos.cons (.refl _) (Cos.cons (.refl _) (Cos.cons (.refl _) (Cos.cons (.refl _) (Cos.cons (.refl _) (Cos.cons (.refl _) (Cos.cons (.nil _) .nil)))))))) (Cos.cons (.refl _) .nil))) rfl)
    | fail
end Go.Proofs.YteaggenihhaajaaGreat
