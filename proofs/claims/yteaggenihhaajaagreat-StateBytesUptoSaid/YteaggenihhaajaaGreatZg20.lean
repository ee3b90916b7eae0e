/- Lemmas and contracts, part 20. -/
import Derived.Test.YteaggenihhaajaaGreatZg19
/- bullaref10's bytes of certificates, changes, proofs, over data (printed by gen_bg.py). -/
namespace Go.Proofs.YteaggenihhaajaaGreat
open Go.RowKit
set_option linter.unusedVariables false
set_option maxRecDepth 20000
set_option maxHeartbeats 2000000

theorem numsB_l (l : List Int) : (numsB l).length ≤ 10 * l.length := by
  have := flat_len (f := encI) (K := 10) l (fun x _ => encI_l10 x)
  unfold numsB
  omega
theorem xPut_s [Wd] (bs : List UInt8) (l : List Int) (h9 : l.length ≤ 9) (hl : bs.length + 1000 ≤ big) : FnP Tryz.prog 251 [.list 1 (bs.map cByte), .list 1 (l.map cNum)] (.list 1 ((bs ++ numsB l).map cByte)) := by
  have HL : l.length ≤ 4194304 := by omega
  refine mkS 20 [] Tryz.func251 rfl (by kernel_rfl) ?_
  repeat'
    (conv => arg 2; whnf)
    first
    | refine okAsk (by kernel_rfl) ?_
  refine okLoop (α := Nat × List UInt8) (fun a => ⟨[(5, .int .i64 a.1), (1, .list 1 (l.map cNum)), (0, .list 1 (a.2.map cByte))], []⟩) (fun a => a.1 ≤ l.length ∧ a.2 = bs ++ (l.take a.1).flatMap (encI)) (fun a => l.length - a.1) (0, bs) ⟨Nat.zero_le _, by simp⟩ (Sv.mk' [] rfl trivial ⟨rfl, rfl, rfl, trivial⟩) ?_
  rintro ⟨q, b2⟩ ⟨hq, he⟩
  replace hq : q ≤ l.length := hq
  replace he : b2 = bs ++ (l.take q).flatMap (encI) := he
  have p6 := flat_len (f := encI) (K := 10) (l.take q) (fun x _ => encI_l10 x)
  have p7 : (l.take q).length ≤ 9 := by rw [List.length_take]; omega
  have hb2 : b2.length + 200 ≤ big := by rw [he, List.length_append]; omega
  repeat'
    (conv => arg 2; whnf)
    first
    | refine okAsk (by kernel_rfl) ?_
    | refine okBoth ?_ ?_
    | refine okBrT ?_
    | refine okBrF ?_
    | refine okBr (fun h => ?_) (fun h => ?_)
    | refine okNthAt hx ?_
    | refine okNthMap (l := l) (by simp at h; omega) (fun x hx => ?_)
    | refine okWrap (w64 (by simp at h hq; omega) (by have := HL; simp at h hq; omega)) ?_
    | refine okRaw ?_
    | refine okFn (rPutNum_s b2 x (by omega)) rfl (Cos.refl _) ?_
    | refine okAgain (q + 1, b2 ++ encI x) (Sv.mk' [] rfl trivial ⟨rfl, rfl, rfl, trivial⟩) ⟨by have := (List.getElem?_eq_some_iff.1 hx).1; show q + 1 ≤ l.length; omega, by show b2 ++ encI x = _; rw [flat_at hx, ← List.append_assoc, ← he]⟩ (by have := (List.getElem?_eq_some_iff.1 hx).1; show l.length - (q + 1) < l.length - q; omega)
    | refine okOut ?_
    | refine okRet ?_
    | (refine endBy (.inr rfl) rfl ?_; rw [he, show l.take q = l from List.take_of_length_le (by simp at h; omega)]; rfl)
theorem signsZ {l : List SignD} (h : signsE l = 0) : l.length ≤ 13 := by
  have := manyE0 (orE_zero.1 h).1
  omega
theorem certZ {c : CertD} (h : certE c = 0) : signsE c.signs = 0 := by
  unfold certE at h
  exact (orE_zero.1 (orE_zero.1 (orE_zero.1 h).2).2).2
theorem xPutSigns_s [Wd] (bs : List UInt8) (l : List SignD) (h0 : signsE l = 0) (hl : bs.length + 3000 ≤ big) : FnP Tryz.prog 290 [.list 1 (bs.map cByte), .list 2 (l.map cSign)] (.list 1 ((bs ++ signsB l).map cByte)) := by
  have h13 := signsZ h0
  have HL : l.length ≤ 4194304 := by omega
  have n1 := numsB_l [((l.map cSign).length : Int)]
  simp only [List.length_cons, List.length_nil] at n1
  refine mkS 24 [] Tryz.func290 rfl (by kernel_rfl) ?_
  repeat'
    (conv => arg 2; whnf)
    first
    | refine okAsk (by kernel_rfl) ?_
    | refine okBoth ?_ ?_
    | refine okBrT ?_
    | refine okBrF ?_
    | refine okBr (fun h => ?_) (fun h => ?_)
    | refine okFn (xPut_s _ [((l.map cSign).length : Int)] (by simp) (by (try simp only [List.length_append, List.length_nil]); omega)) rfl (Cos.refl _) ?_
  refine okLoop (α := Nat × List UInt8) (fun a => ⟨[(5, .int .i64 a.1), (1, .list 2 (l.map cSign)), (0, .list 1 (a.2.map cByte))], []⟩) (fun a => a.1 ≤ l.length ∧ a.2 = bs ++ numsB [((l.map cSign).length : Int)] ++ (l.take a.1).flatMap (signP)) (fun a => l.length - a.1) (0, bs ++ numsB [((l.map cSign).length : Int)]) ⟨Nat.zero_le _, by simp⟩ (Sv.mk' [] rfl trivial ⟨rfl, rfl, rfl, trivial⟩) ?_
  rintro ⟨q, b2⟩ ⟨hq, he⟩
  replace hq : q ≤ l.length := hq
  replace he : b2 = bs ++ numsB [((l.map cSign).length : Int)] ++ (l.take q).flatMap (signP) := he
  have p6 := flat_len (f := signP) (K := 20) (l.take q) (fun s _ => signP_l20 s)
  have p7 : (l.take q).length ≤ 13 := by rw [List.length_take]; omega
  have hb2 : b2.length + 300 ≤ big := by rw [he]; simp only [List.length_append]; omega
  repeat'
    (conv => arg 2; whnf)
    first
    | refine okAsk (by kernel_rfl) ?_
    | refine okBoth ?_ ?_
    | refine okBrT ?_
    | refine okBrF ?_
    | refine okBr (fun h => ?_) (fun h => ?_)
    | refine okNthAt hx ?_
    | refine okNthMap (l := l) (by simp at h; omega) (fun x hx => ?_)
    | refine okWrap (w64 (by simp at h hq; omega) (by have := HL; simp at h hq; omega)) ?_
    | refine okFn (rPutSign_s b2 x (by omega)) rfl (Cos.refl _) ?_
    | refine okAgain (q + 1, b2 ++ signP x) (Sv.mk' [] rfl trivial ⟨rfl, rfl, rfl, trivial⟩) ⟨by have := (List.getElem?_eq_some_iff.1 hx).1; show q + 1 ≤ l.length; omega, by show b2 ++ signP x = _; rw [flat_at hx, ← List.append_assoc, ← he]⟩ (by have := (List.getElem?_eq_some_iff.1 hx).1; show l.length - (q + 1) < l.length - q; omega)
    | refine okOut ?_
    | refine okRet ?_
    | (refine endBy (.inr rfl) rfl ?_; rw [he, show l.take q = l from List.take_of_length_le (by simp at h; omega)]; simp [signsB, numsB, List.append_assoc]; done)
theorem xPutCert_s [Wd] (bs : List UInt8) (c : CertD) (h0 : certE c = 0) (hl : bs.length + 4000 ≤ big) : FnP Tryz.prog 242 [.list 1 (bs.map cByte), .agg (cCert c)] (.list 1 ((bs ++ certB c).map cByte)) := by
  have n1 := numsB_l [c.seq, c.digest]
  simp only [List.length_cons, List.length_nil] at n1
  refine mkS 15 [(1, ⟨[(0, false), (1, false), (2, false), (3, false), (4, false), (7, false), (8, false), (5, true), (6, true), (9, true), (10, false)], []⟩)] Tryz.func242 rfl (by kernel_rfl) ?_
  repeat'
    (conv => arg 2; whnf)
    first
    | refine okAsk (by kernel_rfl) ?_
    | refine okBoth ?_ ?_
    | refine okBrT ?_
    | refine okBrF ?_
    | refine okBr (fun h => ?_) (fun h => ?_)
    | refine okFn (xPut_s _ [c.seq, c.digest] (by simp) (by (try simp only [List.length_append, List.length_nil]); omega)) rfl (Cos.refl _) ?_
    | refine okFn (xPutSigns_s _ c.signs (certZ h0) (by (try simp only [List.length_append]); omega)) rfl (Cos.refl _) ?_
    | (refine endBy (.inr rfl) rfl ?_; rw [certB, List.append_assoc]; done)
theorem bodyZ {c : ChangeD} (h : bodyE c = 0) : certE c.cert = 0 ∧ c.above.length ≤ 8 ∧ ∀ p ∈ c.above, prepE p = 0 := by
  unfold bodyE at h
  simp only [orE_zero, listE, id] at h
  refine ⟨h.1.2.2.1, ?_, listE_zero.1 h.2.2⟩
  have := h.2.1
  split at this
  · cases this
  · omega
theorem prepZ {p : PreparedD} (h : prepE p = 0) : signsE p.signs = 0 := by
  unfold prepE at h
  simp only [orE_zero] at h
  exact h.2.2.2.2.1
theorem xPutBody_s [Wd] (bs : List UInt8) (c : ChangeD) (hc : dChange.ok c) (h0 : bodyE c = 0) (hl : bs.length + 400000000 ≤ big) : FnP Tryz.prog 246 [.list 1 (bs.map cByte), .agg (cChange c)] (.list 1 ((bs ++ bodyC c).map cByte)) := by
  obtain ⟨z1, z2, z3⟩ := bodyZ h0
  have HL : c.above.length ≤ 4194304 := by omega
  have n1 := numsB_l [c.view, c.src]
  have n2 := certB_len z1
  have n3 := numsB_l [((c.above.map cPrepared).length : Int)]
  simp only [List.length_cons, List.length_nil] at n1 n3
  refine mkS 55 [(1, ⟨[(0, false), (1, false), (2, false), (3, false), (4, false), (7, false), (8, false), (5, true), (6, true), (9, true), (10, false)], []⟩), (7, ⟨[(0, false), (1, false), (2, false), (3, false), (4, false), (5, false), (6, false), (9, false), (10, false), (7, true), (8, true), (11, true), (12, false)], []⟩), (8, ⟨[(0, false), (1, false), (2, false), (4, false), (5, false), (3, true), (6, true), (7, false)], []⟩)] Tryz.func246 rfl (by kernel_rfl) ?_
  repeat'
    (conv => arg 2; whnf)
    first
    | refine okAsk (by kernel_rfl) ?_
    | refine okBoth ?_ ?_
    | refine okBrT ?_
    | refine okBrF ?_
    | refine okBr (fun h => ?_) (fun h => ?_)
    | refine okFn (xPut_s _ [c.view, c.src] (by simp) (by (try simp only [List.length_append, List.length_nil]); omega)) rfl (Cos.refl _) ?_
    | refine okFn (xPut_s _ [((c.above.map cPrepared).length : Int)] (by simp) (by (try simp only [List.length_append]); omega)) rfl (Cos.refl _) ?_
    | refine okFn (xPutCert_s _ c.cert z1 (by (try simp only [List.length_append]); omega)) rfl (Cos.refl _) ?_
  refine okLoop (α := Nat × List UInt8) (fun a => ⟨[(5, .int .i64 a.1), (3, .ptr 0 0), (0, .list 1 (a.2.map cByte))], [.cells 77 (cChange c)]⟩) (fun a => a.1 ≤ c.above.length ∧ a.2 = bs ++ numsB [c.view, c.src] ++ certB c.cert ++ numsB [((c.above.map cPrepared).length : Int)] ++ (c.above.take a.1).flatMap (prepB)) (fun a => c.above.length - a.1) (0, bs ++ numsB [c.view, c.src] ++ certB c.cert ++ numsB [((c.above.map cPrepared).length : Int)]) ⟨Nat.zero_le _, by simp⟩ (Sv.mk' [0] rfl ⟨⟨rfl, rfl⟩, trivial⟩ ⟨rfl, rfl, rfl, trivial⟩) ?_
  rintro ⟨q, b2⟩ ⟨hq, he⟩
  replace hq : q ≤ c.above.length := hq
  replace he : b2 = bs ++ numsB [c.view, c.src] ++ certB c.cert ++ numsB [((c.above.map cPrepared).length : Int)] ++ (c.above.take q).flatMap (prepB) := he
  have p6 := flat_len (f := prepB) (K := 5000) (c.above.take q) (fun p hp => prepB_len (z3 p (List.mem_of_mem_take hp)))
  have p7 : (c.above.take q).length ≤ 8 := by rw [List.length_take]; omega
  have hb2 : b2.length + 300010000 ≤ big := by rw [he]; simp only [List.length_append]; omega
  repeat'
    (conv => arg 2; whnf)
    first
    | refine okAsk (by kernel_rfl) ?_
    | refine okBoth ?_ ?_
    | refine okBrT ?_
    | refine okBrF ?_
    | refine okBr (fun h => ?_) (fun h => ?_)
    | refine okNthAt hx ?_
    | refine okNthMap (l := c.above) (by simp at h; omega) (fun x hx => ?_)
    | refine okWrap (w64 (by simp at h hq; omega) (by have := HL; simp at h hq; omega)) ?_
    | refine okFn (xPut_s b2 [x.view, x.seq, x.digest] (by simp) (by omega)) rfl (Cos.refl _) ?_
    | refine okFn (rPutSign_s _ x.firstS (by have m1 := numsB_l [x.view, x.seq, x.digest]; have m2 := signP_l20 x.firstS; have m3 := signsB_len (prepZ (z3 x (List.mem_of_getElem? hx))); simp only [List.length_cons, List.length_nil] at m1; (try simp only [List.length_append]); omega)) rfl (Cos.refl _) ?_
    | refine okFn (xPutSigns_s _ x.signs (prepZ (z3 x (List.mem_of_getElem? hx))) (by have m1 := numsB_l [x.view, x.seq, x.digest]; have m2 := signP_l20 x.firstS; have m3 := signsB_len (prepZ (z3 x (List.mem_of_getElem? hx))); simp only [List.length_cons, List.length_nil] at m1; (try simp only [List.length_append]); omega)) rfl (Cos.refl _) ?_
    | refine okFn (rPutBatch_s _ x.batch (hc.2.2.2.1.2 x (List.mem_of_getElem? hx)).2.2.2.2.2 (by have m1 := numsB_l [x.view, x.seq, x.digest]; have m2 := signP_l20 x.firstS; have m3 := signsB_len (prepZ (z3 x (List.mem_of_getElem? hx))); simp only [List.length_cons, List.length_nil] at m1; (try simp only [List.length_append]); omega)) rfl (Cos.refl _) ?_
    | refine okAgain (q + 1, b2 ++ numsB [x.view, x.seq, x.digest] ++ signP x.firstS ++ signsB x.signs ++ batchP x.batch) (Sv.mk' [0] rfl ⟨⟨rfl, rfl⟩, trivial⟩ ⟨rfl, rfl, rfl, trivial⟩) ⟨by have := (List.getElem?_eq_some_iff.1 hx).1; show q + 1 ≤ c.above.length; omega, by show b2 ++ numsB [x.view, x.seq, x.digest] ++ signP x.firstS ++ signsB x.signs ++ batchP x.batch = _; rw [flat_at hx, ← List.append_assoc, ← he]; simp [prepB]⟩ (by have := (List.getElem?_eq_some_iff.1 hx).1; show c.above.length - (q + 1) < c.above.length - q; omega)
    | refine okOut ?_
    | refine okRet ?_
    | (refine endBy (.inr rfl) rfl ?_; rw [he, show c.above.take q = c.above from List.take_of_length_le (by simp at h; omega)]; simp [bodyC, numsB, List.append_assoc]; done)
theorem xPutChange_s [Wd] (bs : List UInt8) (c : ChangeD) (hc : dChange.ok c) (h0 : bodyE c = 0) (hl : bs.length + 400100000 ≤ big) (h4 : (bodyC c).length ≤ 41000) : FnP Tryz.prog 199 [.list 1 (bs.map cByte), .agg (cChange c)] (.list 1 ((bs ++ chgB c).map cByte)) := by
  refine mkS 11 [(1, ⟨[(0, false), (1, false), (3, false), (4, false), (2, true), (5, true), (6, false)], []⟩)] Tryz.func199 rfl (by kernel_rfl) ?_
  repeat'
    (conv => arg 2; whnf)
    first
    | refine okAsk (by kernel_rfl) ?_
    | refine okBoth ?_ ?_
    | refine okBrT ?_
    | refine okBrF ?_
    | refine okBr (fun h => ?_) (fun h => ?_)
    | refine okFn (xPutBody_s bs c hc h0 (by omega)) rfl (Cos.refl _) ?_
    | refine okFn (rPutSign_s _ c.sign (by rw [List.length_append]; omega)) rfl (Cos.refl _) ?_
    | (refine endBy (.inr rfl) rfl ?_; rw [chgB, List.append_assoc]; done)
theorem proofZ {p : ProofD} (h : proofE p = 0) : p.topic.length ≤ 64 ∧ p.record.length ≤ 64 ∧ p.headers.length ≤ 64 ∧ p.path.length ≤ 8 ∧ certE p.cert = 0 := by
  unfold proofE at h
  simp only [orE_zero] at h
  obtain ⟨h1, _, h3, h4, _, _, _, _, h9, _, h11⟩ := h
  have n3 := manyE0 h3
  have n4 := manyE0 h4
  have n9 := manyE0 h9
  exact ⟨nameE0 h1, by omega, by omega, by omega, h11⟩
theorem headB_l (x : HeaderD) : (headB x).length ≤ 50 := by
  have := numsB_l [x.seq, x.prev, x.batch, x.root, x.state]
  simp at this
  unfold headB
  omega
theorem xPutProof_s [Wd] (bs : List UInt8) (p : ProofD) (hp : dProof.ok p) (h0 : proofE p = 0) (hl : bs.length + 100000 ≤ big) : FnP Tryz.prog 253 [.list 1 (bs.map cByte), .agg (cProof p)] (.list 1 ((bs ++ proofB p).map cByte)) := by
  obtain ⟨z1, z2, z3, z4, z5⟩ := proofZ h0
  have HL : p.headers.length ≤ 4194304 := by omega
  have n1 := byF_l p.topic (by omega)
  have n2 := byF_l p.record (by omega)
  have n3 := numsB_l [p.offset]
  have n4 := numsB_l [((p.headers.map cHeader).length : Int)]
  have n5 := numsB_l [p.index, p.count, ((p.path.map cNum).length : Int)]
  simp only [List.length_cons, List.length_nil] at n3 n4 n5
  refine mkT 80 [(1, ⟨(.one 0 false (.one 1 false (.one 2 false (.one 5 false (.one 6 false (.alt 3 (.alt 4 (.one 7 true (.one 8 true (.one 9 false .done))) (.one 7 true (.one 4 true (.one 8 true (.one 9 false .done))))) (.one 7 true (.one 3 true (.one 4 true (.one 8 true (.one 9 false .done))))))))))), []⟩), (2, ⟨(.one 0 false (.one 1 false (.one 2 false (.one 4 false (.one 5 false (.one 6 false (.alt 3 (.one 7 true (.one 8 true (.one 9 false .done))) (.one 7 true (.one 3 true (.one 8 true (.one 9 false .done))))))))))), []⟩)] Tryz.func253 rfl (by kernel_rfl) ?_
  repeat'
    (conv => arg 2; whnf)
    first
    | refine okAsk (show p.topic.length ≤ 140737488355328 by omega) ?_
    | refine okAsk (by kernel_rfl) ?_
    | refine okBoth ?_ ?_
    | refine okBrT ?_
    | refine okBrF ?_
    | refine okBr (fun h => ?_) (fun h => ?_)
    | refine okFn (rPutBytes_s _ p.topic (by omega) (by (try simp only [List.length_append]); omega)) rfl (Cos.refl _) ?_
    | refine okFn (rPutBytes_s _ p.record (by omega) (by (try simp only [List.length_append]); omega)) rfl (Cos.refl _) ?_
    | refine okFn (xPut_s _ [p.offset] (by simp) (by (try simp only [List.length_append]); omega)) rfl (Cos.refl _) ?_
    | refine okFn (xPut_s _ [((p.headers.map cHeader).length : Int)] (by simp) (by (try simp only [List.length_append]); omega)) rfl (Cos.refl _) ?_
  all_goals
    refine okLoop (α := Nat × List UInt8) (fun a => ⟨[(5, .int .i64 a.1), (3, .ptr 0 0), (0, .list 1 (a.2.map cByte))], [.cells 120 (cProof p)]⟩) (fun a => a.1 ≤ p.headers.length ∧ a.2 = bs ++ byF p.topic ++ numsB [p.offset] ++ byF p.record ++ numsB [((p.headers.map cHeader).length : Int)] ++ (p.headers.take a.1).flatMap (headB)) (fun a => p.headers.length - a.1) (0, bs ++ byF p.topic ++ numsB [p.offset] ++ byF p.record ++ numsB [((p.headers.map cHeader).length : Int)]) ⟨Nat.zero_le _, by simp⟩ (Sv.mk' [0] rfl ⟨⟨rfl, rfl⟩, trivial⟩ ⟨rfl, rfl, rfl, trivial⟩) ?_
    rintro ⟨q, b2⟩ ⟨hq, he⟩
    replace hq : q ≤ p.headers.length := hq
    replace he : b2 = bs ++ byF p.topic ++ numsB [p.offset] ++ byF p.record ++ numsB [((p.headers.map cHeader).length : Int)] ++ (p.headers.take q).flatMap (headB) := he
    have p6 := flat_len (f := headB) (K := 50) (p.headers.take q) (fun x _ => headB_l x)
    have p7 : (p.headers.take q).length ≤ 64 := by rw [List.length_take]; omega
    have hb2 : b2.length + 90000 ≤ big := by rw [he]; simp only [List.length_append]; omega
    repeat'
      (conv => arg 2; whnf)
      first
      | refine okAsk (by kernel_rfl) ?_
      | refine okBoth ?_ ?_
      | refine okBrT ?_
      | refine okBrF ?_
      | refine okBr (fun h => ?_) (fun h => ?_)
      | refine okNthAt hx ?_
      | refine okNthMap (l := p.headers) (by simp at h; omega) (fun x hx => ?_)
      | refine okWrap (w64 (by simp at h hq; omega) (by have := HL; simp at h hq; omega)) ?_
      | refine okFn (xPut_s b2 [x.seq, x.prev, x.batch, x.root, x.state] (by simp) (by omega)) rfl (Cos.refl _) ?_
      | refine okFn (xPut_s b2 [p.index, p.count, ((p.path.map cNum).length : Int)] (by simp) (by omega)) rfl (Cos.refl _) ?_
      | refine okAgain (q + 1, b2 ++ headB x) (Sv.mk' [0] rfl ⟨⟨rfl, rfl⟩, trivial⟩ ⟨rfl, rfl, rfl, trivial⟩) ⟨by have := (List.getElem?_eq_some_iff.1 hx).1; show q + 1 ≤ p.headers.length; omega, by show b2 ++ headB x = _; rw [flat_at hx, ← List.append_assoc, ← he]⟩ (by have := (List.getElem?_eq_some_iff.1 hx).1; show p.headers.length - (q + 1) < p.headers.length - q; omega)
      | refine okOut ?_
      | refine okRet ?_
    have hE : b2 = bs ++ byF p.topic ++ numsB [p.offset] ++ byF p.record ++ numsB [((p.headers.map cHeader).length : Int)] ++ p.headers.flatMap headB := by rw [he, show p.headers.take q = p.headers from List.take_of_length_le (by simp at h; omega)]
    clear he h hq p6 p7
    generalize hb0 : b2 = b0 at hE hb2 ⊢
    clear hb0 b2
    have HL : p.path.length ≤ 4194304 := by omega
    refine okLoop (α := Nat × List UInt8) (fun a => ⟨[(7, .int .i64 a.1), (3, .ptr 0 0), (0, .list 1 (a.2.map cByte))], [.cells 120 (cProof p)]⟩) (fun a => a.1 ≤ p.path.length ∧ a.2 = b0 ++ numsB [p.index, p.count, ((p.path.map cNum).length : Int)] ++ (p.path.take a.1).flatMap (encI)) (fun a => p.path.length - a.1) (0, b0 ++ numsB [p.index, p.count, ((p.path.map cNum).length : Int)]) ⟨Nat.zero_le _, by simp⟩ (Sv.mk' [0] rfl ⟨⟨rfl, rfl⟩, trivial⟩ ⟨rfl, rfl, rfl, trivial⟩) ?_
    rintro ⟨q, b2⟩ ⟨hq, he⟩
    replace hq : q ≤ p.path.length := hq
    replace he : b2 = b0 ++ numsB [p.index, p.count, ((p.path.map cNum).length : Int)] ++ (p.path.take q).flatMap (encI) := he
    have p6 := flat_len (f := encI) (K := 10) (p.path.take q) (fun x _ => encI_l10 x)
    have p7 : (p.path.take q).length ≤ 8 := by rw [List.length_take]; omega
    have hb3 : b2.length + 80000 ≤ big := by rw [he]; simp only [List.length_append]; omega
    repeat'
      (conv => arg 2; whnf)
      first
      | refine okAsk (by kernel_rfl) ?_
      | refine okBoth ?_ ?_
      | refine okBrT ?_
      | refine okBrF ?_
      | refine okBr (fun h => ?_) (fun h => ?_)
      | refine okNthAt hx ?_
      | refine okNthMap (l := p.path) (by simp at h; omega) (fun x hx => ?_)
      | refine okWrap (w64 (by simp at h hq; omega) (by have := HL; simp at h hq; omega)) ?_
      | refine okFn (xPut_s b2 [x] (by simp) (by omega)) rfl (Cos.refl _) ?_
      | refine okFn (xPutCert_s b2 p.cert z5 (by omega)) rfl (Cos.refl _) ?_
      | refine okAgain (q + 1, b2 ++ numsB [x]) (Sv.mk' [0] rfl ⟨⟨rfl, rfl⟩, trivial⟩ ⟨rfl, rfl, rfl, trivial⟩) ⟨by have := (List.getElem?_eq_some_iff.1 hx).1; show q + 1 ≤ p.path.length; omega, by show b2 ++ numsB [x] = _; rw [flat_at hx, ← List.append_assoc, ← he]; simp [numsB]⟩ (by have := (List.getElem?_eq_some_iff.1 hx).1; show p.path.length - (q + 1) < p.path.length - q; omega)
      | refine okOut ?_
      | refine okRet ?_
      | (refine endBy (.inr rfl) rfl ?_; rw [he, show p.path.take q = p.path from List.take_of_length_le (by simp at h; omega), hE]; simp [proofB, numsB, List.append_assoc]; done)
theorem viewZ {m : MsgD} {c : ChangeD} (h : viewE m c = 0) : bodyE c = 0 := by
  unfold viewE at h
  have h1 := (orE_zero.1 h).1
  rw [chg_sh] at h1
  simp only [listE, id, orE_zero] at h1
  exact h1.1
theorem chgZ {c : ChangeD} (h : chgE c = 0) : bodyE c = 0 := by
  rw [chg_sh] at h
  simp only [listE, id, orE_zero] at h
  exact h.1
theorem xBody1_s [Wd] (m : MsgD) (hm : dMsg.ok m) (h0 : kindE { m with kind := 1 } = 0) : FnP Tryz.prog 203 [.agg (cMsg { m with kind := 1 })] (.tup [.list 1 ((unsB { m with kind := 1 }).map cByte), .bool false]) := by
  have n0 : ([] ++ numsB [(1 : Int)]).length ≤ 10 := numsB_l [1]
  have hx : ∀ z : Nat, z ≤ 10 → z + 300000000 ≤ big := fun z hz => by unfold big; omega
  refine mkT 188 [(6, ⟨(.one 0 false (.one 1 false (.one 2 false (.one 3 false (.one 4 false (.one 5 false (.one 6 false (.one 7 false (.one 8 false (.one 11 false (.one 12 false (.one 9 true (.one 10 true (.one 13 true (.one 14 false (.one 15 false .done)))))))))))))))), []⟩), (11, ⟨(.one 0 false (.one 1 false (.one 2 false (.one 3 false (.one 4 false (.one 5 false (.one 6 false (.one 7 false (.one 8 false (.one 11 false (.one 12 false (.one 9 true (.one 10 true (.one 13 true (.one 14 false (.one 15 false .done)))))))))))))))), []⟩), (27, ⟨(.one 0 false (.one 1 false (.one 2 false (.one 3 false (.one 4 false (.one 7 false (.one 8 false (.one 10 false (.one 11 false (.one 5 true (.one 6 true (.one 9 true (.one 12 true (.one 13 false .done)))))))))))))), []⟩), (32, ⟨(.one 0 false (.one 1 false (.one 2 false (.one 5 false (.one 6 false (.one 8 false (.one 9 false (.one 3 true (.one 4 true (.one 7 true (.one 10 true (.one 11 false (.one 12 false .done))))))))))))), []⟩), (34, ⟨(.one 0 false (.one 1 false (.one 2 false (.one 5 false (.one 6 false (.one 9 false (.one 10 false (.alt 3 (.alt 4 (.alt 7 (.alt 8 (.one 11 true (.one 12 true (.one 13 false (.one 14 false .done)))) (.one 11 true (.one 8 true (.one 12 true (.one 13 false (.one 14 false .done)))))) (.one 11 true (.one 7 true (.one 8 true (.one 12 true (.one 13 false (.one 14 false .done))))))) (.alt 7 (.alt 4 (.alt 8 (.one 11 true (.one 12 true (.one 13 false (.one 14 false .done)))) (.one 11 true (.one 8 true (.one 12 true (.one 13 false (.one 14 false .done)))))) (.one 11 true (.one 4 true (.one 8 true (.one 12 true (.one 13 false (.one 14 false .done))))))) (.one 11 true (.alt 4 (.one 7 true (.one 8 true (.one 12 true (.one 13 false (.one 14 false .done))))) (.one 7 true (.one 4 true (.one 8 true (.one 12 true (.one 13 false (.one 14 false .done)))))))))) (.alt 7 (.alt 3 (.alt 4 (.alt 8 (.one 11 true (.one 12 true (.one 13 false (.one 14 false .done)))) (.one 11 true (.one 8 true (.one 12 true (.one 13 false (.one 14 false .done)))))) (.one 11 true (.one 4 true (.one 8 true (.one 12 true (.one 13 false (.one 14 false .done))))))) (.one 11 true (.one 3 true (.one 4 true (.one 8 true (.one 12 true (.one 13 false (.one 14 false .done)))))))) (.one 11 true (.alt 3 (.alt 4 (.one 7 true (.one 8 true (.one 12 true (.one 13 false (.one 14 false .done))))) (.one 7 true (.one 4 true (.one 8 true (.one 12 true (.one 13 false (.one 14 false .done))))))) (.one 7 true (.one 3 true (.one 4 true (.one 8 true (.one 12 true (.one 13 false (.one 14 false .done)))))))))))))))))), []⟩), (35, ⟨(.one 0 false (.one 1 false (.one 2 false (.one 5 false (.one 6 false (.one 3 true (.one 4 true (.one 7 true (.one 8 false (.one 9 false .done)))))))))), []⟩)] Tryz.func203 rfl (by kernel_rfl) ?_
  repeat'
    (conv => arg 2; whnf)
    first
    | refine okAsk (by kernel_rfl) ?_
    | refine okBoth ?_ ?_
    | refine okBrT ?_
    | refine okBrF ?_
    | refine okBr (fun h => ?_) (fun h => ?_)
    | refine okFn (xPut_s [] [1] (by simp) (by simp [big])) rfl (Cos.cons (Co.nil _) (.refl _)) ?_
    | refine okFn (rPutBatch_s _ m.batch hm.2.2.2.2.2.2.2.2.1 (hx _ n0)) rfl (Cos.refl _) ?_
    | (refine endBy2 (.inr rfl) rfl ?_ rfl; simp [unsB, tailB, numsB]; done)
    | (exfalso; simp_all; done)
theorem xBody2_s [Wd] (m : MsgD) (hm : dMsg.ok m) (h0 : kindE { m with kind := 2 } = 0) : FnP Tryz.prog 203 [.agg (cMsg { m with kind := 2 })] (.tup [.list 1 ((unsB { m with kind := 2 }).map cByte), .bool true]) := by
  have n0 := numsB_l [(2 : Int)]
  have n1 := numsB_l [m.src, m.view, m.seq, m.digest]
  simp only [List.length_cons, List.length_nil] at n0 n1
  have hbig : big = 140737488355328 := rfl
  refine mkT 188 [(6, ⟨(.one 0 false (.one 1 false (.one 2 false (.one 3 false (.one 4 false (.one 5 false (.one 6 false (.one 7 false (.one 8 false (.one 11 false (.one 12 false (.one 9 true (.one 10 true (.one 13 true (.one 14 false (.one 15 false .done)))))))))))))))), []⟩), (11, ⟨(.one 0 false (.one 1 false (.one 2 false (.one 3 false (.one 4 false (.one 5 false (.one 6 false (.one 7 false (.one 8 false (.one 11 false (.one 12 false (.one 9 true (.one 10 true (.one 13 true (.one 14 false (.one 15 false .done)))))))))))))))), []⟩), (27, ⟨(.one 0 false (.one 1 false (.one 2 false (.one 3 false (.one 4 false (.one 7 false (.one 8 false (.one 10 false (.one 11 false (.one 5 true (.one 6 true (.one 9 true (.one 12 true (.one 13 false .done)))))))))))))), []⟩), (32, ⟨(.one 0 false (.one 1 false (.one 2 false (.one 5 false (.one 6 false (.one 8 false (.one 9 false (.one 3 true (.one 4 true (.one 7 true (.one 10 true (.one 11 false (.one 12 false .done))))))))))))), []⟩), (34, ⟨(.one 0 false (.one 1 false (.one 2 false (.one 5 false (.one 6 false (.one 9 false (.one 10 false (.alt 3 (.alt 4 (.alt 7 (.alt 8 (.one 11 true (.one 12 true (.one 13 false (.one 14 false .done)))) (.one 11 true (.one 8 true (.one 12 true (.one 13 false (.one 14 false .done)))))) (.one 11 true (.one 7 true (.one 8 true (.one 12 true (.one 13 false (.one 14 false .done))))))) (.alt 7 (.alt 4 (.alt 8 (.one 11 true (.one 12 true (.one 13 false (.one 14 false .done)))) (.one 11 true (.one 8 true (.one 12 true (.one 13 false (.one 14 false .done)))))) (.one 11 true (.one 4 true (.one 8 true (.one 12 true (.one 13 false (.one 14 false .done))))))) (.one 11 true (.alt 4 (.one 7 true (.one 8 true (.one 12 true (.one 13 false (.one 14 false .done))))) (.one 7 true (.one 4 true (.one 8 true (.one 12 true (.one 13 false (.one 14 false .done)))))))))) (.alt 7 (.alt 3 (.alt 4 (.alt 8 (.one 11 true (.one 12 true (.one 13 false (.one 14 false .done)))) (.one 11 true (.one 8 true (.one 12 true (.one 13 false (.one 14 false .done)))))) (.one 11 true (.one 4 true (.one 8 true (.one 12 true (.one 13 false (.one 14 false .done))))))) (.one 11 true (.one 3 true (.one 4 true (.one 8 true (.one 12 true (.one 13 false (.one 14 false .done)))))))) (.one 11 true (.alt 3 (.alt 4 (.one 7 true (.one 8 true (.one 12 true (.one 13 false (.one 14 false .done))))) (.one 7 true (.one 4 true (.one 8 true (.one 12 true (.one 13 false (.one 14 false .done))))))) (.one 7 true (.one 3 true (.one 4 true (.one 8 true (.one 12 true (.one 13 false (.one 14 false .done)))))))))))))))))), []⟩), (35, ⟨(.one 0 false (.one 1 false (.one 2 false (.one 5 false (.one 6 false (.one 3 true (.one 4 true (.one 7 true (.one 8 false (.one 9 false .done)))))))))), []⟩)] Tryz.func203 rfl (by kernel_rfl) ?_
  repeat'
    (conv => arg 2; whnf)
    first
    | refine okAsk (by kernel_rfl) ?_
    | refine okBoth ?_ ?_
    | refine okBrT ?_
    | refine okBrF ?_
    | refine okBr (fun h => ?_) (fun h => ?_)
    | refine okFn (xPut_s [] [2] (by simp) (by simp [big])) rfl (Cos.cons (Co.nil _) (.refl _)) ?_
    | refine okFn (xPut_s _ [m.src, m.view, m.seq, m.digest] (by simp) (by (try simp only [List.length_append, List.length_nil]); omega)) rfl (Cos.refl _) ?_
    | refine okFn (rPutBatch_s _ m.batch hm.2.2.2.2.2.2.2.2.1 (by (try simp only [List.length_append, List.length_nil]); omega)) rfl (Cos.refl _) ?_
    | (refine endBy2 (.inr rfl) rfl ?_ rfl; simp [unsB, tailB, numsB, List.append_assoc]; done)
    | (exfalso; simp_all; done)
theorem xBody3_s [Wd] (m : MsgD) (hm : dMsg.ok m) (h0 : kindE { m with kind := 3 } = 0) : FnP Tryz.prog 203 [.agg (cMsg { m with kind := 3 })] (.tup [.list 1 ((unsB { m with kind := 3 }).map cByte), .bool true]) := by
  have n0 := numsB_l [(3 : Int)]
  have n1 := numsB_l [m.src, m.view, m.seq, m.digest]
  simp only [List.length_cons, List.length_nil] at n0 n1
  have hbig : big = 140737488355328 := rfl
  refine mkT 188 [(6, ⟨(.one 0 false (.one 1 false (.one 2 false (.one 3 false (.one 4 false (.one 5 false (.one 6 false (.one 7 false (.one 8 false (.one 11 false (.one 12 false (.one 9 true (.one 10 true (.one 13 true (.one 14 false (.one 15 false .done)))))))))))))))), []⟩), (11, ⟨(.one 0 false (.one 1 false (.one 2 false (.one 3 false (.one 4 false (.one 5 false (.one 6 false (.one 7 false (.one 8 false (.one 11 false (.one 12 false (.one 9 true (.one 10 true (.one 13 true (.one 14 false (.one 15 false .done)))))))))))))))), []⟩), (27, ⟨(.one 0 false (.one 1 false (.one 2 false (.one 3 false (.one 4 false (.one 7 false (.one 8 false (.one 10 false (.one 11 false (.one 5 true (.one 6 true (.one 9 true (.one 12 true (.one 13 false .done)))))))))))))), []⟩), (32, ⟨(.one 0 false (.one 1 false (.one 2 false (.one 5 false (.one 6 false (.one 8 false (.one 9 false (.one 3 true (.one 4 true (.one 7 true (.one 10 true (.one 11 false (.one 12 false .done))))))))))))), []⟩), (34, ⟨(.one 0 false (.one 1 false (.one 2 false (.one 5 false (.one 6 false (.one 9 false (.one 10 false (.alt 3 (.alt 4 (.alt 7 (.alt 8 (.one 11 true (.one 12 true (.one 13 false (.one 14 false .done)))) (.one 11 true (.one 8 true (.one 12 true (.one 13 false (.one 14 false .done)))))) (.one 11 true (.one 7 true (.one 8 true (.one 12 true (.one 13 false (.one 14 false .done))))))) (.alt 7 (.alt 4 (.alt 8 (.one 11 true (.one 12 true (.one 13 false (.one 14 false .done)))) (.one 11 true (.one 8 true (.one 12 true (.one 13 false (.one 14 false .done)))))) (.one 11 true (.one 4 true (.one 8 true (.one 12 true (.one 13 false (.one 14 false .done))))))) (.one 11 true (.alt 4 (.one 7 true (.one 8 true (.one 12 true (.one 13 false (.one 14 false .done))))) (.one 7 true (.one 4 true (.one 8 true (.one 12 true (.one 13 false (.one 14 false .done)))))))))) (.alt 7 (.alt 3 (.alt 4 (.alt 8 (.one 11 true (.one 12 true (.one 13 false (.one 14 false .done)))) (.one 11 true (.one 8 true (.one 12 true (.one 13 false (.one 14 false .done)))))) (.one 11 true (.one 4 true (.one 8 true (.one 12 true (.one 13 false (.one 14 false .done))))))) (.one 11 true (.one 3 true (.one 4 true (.one 8 true (.one 12 true (.one 13 false (.one 14 false .done)))))))) (.one 11 true (.alt 3 (.alt 4 (.one 7 true (.one 8 true (.one 12 true (.one 13 false (.one 14 false .done))))) (.one 7 true (.one 4 true (.one 8 true (.one 12 true (.one 13 false (.one 14 false .done))))))) (.one 7 true (.one 3 true (.one 4 true (.one 8 true (.one 12 true (.one 13 false (.one 14 false .done)))))))))))))))))), []⟩), (35, ⟨(.one 0 false (.one 1 false (.one 2 false (.one 5 false (.one 6 false (.one 3 true (.one 4 true (.one 7 true (.one 8 false (.one 9 false .done)))))))))), []⟩)] Tryz.func203 rfl (by kernel_rfl) ?_
  repeat'
    (conv => arg 2; whnf)
    first
    | refine okAsk (by kernel_rfl) ?_
    | refine okBoth ?_ ?_
    | refine okBrT ?_
    | refine okBrF ?_
    | refine okBr (fun h => ?_) (fun h => ?_)
    | refine okFn (xPut_s [] [3] (by simp) (by simp [big])) rfl (Cos.cons (Co.nil _) (.refl _)) ?_
    | refine okFn (xPut_s _ [m.src, m.view, m.seq, m.digest] (by simp) (by (try simp only [List.length_append, List.length_nil]); omega)) rfl (Cos.refl _) ?_
    | (refine endBy2 (.inr rfl) rfl ?_ rfl; simp [unsB, tailB, numsB]; done)
    | (exfalso; simp_all; done)
theorem xBody4_s [Wd] (m : MsgD) (hm : dMsg.ok m) (h0 : kindE { m with kind := 4 } = 0) : FnP Tryz.prog 203 [.agg (cMsg { m with kind := 4 })] (.tup [.list 1 ((unsB { m with kind := 4 }).map cByte), .bool true]) := by
  have n0 := numsB_l [(4 : Int)]
  have n1 := numsB_l [m.src, m.view, m.seq, m.digest]
  simp only [List.length_cons, List.length_nil] at n0 n1
  have hbig : big = 140737488355328 := rfl
  refine mkT 188 [(6, ⟨(.one 0 false (.one 1 false (.one 2 false (.one 3 false (.one 4 false (.one 5 false (.one 6 false (.one 7 false (.one 8 false (.one 11 false (.one 12 false (.one 9 true (.one 10 true (.one 13 true (.one 14 false (.one 15 false .done)))))))))))))))), []⟩), (11, ⟨(.one 0 false (.one 1 false (.one 2 false (.one 3 false (.one 4 false (.one 5 false (.one 6 false (.one 7 false (.one 8 false (.one 11 false (.one 12 false (.one 9 true (.one 10 true (.one 13 true (.one 14 false (.one 15 false .done)))))))))))))))), []⟩), (27, ⟨(.one 0 false (.one 1 false (.one 2 false (.one 3 false (.one 4 false (.one 7 false (.one 8 false (.one 10 false (.one 11 false (.one 5 true (.one 6 true (.one 9 true (.one 12 true (.one 13 false .done)))))))))))))), []⟩), (32, ⟨(.one 0 false (.one 1 false (.one 2 false (.one 5 false (.one 6 false (.one 8 false (.one 9 false (.one 3 true (.one 4 true (.one 7 true (.one 10 true (.one 11 false (.one 12 false .done))))))))))))), []⟩), (34, ⟨(.one 0 false (.one 1 false (.one 2 false (.one 5 false (.one 6 false (.one 9 false (.one 10 false (.alt 3 (.alt 4 (.alt 7 (.alt 8 (.one 11 true (.one 12 true (.one 13 false (.one 14 false .done)))) (.one 11 true (.one 8 true (.one 12 true (.one 13 false (.one 14 false .done)))))) (.one 11 true (.one 7 true (.one 8 true (.one 12 true (.one 13 false (.one 14 false .done))))))) (.alt 7 (.alt 4 (.alt 8 (.one 11 true (.one 12 true (.one 13 false (.one 14 false .done)))) (.one 11 true (.one 8 true (.one 12 true (.one 13 false (.one 14 false .done)))))) (.one 11 true (.one 4 true (.one 8 true (.one 12 true (.one 13 false (.one 14 false .done))))))) (.one 11 true (.alt 4 (.one 7 true (.one 8 true (.one 12 true (.one 13 false (.one 14 false .done))))) (.one 7 true (.one 4 true (.one 8 true (.one 12 true (.one 13 false (.one 14 false .done)))))))))) (.alt 7 (.alt 3 (.alt 4 (.alt 8 (.one 11 true (.one 12 true (.one 13 false (.one 14 false .done)))) (.one 11 true (.one 8 true (.one 12 true (.one 13 false (.one 14 false .done)))))) (.one 11 true (.one 4 true (.one 8 true (.one 12 true (.one 13 false (.one 14 false .done))))))) (.one 11 true (.one 3 true (.one 4 true (.one 8 true (.one 12 true (.one 13 false (.one 14 false .done)))))))) (.one 11 true (.alt 3 (.alt 4 (.one 7 true (.one 8 true (.one 12 true (.one 13 false (.one 14 false .done))))) (.one 7 true (.one 4 true (.one 8 true (.one 12 true (.one 13 false (.one 14 false .done))))))) (.one 7 true (.one 3 true (.one 4 true (.one 8 true (.one 12 true (.one 13 false (.one 14 false .done)))))))))))))))))), []⟩), (35, ⟨(.one 0 false (.one 1 false (.one 2 false (.one 5 false (.one 6 false (.one 3 true (.one 4 true (.one 7 true (.one 8 false (.one 9 false .done)))))))))), []⟩)] Tryz.func203 rfl (by kernel_rfl) ?_
  repeat'
    (conv => arg 2; whnf)
    first
    | refine okAsk (by kernel_rfl) ?_
    | refine okBoth ?_ ?_
    | refine okBrT ?_
    | refine okBrF ?_
    | refine okBr (fun h => ?_) (fun h => ?_)
    | refine okFn (xPut_s [] [4] (by simp) (by simp [big])) rfl (Cos.cons (Co.nil _) (.refl _)) ?_
    | refine okFn (xPut_s _ [m.src, m.view, m.seq, m.digest] (by simp) (by (try simp only [List.length_append, List.length_nil]); omega)) rfl (Cos.refl _) ?_
    | (refine endBy2 (.inr rfl) rfl ?_ rfl; simp [unsB, tailB, numsB]; done)
    | (exfalso; simp_all; done)
theorem xBody5_s [Wd] (m : MsgD) (hm : dMsg.ok m) (h0 : kindE { m with kind := 5 } = 0) : FnP Tryz.prog 203 [.agg (cMsg { m with kind := 5 })] (.tup [.list 1 ((unsB { m with kind := 5 }).map cByte), .bool true]) := by
  have n0 := numsB_l [(5 : Int)]
  have n1 := numsB_l [m.src, m.view, m.client, m.time]
  simp only [List.length_cons, List.length_nil] at n0 n1
  have hbig : big = 140737488355328 := rfl
  have z5 : 0 ≤ m.result.err ∧ m.result.err ≤ 65536 ∧ 0 ≤ m.result.offset ∧ m.result.offset ≤ 9007199254740992 := by
    simp [kindE, orE_zero] at h0
    have a := rangeE0 h0.2.2.2.2.1
    have b := rangeE0 h0.2.2.2.2.2
    exact ⟨a.1, a.2, b.1, b.2⟩
  refine mkT 188 [(6, ⟨(.one 0 false (.one 1 false (.one 2 false (.one 3 false (.one 4 false (.one 5 false (.one 6 false (.one 7 false (.one 8 false (.one 11 false (.one 12 false (.one 9 true (.one 10 true (.one 13 true (.one 14 false (.one 15 false .done)))))))))))))))), []⟩), (11, ⟨(.one 0 false (.one 1 false (.one 2 false (.one 3 false (.one 4 false (.one 5 false (.one 6 false (.one 7 false (.one 8 false (.one 11 false (.one 12 false (.one 9 true (.one 10 true (.one 13 true (.one 14 false (.one 15 false .done)))))))))))))))), []⟩), (27, ⟨(.one 0 false (.one 1 false (.one 2 false (.one 3 false (.one 4 false (.one 7 false (.one 8 false (.one 10 false (.one 11 false (.one 5 true (.one 6 true (.one 9 true (.one 12 true (.one 13 false .done)))))))))))))), []⟩), (32, ⟨(.one 0 false (.one 1 false (.one 2 false (.one 5 false (.one 6 false (.one 8 false (.one 9 false (.one 3 true (.one 4 true (.one 7 true (.one 10 true (.one 11 false (.one 12 false .done))))))))))))), []⟩), (34, ⟨(.one 0 false (.one 1 false (.one 2 false (.one 5 false (.one 6 false (.one 9 false (.one 10 false (.alt 3 (.alt 4 (.alt 7 (.alt 8 (.one 11 true (.one 12 true (.one 13 false (.one 14 false .done)))) (.one 11 true (.one 8 true (.one 12 true (.one 13 false (.one 14 false .done)))))) (.one 11 true (.one 7 true (.one 8 true (.one 12 true (.one 13 false (.one 14 false .done))))))) (.alt 7 (.alt 4 (.alt 8 (.one 11 true (.one 12 true (.one 13 false (.one 14 false .done)))) (.one 11 true (.one 8 true (.one 12 true (.one 13 false (.one 14 false .done)))))) (.one 11 true (.one 4 true (.one 8 true (.one 12 true (.one 13 false (.one 14 false .done))))))) (.one 11 true (.alt 4 (.one 7 true (.one 8 true (.one 12 true (.one 13 false (.one 14 false .done))))) (.one 7 true (.one 4 true (.one 8 true (.one 12 true (.one 13 false (.one 14 false .done)))))))))) (.alt 7 (.alt 3 (.alt 4 (.alt 8 (.one 11 true (.one 12 true (.one 13 false (.one 14 false .done)))) (.one 11 true (.one 8 true (.one 12 true (.one 13 false (.one 14 false .done)))))) (.one 11 true (.one 4 true (.one 8 true (.one 12 true (.one 13 false (.one 14 false .done))))))) (.one 11 true (.one 3 true (.one 4 true (.one 8 true (.one 12 true (.one 13 false (.one 14 false .done)))))))) (.one 11 true (.alt 3 (.alt 4 (.one 7 true (.one 8 true (.one 12 true (.one 13 false (.one 14 false .done))))) (.one 7 true (.one 4 true (.one 8 true (.one 12 true (.one 13 false (.one 14 false .done))))))) (.one 7 true (.one 3 true (.one 4 true (.one 8 true (.one 12 true (.one 13 false (.one 14 false .done)))))))))))))))))), []⟩), (35, ⟨(.one 0 false (.one 1 false (.one 2 false (.one 5 false (.one 6 false (.one 3 true (.one 4 true (.one 7 true (.one 8 false (.one 9 false .done)))))))))), []⟩)] Tryz.func203 rfl (by kernel_rfl) ?_
  repeat'
    (conv => arg 2; whnf)
    first
    | refine okAsk (by kernel_rfl) ?_
    | refine okBoth ?_ ?_
    | refine okBrT ?_
    | refine okBrF ?_
    | refine okBr (fun h => ?_) (fun h => ?_)
    | refine okFn (xPut_s [] [5] (by simp) (by simp [big])) rfl (Cos.cons (Co.nil _) (.refl _)) ?_
    | refine okFn (xPut_s _ [m.src, m.view, m.client, m.time] (by simp) (by (try simp only [List.length_append, List.length_nil]); omega)) rfl (Cos.refl _) ?_
    | refine okFn (rPutResult_s _ m.result ⟨z5.1, by omega⟩ ⟨z5.2.2.1, by omega⟩ (by (try simp only [List.length_append, List.length_nil]); omega)) rfl (Cos.refl _) ?_
    | (refine endBy2 (.inr rfl) rfl ?_ rfl; simp [unsB, tailB, numsB, List.append_assoc]; done)
    | (exfalso; simp_all; done)
theorem xBody6_s [Wd] (m : MsgD) (hm : dMsg.ok m) (h0 : kindE { m with kind := 6 } = 0) : FnP Tryz.prog 203 [.agg (cMsg { m with kind := 6 })] (.tup [.list 1 ((unsB { m with kind := 6 }).map cByte), .bool true]) := by
  have n0 := numsB_l [(6 : Int)]
  have n1 := numsB_l [m.src, m.seq, m.digest]
  simp only [List.length_cons, List.length_nil] at n0 n1
  have hbig : big = 140737488355328 := rfl
  refine mkT 188 [(6, ⟨(.one 0 false (.one 1 false (.one 2 false (.one 3 false (.one 4 false (.one 5 false (.one 6 false (.one 7 false (.one 8 false (.one 11 false (.one 12 false (.one 9 true (.one 10 true (.one 13 true (.one 14 false (.one 15 false .done)))))))))))))))), []⟩), (11, ⟨(.one 0 false (.one 1 false (.one 2 false (.one 3 false (.one 4 false (.one 5 false (.one 6 false (.one 7 false (.one 8 false (.one 11 false (.one 12 false (.one 9 true (.one 10 true (.one 13 true (.one 14 false (.one 15 false .done)))))))))))))))), []⟩), (27, ⟨(.one 0 false (.one 1 false (.one 2 false (.one 3 false (.one 4 false (.one 7 false (.one 8 false (.one 10 false (.one 11 false (.one 5 true (.one 6 true (.one 9 true (.one 12 true (.one 13 false .done)))))))))))))), []⟩), (32, ⟨(.one 0 false (.one 1 false (.one 2 false (.one 5 false (.one 6 false (.one 8 false (.one 9 false (.one 3 true (.one 4 true (.one 7 true (.one 10 true (.one 11 false (.one 12 false .done))))))))))))), []⟩), (34, ⟨(.one 0 false (.one 1 false (.one 2 false (.one 5 false (.one 6 false (.one 9 false (.one 10 false (.alt 3 (.alt 4 (.alt 7 (.alt 8 (.one 11 true (.one 12 true (.one 13 false (.one 14 false .done)))) (.one 11 true (.one 8 true (.one 12 true (.one 13 false (.one 14 false .done)))))) (.one 11 true (.one 7 true (.one 8 true (.one 12 true (.one 13 false (.one 14 false .done))))))) (.alt 7 (.alt 4 (.alt 8 (.one 11 true (.one 12 true (.one 13 false (.one 14 false .done)))) (.one 11 true (.one 8 true (.one 12 true (.one 13 false (.one 14 false .done)))))) (.one 11 true (.one 4 true (.one 8 true (.one 12 true (.one 13 false (.one 14 false .done))))))) (.one 11 true (.alt 4 (.one 7 true (.one 8 true (.one 12 true (.one 13 false (.one 14 false .done))))) (.one 7 true (.one 4 true (.one 8 true (.one 12 true (.one 13 false (.one 14 false .done)))))))))) (.alt 7 (.alt 3 (.alt 4 (.alt 8 (.one 11 true (.one 12 true (.one 13 false (.one 14 false .done)))) (.one 11 true (.one 8 true (.one 12 true (.one 13 false (.one 14 false .done)))))) (.one 11 true (.one 4 true (.one 8 true (.one 12 true (.one 13 false (.one 14 false .done))))))) (.one 11 true (.one 3 true (.one 4 true (.one 8 true (.one 12 true (.one 13 false (.one 14 false .done)))))))) (.one 11 true (.alt 3 (.alt 4 (.one 7 true (.one 8 true (.one 12 true (.one 13 false (.one 14 false .done))))) (.one 7 true (.one 4 true (.one 8 true (.one 12 true (.one 13 false (.one 14 false .done))))))) (.one 7 true (.one 3 true (.one 4 true (.one 8 true (.one 12 true (.one 13 false (.one 14 false .done)))))))))))))))))), []⟩), (35, ⟨(.one 0 false (.one 1 false (.one 2 false (.one 5 false (.one 6 false (.one 3 true (.one 4 true (.one 7 true (.one 8 false (.one 9 false .done)))))))))), []⟩)] Tryz.func203 rfl (by kernel_rfl) ?_
  repeat'
    (conv => arg 2; whnf)
    first
    | refine okAsk (by kernel_rfl) ?_
    | refine okBoth ?_ ?_
    | refine okBrT ?_
    | refine okBrF ?_
    | refine okBr (fun h => ?_) (fun h => ?_)
    | refine okFn (xPut_s [] [6] (by simp) (by simp [big])) rfl (Cos.cons (Co.nil _) (.refl _)) ?_
    | refine okFn (xPut_s _ [m.src, m.seq, m.digest] (by simp) (by (try simp only [List.length_append, List.length_nil]); omega)) rfl (Cos.refl _) ?_
    | (refine endBy2 (.inr rfl) rfl ?_ rfl; simp [unsB, tailB, numsB]; done)
    | (exfalso; simp_all; done)
theorem xBody9_s [Wd] (m : MsgD) (hm : dMsg.ok m) (h0 : kindE { m with kind := 9 } = 0) : FnP Tryz.prog 203 [.agg (cMsg { m with kind := 9 })] (.tup [.list 1 ((unsB { m with kind := 9 }).map cByte), .bool true]) := by
  have n0 := numsB_l [(9 : Int)]
  have n1 := numsB_l [m.src, m.seq]
  simp only [List.length_cons, List.length_nil] at n0 n1
  have hbig : big = 140737488355328 := rfl
  refine mkT 188 [(6, ⟨(.one 0 false (.one 1 false (.one 2 false (.one 3 false (.one 4 false (.one 5 false (.one 6 false (.one 7 false (.one 8 false (.one 11 false (.one 12 false (.one 9 true (.one 10 true (.one 13 true (.one 14 false (.one 15 false .done)))))))))))))))), []⟩), (11, ⟨(.one 0 false (.one 1 false (.one 2 false (.one 3 false (.one 4 false (.one 5 false (.one 6 false (.one 7 false (.one 8 false (.one 11 false (.one 12 false (.one 9 true (.one 10 true (.one 13 true (.one 14 false (.one 15 false .done)))))))))))))))), []⟩), (27, ⟨(.one 0 false (.one 1 false (.one 2 false (.one 3 false (.one 4 false (.one 7 false (.one 8 false (.one 10 false (.one 11 false (.one 5 true (.one 6 true (.one 9 true (.one 12 true (.one 13 false .done)))))))))))))), []⟩), (32, ⟨(.one 0 false (.one 1 false (.one 2 false (.one 5 false (.one 6 false (.one 8 false (.one 9 false (.one 3 true (.one 4 true (.one 7 true (.one 10 true (.one 11 false (.one 12 false .done))))))))))))), []⟩), (34, ⟨(.one 0 false (.one 1 false (.one 2 false (.one 5 false (.one 6 false (.one 9 false (.one 10 false (.alt 3 (.alt 4 (.alt 7 (.alt 8 (.one 11 true (.one 12 true (.one 13 false (.one 14 false .done)))) (.one 11 true (.one 8 true (.one 12 true (.one 13 false (.one 14 false .done)))))) (.one 11 true (.one 7 true (.one 8 true (.one 12 true (.one 13 false (.one 14 false .done))))))) (.alt 7 (.alt 4 (.alt 8 (.one 11 true (.one 12 true (.one 13 false (.one 14 false .done)))) (.one 11 true (.one 8 true (.one 12 true (.one 13 false (.one 14 false .done)))))) (.one 11 true (.one 4 true (.one 8 true (.one 12 true (.one 13 false (.one 14 false .done))))))) (.one 11 true (.alt 4 (.one 7 true (.one 8 true (.one 12 true (.one 13 false (.one 14 false .done))))) (.one 7 true (.one 4 true (.one 8 true (.one 12 true (.one 13 false (.one 14 false .done)))))))))) (.alt 7 (.alt 3 (.alt 4 (.alt 8 (.one 11 true (.one 12 true (.one 13 false (.one 14 false .done)))) (.one 11 true (.one 8 true (.one 12 true (.one 13 false (.one 14 false .done)))))) (.one 11 true (.one 4 true (.one 8 true (.one 12 true (.one 13 false (.one 14 false .done))))))) (.one 11 true (.one 3 true (.one 4 true (.one 8 true (.one 12 true (.one 13 false (.one 14 false .done)))))))) (.one 11 true (.alt 3 (.alt 4 (.one 7 true (.one 8 true (.one 12 true (.one 13 false (.one 14 false .done))))) (.one 7 true (.one 4 true (.one 8 true (.one 12 true (.one 13 false (.one 14 false .done))))))) (.one 7 true (.one 3 true (.one 4 true (.one 8 true (.one 12 true (.one 13 false (.one 14 false .done)))))))))))))))))), []⟩), (35, ⟨(.one 0 false (.one 1 false (.one 2 false (.one 5 false (.one 6 false (.one 3 true (.one 4 true (.one 7 true (.one 8 false (.one 9 false .done)))))))))), []⟩)] Tryz.func203 rfl (by kernel_rfl) ?_
  repeat'
    (conv => arg 2; whnf)
    first
    | refine okAsk (by kernel_rfl) ?_
    | refine okBoth ?_ ?_
    | refine okBrT ?_
    | refine okBrF ?_
    | refine okBr (fun h => ?_) (fun h => ?_)
    | refine okFn (xPut_s [] [9] (by simp) (by simp [big])) rfl (Cos.cons (Co.nil _) (.refl _)) ?_
    | refine okFn (xPut_s _ [m.src, m.seq] (by simp) (by (try simp only [List.length_append, List.length_nil]); omega)) rfl (Cos.refl _) ?_
    | (refine endBy2 (.inr rfl) rfl ?_ rfl; simp [unsB, tailB, numsB]; done)
    | (exfalso; simp_all; done)
theorem xBody10_s [Wd] (m : MsgD) (hm : dMsg.ok m) (h0 : kindE { m with kind := 10 } = 0) : FnP Tryz.prog 203 [.agg (cMsg { m with kind := 10 })] (.tup [.list 1 ((unsB { m with kind := 10 }).map cByte), .bool false]) := by
  have n0 := numsB_l [(10 : Int)]
  have n1 := numsB_l [m.src]
  simp only [List.length_cons, List.length_nil] at n0 n1
  have hbig : big = 140737488355328 := rfl
  have z10 : certE m.cert = 0 ∧ m.state.length ≤ 262144 := by
    simp [kindE, orE_zero] at h0
    have a := manyE0 h0.2.2
    exact ⟨h0.2.1, by omega⟩
  have n2 := certB_len z10.1
  have n3 := byF_l m.state (by omega)
  refine mkT 188 [(6, ⟨(.one 0 false (.one 1 false (.one 2 false (.one 3 false (.one 4 false (.one 5 false (.one 6 false (.one 7 false (.one 8 false (.one 11 false (.one 12 false (.one 9 true (.one 10 true (.one 13 true (.one 14 false (.one 15 false .done)))))))))))))))), []⟩), (11, ⟨(.one 0 false (.one 1 false (.one 2 false (.one 3 false (.one 4 false (.one 5 false (.one 6 false (.one 7 false (.one 8 false (.one 11 false (.one 12 false (.one 9 true (.one 10 true (.one 13 true (.one 14 false (.one 15 false .done)))))))))))))))), []⟩), (27, ⟨(.one 0 false (.one 1 false (.one 2 false (.one 3 false (.one 4 false (.one 7 false (.one 8 false (.one 10 false (.one 11 false (.one 5 true (.one 6 true (.one 9 true (.one 12 true (.one 13 false .done)))))))))))))), []⟩), (32, ⟨(.one 0 false (.one 1 false (.one 2 false (.one 5 false (.one 6 false (.one 8 false (.one 9 false (.one 3 true (.one 4 true (.one 7 true (.one 10 true (.one 11 false (.one 12 false .done))))))))))))), []⟩), (34, ⟨(.one 0 false (.one 1 false (.one 2 false (.one 5 false (.one 6 false (.one 9 false (.one 10 false (.alt 3 (.alt 4 (.alt 7 (.alt 8 (.one 11 true (.one 12 true (.one 13 false (.one 14 false .done)))) (.one 11 true (.one 8 true (.one 12 true (.one 13 false (.one 14 false .done)))))) (.one 11 true (.one 7 true (.one 8 true (.one 12 true (.one 13 false (.one 14 false .done))))))) (.alt 7 (.alt 4 (.alt 8 (.one 11 true (.one 12 true (.one 13 false (.one 14 false .done)))) (.one 11 true (.one 8 true (.one 12 true (.one 13 false (.one 14 false .done)))))) (.one 11 true (.one 4 true (.one 8 true (.one 12 true (.one 13 false (.one 14 false .done))))))) (.one 11 true (.alt 4 (.one 7 true (.one 8 true (.one 12 true (.one 13 false (.one 14 false .done))))) (.one 7 true (.one 4 true (.one 8 true (.one 12 true (.one 13 false (.one 14 false .done)))))))))) (.alt 7 (.alt 3 (.alt 4 (.alt 8 (.one 11 true (.one 12 true (.one 13 false (.one 14 false .done)))) (.one 11 true (.one 8 true (.one 12 true (.one 13 false (.one 14 false .done)))))) (.one 11 true (.one 4 true (.one 8 true (.one 12 true (.one 13 false (.one 14 false .done))))))) (.one 11 true (.one 3 true (.one 4 true (.one 8 true (.one 12 true (.one 13 false (.one 14 false .done)))))))) (.one 11 true (.alt 3 (.alt 4 (.one 7 true (.one 8 true (.one 12 true (.one 13 false (.one 14 false .done))))) (.one 7 true (.one 4 true (.one 8 true (.one 12 true (.one 13 false (.one 14 false .done))))))) (.one 7 true (.one 3 true (.one 4 true (.one 8 true (.one 12 true (.one 13 false (.one 14 false .done)))))))))))))))))), []⟩), (35, ⟨(.one 0 false (.one 1 false (.one 2 false (.one 5 false (.one 6 false (.one 3 true (.one 4 true (.one 7 true (.one 8 false (.one 9 false .done)))))))))), []⟩)] Tryz.func203 rfl (by kernel_rfl) ?_
  repeat'
    (conv => arg 2; whnf)
    first
    | refine okAsk (by kernel_rfl) ?_
    | refine okBoth ?_ ?_
    | refine okBrT ?_
    | refine okBrF ?_
    | refine okBr (fun h => ?_) (fun h => ?_)
    | refine okFn (xPut_s [] [10] (by simp) (by simp [big])) rfl (Cos.cons (Co.nil _) (.refl _)) ?_
    | refine okFn (xPut_s _ [m.src] (by simp) (by (try simp only [List.length_append, List.length_nil]); omega)) rfl (Cos.refl _) ?_
    | refine okFn (xPutCert_s _ m.cert z10.1 (by (try simp only [List.length_append, List.length_nil]); omega)) rfl (Cos.refl _) ?_
    | refine okFn (rPutBytes_s _ m.state (by omega) (by (try simp only [List.length_append, List.length_nil]); omega)) rfl (Cos.refl _) ?_
    | (refine endBy2 (.inr rfl) rfl ?_ rfl; simp [unsB, tailB, numsB, List.append_assoc]; done)
    | (exfalso; simp_all; done)
theorem xBody11_s [Wd] (m : MsgD) (hm : dMsg.ok m) (h0 : kindE { m with kind := 11 } = 0) : FnP Tryz.prog 203 [.agg (cMsg { m with kind := 11 })] (.tup [.list 1 ((unsB { m with kind := 11 }).map cByte), .bool false]) := by
  have n0 := numsB_l [(11 : Int)]
  have n1 := numsB_l [m.client]
  simp only [List.length_cons, List.length_nil] at n0 n1
  have hbig : big = 140737488355328 := rfl
  have z11 : m.topic.length ≤ 64 := by
    simp [kindE, orE_zero] at h0
    exact nameE0 h0.2.1
  have n2 := byF_l m.topic (by omega)
  refine mkT 188 [(6, ⟨(.one 0 false (.one 1 false (.one 2 false (.one 3 false (.one 4 false (.one 5 false (.one 6 false (.one 7 false (.one 8 false (.one 11 false (.one 12 false (.one 9 true (.one 10 true (.one 13 true (.one 14 false (.one 15 false .done)))))))))))))))), []⟩), (11, ⟨(.one 0 false (.one 1 false (.one 2 false (.one 3 false (.one 4 false (.one 5 false (.one 6 false (.one 7 false (.one 8 false (.one 11 false (.one 12 false (.one 9 true (.one 10 true (.one 13 true (.one 14 false (.one 15 false .done)))))))))))))))), []⟩), (27, ⟨(.one 0 false (.one 1 false (.one 2 false (.one 3 false (.one 4 false (.one 7 false (.one 8 false (.one 10 false (.one 11 false (.one 5 true (.one 6 true (.one 9 true (.one 12 true (.one 13 false .done)))))))))))))), []⟩), (32, ⟨(.one 0 false (.one 1 false (.one 2 false (.one 5 false (.one 6 false (.one 8 false (.one 9 false (.one 3 true (.one 4 true (.one 7 true (.one 10 true (.one 11 false (.one 12 false .done))))))))))))), []⟩), (34, ⟨(.one 0 false (.one 1 false (.one 2 false (.one 5 false (.one 6 false (.one 9 false (.one 10 false (.alt 3 (.alt 4 (.alt 7 (.alt 8 (.one 11 true (.one 12 true (.one 13 false (.one 14 false .done)))) (.one 11 true (.one 8 true (.one 12 true (.one 13 false (.one 14 false .done)))))) (.one 11 true (.one 7 true (.one 8 true (.one 12 true (.one 13 false (.one 14 false .done))))))) (.alt 7 (.alt 4 (.alt 8 (.one 11 true (.one 12 true (.one 13 false (.one 14 false .done)))) (.one 11 true (.one 8 true (.one 12 true (.one 13 false (.one 14 false .done)))))) (.one 11 true (.one 4 true (.one 8 true (.one 12 true (.one 13 false (.one 14 false .done))))))) (.one 11 true (.alt 4 (.one 7 true (.one 8 true (.one 12 true (.one 13 false (.one 14 false .done))))) (.one 7 true (.one 4 true (.one 8 true (.one 12 true (.one 13 false (.one 14 false .done)))))))))) (.alt 7 (.alt 3 (.alt 4 (.alt 8 (.one 11 true (.one 12 true (.one 13 false (.one 14 false .done)))) (.one 11 true (.one 8 true (.one 12 true (.one 13 false (.one 14 false .done)))))) (.one 11 true (.one 4 true (.one 8 true (.one 12 true (.one 13 false (.one 14 false .done))))))) (.one 11 true (.one 3 true (.one 4 true (.one 8 true (.one 12 true (.one 13 false (.one 14 false .done)))))))) (.one 11 true (.alt 3 (.alt 4 (.one 7 true (.one 8 true (.one 12 true (.one 13 false (.one 14 false .done))))) (.one 7 true (.one 4 true (.one 8 true (.one 12 true (.one 13 false (.one 14 false .done))))))) (.one 7 true (.one 3 true (.one 4 true (.one 8 true (.one 12 true (.one 13 false (.one 14 false .done)))))))))))))))))), []⟩), (35, ⟨(.one 0 false (.one 1 false (.one 2 false (.one 5 false (.one 6 false (.one 3 true (.one 4 true (.one 7 true (.one 8 false (.one 9 false .done)))))))))), []⟩)] Tryz.func203 rfl (by kernel_rfl) ?_
  repeat'
    (conv => arg 2; whnf)
    first
    | refine okAsk (by kernel_rfl) ?_
    | refine okBoth ?_ ?_
    | refine okBrT ?_
    | refine okBrF ?_
    | refine okBr (fun h => ?_) (fun h => ?_)
    | refine okFn (xPut_s [] [11] (by simp) (by simp [big])) rfl (Cos.cons (Co.nil _) (.refl _)) ?_
    | refine okFn (xPut_s _ [m.client] (by simp) (by (try simp only [List.length_append, List.length_nil]); omega)) rfl (Cos.refl _) ?_
    | refine okFn (rPutBytes_s _ m.topic (by omega) (by (try simp only [List.length_append, List.length_nil]); omega)) rfl (Cos.refl _) ?_
    | refine okFn (xPut_s _ [m.offset] (by simp) (by (try simp only [List.length_append, List.length_nil]); omega)) rfl (Cos.refl _) ?_
    | refine okAsk (show m.topic.length ≤ 140737488355328 by omega) ?_
    | (refine endBy2 (.inr rfl) rfl ?_ rfl; simp [unsB, tailB, numsB, List.append_assoc]; done)
    | (exfalso; simp_all; done)
theorem xBody12_s [Wd] (m : MsgD) (hm : dMsg.ok m) (h0 : kindE { m with kind := 12 } = 0) : FnP Tryz.prog 203 [.agg (cMsg { m with kind := 12 })] (.tup [.list 1 ((unsB { m with kind := 12 }).map cByte), .bool false]) := by
  have n0 := numsB_l [(12 : Int)]
  have n1 := numsB_l [m.src]
  simp only [List.length_cons, List.length_nil] at n0 n1
  have hbig : big = 140737488355328 := rfl
  have z12 : proofE m.proof = 0 := by
    simp [kindE, orE_zero] at h0
    exact h0.2
  refine mkT 188 [(6, ⟨(.one 0 false (.one 1 false (.one 2 false (.one 3 false (.one 4 false (.one 5 false (.one 6 false (.one 7 false (.one 8 false (.one 11 false (.one 12 false (.one 9 true (.one 10 true (.one 13 true (.one 14 false (.one 15 false .done)))))))))))))))), []⟩), (11, ⟨(.one 0 false (.one 1 false (.one 2 false (.one 3 false (.one 4 false (.one 5 false (.one 6 false (.one 7 false (.one 8 false (.one 11 false (.one 12 false (.one 9 true (.one 10 true (.one 13 true (.one 14 false (.one 15 false .done)))))))))))))))), []⟩), (27, ⟨(.one 0 false (.one 1 false (.one 2 false (.one 3 false (.one 4 false (.one 7 false (.one 8 false (.one 10 false (.one 11 false (.one 5 true (.one 6 true (.one 9 true (.one 12 true (.one 13 false .done)))))))))))))), []⟩), (32, ⟨(.one 0 false (.one 1 false (.one 2 false (.one 5 false (.one 6 false (.one 8 false (.one 9 false (.one 3 true (.one 4 true (.one 7 true (.one 10 true (.one 11 false (.one 12 false .done))))))))))))), []⟩), (34, ⟨(.one 0 false (.one 1 false (.one 2 false (.one 5 false (.one 6 false (.one 9 false (.one 10 false (.alt 3 (.alt 4 (.alt 7 (.alt 8 (.one 11 true (.one 12 true (.one 13 false (.one 14 false .done)))) (.one 11 true (.one 8 true (.one 12 true (.one 13 false (.one 14 false .done)))))) (.one 11 true (.one 7 true (.one 8 true (.one 12 true (.one 13 false (.one 14 false .done))))))) (.alt 7 (.alt 4 (.alt 8 (.one 11 true (.one 12 true (.one 13 false (.one 14 false .done)))) (.one 11 true (.one 8 true (.one 12 true (.one 13 false (.one 14 false .done)))))) (.one 11 true (.one 4 true (.one 8 true (.one 12 true (.one 13 false (.one 14 false .done))))))) (.one 11 true (.alt 4 (.one 7 true (.one 8 true (.one 12 true (.one 13 false (.one 14 false .done))))) (.one 7 true (.one 4 true (.one 8 true (.one 12 true (.one 13 false (.one 14 false .done)))))))))) (.alt 7 (.alt 3 (.alt 4 (.alt 8 (.one 11 true (.one 12 true (.one 13 false (.one 14 false .done)))) (.one 11 true (.one 8 true (.one 12 true (.one 13 false (.one 14 false .done)))))) (.one 11 true (.one 4 true (.one 8 true (.one 12 true (.one 13 false (.one 14 false .done))))))) (.one 11 true (.one 3 true (.one 4 true (.one 8 true (.one 12 true (.one 13 false (.one 14 false .done)))))))) (.one 11 true (.alt 3 (.alt 4 (.one 7 true (.one 8 true (.one 12 true (.one 13 false (.one 14 false .done))))) (.one 7 true (.one 4 true (.one 8 true (.one 12 true (.one 13 false (.one 14 false .done))))))) (.one 7 true (.one 3 true (.one 4 true (.one 8 true (.one 12 true (.one 13 false (.one 14 false .done)))))))))))))))))), []⟩), (35, ⟨(.one 0 false (.one 1 false (.one 2 false (.one 5 false (.one 6 false (.one 3 true (.one 4 true (.one 7 true (.one 8 false (.one 9 false .done)))))))))), []⟩)] Tryz.func203 rfl (by kernel_rfl) ?_
  repeat'
    (conv => arg 2; whnf)
    first
    | refine okAsk (by kernel_rfl) ?_
    | refine okBoth ?_ ?_
    | refine okBrT ?_
    | refine okBrF ?_
    | refine okBr (fun h => ?_) (fun h => ?_)
    | refine okFn (xPut_s [] [12] (by simp) (by simp [big])) rfl (Cos.cons (Co.nil _) (.refl _)) ?_
    | refine okFn (xPut_s _ [m.src] (by simp) (by (try simp only [List.length_append, List.length_nil]); omega)) rfl (Cos.refl _) ?_
    | refine okFn (xPutProof_s _ m.proof hm.2.2.2.2.2.2.2.2.2.2.2.2.2.2.2.1 z12 (by (try simp only [List.length_append, List.length_nil]); omega)) rfl (Cos.refl _) ?_
    | (refine endBy2 (.inr rfl) rfl ?_ rfl; simp [unsB, tailB, numsB, List.append_assoc]; done)
    | (exfalso; simp_all; done)
theorem xBody7_s [Wd] (m : MsgD) (hm : dMsg.ok m) (c : ChangeD) (hc : m.changes = [c]) (h0 : kindE { m with kind := 7 } = 0) : FnP Tryz.prog 203 [.agg (cMsg { m with kind := 7 })] (.tup [.list 1 ((unsB { m with kind := 7 }).map cByte), .bool true]) := by
  have hcc : dChange.ok c := hm.2.2.2.2.2.2.2.2.2.2.1.2 c (by show c ∈ m.changes; rw [hc]; simp)
  have hz : bodyE c = 0 := by
    simp [kindE, orE_zero, hc, listE] at h0
    exact viewZ h0.2
  have n0 : ([] ++ numsB [(7 : Int)]).length ≤ 10 := numsB_l [7]
  have hx : ∀ z : Nat, z ≤ 10 → z + 400000000 ≤ big := fun z hz => by unfold big; omega
  refine mkT 188 [(6, ⟨(.one 0 false (.one 1 false (.one 2 false (.one 3 false (.one 4 false (.one 5 false (.one 6 false (.one 7 false (.one 8 false (.one 11 false (.one 12 false (.one 9 true (.one 10 true (.one 13 true (.one 14 false (.one 15 false .done)))))))))))))))), []⟩), (11, ⟨(.one 0 false (.one 1 false (.one 2 false (.one 3 false (.one 4 false (.one 5 false (.one 6 false (.one 7 false (.one 8 false (.one 11 false (.one 12 false (.one 9 true (.one 10 true (.one 13 true (.one 14 false (.one 15 false .done)))))))))))))))), []⟩), (27, ⟨(.one 0 false (.one 1 false (.one 2 false (.one 3 false (.one 4 false (.one 7 false (.one 8 false (.one 10 false (.one 11 false (.one 5 true (.one 6 true (.one 9 true (.one 12 true (.one 13 false .done)))))))))))))), []⟩), (32, ⟨(.one 0 false (.one 1 false (.one 2 false (.one 5 false (.one 6 false (.one 8 false (.one 9 false (.one 3 true (.one 4 true (.one 7 true (.one 10 true (.one 11 false (.one 12 false .done))))))))))))), []⟩), (34, ⟨(.one 0 false (.one 1 false (.one 2 false (.one 5 false (.one 6 false (.one 9 false (.one 10 false (.alt 3 (.alt 4 (.alt 7 (.alt 8 (.one 11 true (.one 12 true (.one 13 false (.one 14 false .done)))) (.one 11 true (.one 8 true (.one 12 true (.one 13 false (.one 14 false .done)))))) (.one 11 true (.one 7 true (.one 8 true (.one 12 true (.one 13 false (.one 14 false .done))))))) (.alt 7 (.alt 4 (.alt 8 (.one 11 true (.one 12 true (.one 13 false (.one 14 false .done)))) (.one 11 true (.one 8 true (.one 12 true (.one 13 false (.one 14 false .done)))))) (.one 11 true (.one 4 true (.one 8 true (.one 12 true (.one 13 false (.one 14 false .done))))))) (.one 11 true (.alt 4 (.one 7 true (.one 8 true (.one 12 true (.one 13 false (.one 14 false .done))))) (.one 7 true (.one 4 true (.one 8 true (.one 12 true (.one 13 false (.one 14 false .done)))))))))) (.alt 7 (.alt 3 (.alt 4 (.alt 8 (.one 11 true (.one 12 true (.one 13 false (.one 14 false .done)))) (.one 11 true (.one 8 true (.one 12 true (.one 13 false (.one 14 false .done)))))) (.one 11 true (.one 4 true (.one 8 true (.one 12 true (.one 13 false (.one 14 false .done))))))) (.one 11 true (.one 3 true (.one 4 true (.one 8 true (.one 12 true (.one 13 false (.one 14 false .done)))))))) (.one 11 true (.alt 3 (.alt 4 (.one 7 true (.one 8 true (.one 12 true (.one 13 false (.one 14 false .done))))) (.one 7 true (.one 4 true (.one 8 true (.one 12 true (.one 13 false (.one 14 false .done))))))) (.one 7 true (.one 3 true (.one 4 true (.one 8 true (.one 12 true (.one 13 false (.one 14 false .done)))))))))))))))))), []⟩), (35, ⟨(.one 0 false (.one 1 false (.one 2 false (.one 5 false (.one 6 false (.one 3 true (.one 4 true (.one 7 true (.one 8 false (.one 9 false .done)))))))))), []⟩)] Tryz.func203 rfl (by kernel_rfl) ?_
  repeat'
    (conv => arg 2; whnf)
    first
    | refine okAsk (by kernel_rfl) ?_
    | refine okBoth ?_ ?_
    | refine okBrT ?_
    | refine okBrF ?_
    | refine okBr (fun h => ?_) (fun h => ?_)
    | refine okFn (xPut_s [] [7] (by simp) (by simp [big])) rfl (Cos.cons (Co.nil _) (.refl _)) ?_
    | refine okNth (cChange c) (by decide) (by simp [hc]) ?_
    | refine okFn (xPutBody_s _ c hcc hz (hx _ n0)) rfl (Cos.refl _) ?_
    | (refine endBy2 (.inr rfl) rfl ?_ rfl; simp [unsB, tailB, numsB, hc]; done)
    | (exfalso; simp_all; done)
end Go.Proofs.YteaggenihhaajaaGreat

/- bullaref10: the body of a new view; Bytes, Unsigned, over data (printed by gen_bh.py). -/
namespace Go.Proofs.YteaggenihhaajaaGreat
open Go.RowKit
set_option linter.unusedVariables false
set_option maxRecDepth 20000

theorem newZ {m : MsgD} (h : newE m = 0) : m.changes.length ≤ 13 ∧ (∀ c ∈ m.changes, chgE c = 0) ∧ m.entries.length ≤ 8 := by
  unfold newE at h
  simp only [orE_zero] at h
  obtain ⟨_, _, h3, h4, h5, _⟩ := h
  have a := manyE0 h3
  have b := manyE0 h5
  exact ⟨by omega, listE_zero.1 h4, by omega⟩
theorem bigZ {z : Nat} (h : z ≤ 1000000) : z + 500000000 ≤ big := by unfold big; omega
theorem xBody8_s [Wd] (m : MsgD) (hm : dMsg.ok m) (h0 : kindE { m with kind := 8 } = 0) : FnP Tryz.prog 203 [.agg (cMsg { m with kind := 8 })] (.tup [.list 1 ((unsB { m with kind := 8 }).map cByte), .bool true]) := by
  have hz : newE { m with kind := 8 } = 0 := by
    simpa [kindE] using h0
  obtain ⟨z1, z2, z3⟩ := newZ hz
  replace z1 : m.changes.length ≤ 13 := z1
  replace z2 : ∀ c ∈ m.changes, chgE c = 0 := z2
  replace z3 : m.entries.length ≤ 8 := z3
  have HL : m.changes.length ≤ 4194304 := by omega
  have n0 : ([] ++ numsB [(8 : Int)]).length ≤ 10 := numsB_l [8]
  have n1 := numsB_l [m.src, m.view, ((m.changes.map cChange).length : Int)]
  have nX : ([] ++ numsB [8] ++ numsB [m.src, m.view, ((m.changes.map cChange).length : Int)]).length ≤ 40 := by
    rw [List.length_append]
    simp only [List.length_cons, List.length_nil] at n1
    omega
  refine mkT 188 [(6, ⟨(.one 0 false (.one 1 false (.one 2 false (.one 3 false (.one 4 false (.one 5 false (.one 6 false (.one 7 false (.one 8 false (.one 11 false (.one 12 false (.one 9 true (.one 10 true (.one 13 true (.one 14 false (.one 15 false .done)))))))))))))))), []⟩), (11, ⟨(.one 0 false (.one 1 false (.one 2 false (.one 3 false (.one 4 false (.one 5 false (.one 6 false (.one 7 false (.one 8 false (.one 11 false (.one 12 false (.one 9 true (.one 10 true (.one 13 true (.one 14 false (.one 15 false .done)))))))))))))))), []⟩), (27, ⟨(.one 0 false (.one 1 false (.one 2 false (.one 3 false (.one 4 false (.one 7 false (.one 8 false (.one 10 false (.one 11 false (.one 5 true (.one 6 true (.one 9 true (.one 12 true (.one 13 false .done)))))))))))))), []⟩), (32, ⟨(.one 0 false (.one 1 false (.one 2 false (.one 5 false (.one 6 false (.one 8 false (.one 9 false (.one 3 true (.one 4 true (.one 7 true (.one 10 true (.one 11 false (.one 12 false .done))))))))))))), []⟩), (34, ⟨(.one 0 false (.one 1 false (.one 2 false (.one 5 false (.one 6 false (.one 9 false (.one 10 false (.alt 3 (.alt 4 (.alt 7 (.alt 8 (.one 11 true (.one 12 true (.one 13 false (.one 14 false .done)))) (.one 11 true (.one 8 true (.one 12 true (.one 13 false (.one 14 false .done)))))) (.one 11 true (.one 7 true (.one 8 true (.one 12 true (.one 13 false (.one 14 false .done))))))) (.alt 7 (.alt 4 (.alt 8 (.one 11 true (.one 12 true (.one 13 false (.one 14 false .done)))) (.one 11 true (.one 8 true (.one 12 true (.one 13 false (.one 14 false .done)))))) (.one 11 true (.one 4 true (.one 8 true (.one 12 true (.one 13 false (.one 14 false .done))))))) (.one 11 true (.alt 4 (.one 7 true (.one 8 true (.one 12 true (.one 13 false (.one 14 false .done))))) (.one 7 true (.one 4 true (.one 8 true (.one 12 true (.one 13 false (.one 14 false .done)))))))))) (.alt 7 (.alt 3 (.alt 4 (.alt 8 (.one 11 true (.one 12 true (.one 13 false (.one 14 false .done)))) (.one 11 true (.one 8 true (.one 12 true (.one 13 false (.one 14 false .done)))))) (.one 11 true (.one 4 true (.one 8 true (.one 12 true (.one 13 false (.one 14 false .done))))))) (.one 11 true (.one 3 true (.one 4 true (.one 8 true (.one 12 true (.one 13 false (.one 14 false .done)))))))) (.one 11 true (.alt 3 (.alt 4 (.one 7 true (.one 8 true (.one 12 true (.one 13 false (.one 14 false .done))))) (.one 7 true (.one 4 true (.one 8 true (.one 12 true (.one 13 false (.one 14 false .done))))))) (.one 7 true (.one 3 true (.one 4 true (.one 8 true (.one 12 true (.one 13 false (.one 14 false .done)))))))))))))))))), []⟩), (35, ⟨(.one 0 false (.one 1 false (.one 2 false (.one 5 false (.one 6 false (.one 3 true (.one 4 true (.one 7 true (.one 8 false (.one 9 false .done)))))))))), []⟩)] Tryz.func203 rfl (by kernel_rfl) ?_
  repeat'
    (conv => arg 2; whnf)
    first
    | refine okAsk (by kernel_rfl) ?_
    | refine okBoth ?_ ?_
    | refine okBrT ?_
    | refine okBrF ?_
    | refine okBr (fun h => ?_) (fun h => ?_)
    | refine okFn (xPut_s [] [8] (by simp) (by simp [big])) rfl (Cos.cons (Co.nil _) (.refl _)) ?_
    | refine okFn (xPut_s _ [m.src, m.view, ((m.changes.map cChange).length : Int)] (by simp) (Nat.le_trans (Nat.add_le_add_left (by decide : 1000 ≤ 500000000) _) (bigZ (Nat.le_trans n0 (by decide))))) rfl (Cos.refl _) ?_
    | (exfalso; simp_all; done)
  refine okLoop (α := Nat × List UInt8) (fun a => ⟨[(5, .int .i64 a.1), (1, .ptr 0 0), (4, .list 1 (a.2.map cByte))], [.cells 122 (cMsg { m with kind := 8 })]⟩) (fun a => a.1 ≤ m.changes.length ∧ a.2 = [] ++ numsB [8] ++ numsB [m.src, m.view, ((m.changes.map cChange).length : Int)] ++ (m.changes.take a.1).flatMap (chgB)) (fun a => m.changes.length - a.1) (0, [] ++ numsB [8] ++ numsB [m.src, m.view, ((m.changes.map cChange).length : Int)]) ⟨Nat.zero_le _, by simp⟩ (Sv.mk' [0] rfl ⟨⟨rfl, rfl⟩, trivial⟩ ⟨rfl, rfl, rfl, trivial⟩) ?_
  rintro ⟨q, b2⟩ ⟨hq, he⟩
  replace hq : q ≤ m.changes.length := hq
  replace he : b2 = [] ++ numsB [8] ++ numsB [m.src, m.view, ((m.changes.map cChange).length : Int)] ++ (m.changes.take q).flatMap (chgB) := he
  have hb2 : b2.length ≤ 540000 := by
    obtain ⟨X0, hX0, hXl⟩ : ∃ z, z = [] ++ numsB [8] ++ numsB [m.src, m.view, ((m.changes.map cChange).length : Int)] ∧ z.length ≤ 40 := ⟨_, rfl, nX⟩
    rw [← hX0] at he
    have p6 := flat_len (f := chgB) (K := 41100) (m.changes.take q) (fun c hc => chgB_len (z2 c (List.mem_of_mem_take hc)))
    have p7 : (m.changes.take q).length ≤ 13 := by rw [List.length_take]; omega
    rw [he, List.length_append]
    omega
  have hbz := bigZ (z := b2.length) (by omega)
  repeat'
    (conv => arg 2; whnf)
    first
    | refine okAsk (by kernel_rfl) ?_
    | refine okBoth ?_ ?_
    | refine okBrT ?_
    | refine okBrF ?_
    | refine okBr (fun h => ?_) (fun h => ?_)
    | refine okNthAt hx ?_
    | refine okNthMap (l := m.changes) (by simp at h; omega) (fun x hx => ?_)
    | refine okWrap (w64 (by simp at h hq; omega) (by have := HL; simp at h hq; omega)) ?_
    | refine okFn (xPutChange_s b2 x (hm.2.2.2.2.2.2.2.2.2.2.1.2 x (List.mem_of_getElem? hx)) (chgZ (z2 x (List.mem_of_getElem? hx))) (by omega) (bodyC_len (z2 x (List.mem_of_getElem? hx)))) rfl (Cos.refl _) ?_
    | refine okFn (xPut_s b2 [((m.entries.map cEntry).length : Int)] (by simp) (by omega)) rfl (Cos.refl _) ?_
    | refine okAgain (q + 1, b2 ++ chgB x) (Sv.mk' [0] rfl ⟨⟨rfl, rfl⟩, trivial⟩ ⟨rfl, rfl, rfl, trivial⟩) ⟨by have := (List.getElem?_eq_some_iff.1 hx).1; show q + 1 ≤ m.changes.length; omega, by show b2 ++ chgB x = _; rw [flat_at hx, ← List.append_assoc, ← he]⟩ (by have := (List.getElem?_eq_some_iff.1 hx).1; show m.changes.length - (q + 1) < m.changes.length - q; omega)
    | refine okOut ?_
    | refine okRet ?_
  have hE : b2 = [] ++ numsB [8] ++ numsB [m.src, m.view, ((m.changes.map cChange).length : Int)] ++ m.changes.flatMap chgB := by rw [he, show m.changes.take q = m.changes from List.take_of_length_le (by simp at h; omega)]
  clear he h hq hbz
  generalize hb0 : b2 = b0 at hE hb2 ⊢
  clear hb0 b2
  have HL : m.entries.length ≤ 4194304 := by omega
  have n2 := numsB_l [((m.entries.map cEntry).length : Int)]
  have nX2 : (b0 ++ numsB [((m.entries.map cEntry).length : Int)]).length ≤ 540010 := by
    rw [List.length_append]
    simp only [List.length_cons, List.length_nil] at n2
    omega
  refine okLoop (α := Nat × List UInt8) (fun a => ⟨[(6, .int .i64 a.1), (1, .ptr 0 0), (4, .list 1 (a.2.map cByte))], [.cells 122 (cMsg { m with kind := 8 })]⟩) (fun a => a.1 ≤ m.entries.length ∧ a.2 = b0 ++ numsB [((m.entries.map cEntry).length : Int)] ++ (m.entries.take a.1).flatMap (entryB)) (fun a => m.entries.length - a.1) (0, b0 ++ numsB [((m.entries.map cEntry).length : Int)]) ⟨Nat.zero_le _, by simp⟩ (Sv.mk' [0] rfl ⟨⟨rfl, rfl⟩, trivial⟩ ⟨rfl, rfl, rfl, trivial⟩) ?_
  rintro ⟨q, b2⟩ ⟨hq, he⟩
  replace hq : q ≤ m.entries.length := hq
  replace he : b2 = b0 ++ numsB [((m.entries.map cEntry).length : Int)] ++ (m.entries.take q).flatMap (entryB) := he
  have hb3 : b2.length ≤ 580000 := by
    obtain ⟨X0, hX0, hXl⟩ : ∃ z, z = b0 ++ numsB [((m.entries.map cEntry).length : Int)] ∧ z.length ≤ 540010 := ⟨_, rfl, nX2⟩
    rw [← hX0] at he
    have p6 := flat_len (f := entryB) (K := 4400) (m.entries.take q) (fun c hc => entryB_len c)
    have p7 : (m.entries.take q).length ≤ 8 := by rw [List.length_take]; omega
    rw [he, List.length_append]
    omega
  have hbz := bigZ (z := b2.length) (by omega)
  repeat'
    (conv => arg 2; whnf)
    first
    | refine okAsk (by kernel_rfl) ?_
    | refine okBoth ?_ ?_
    | refine okBrT ?_
    | refine okBrF ?_
    | refine okBr (fun h => ?_) (fun h => ?_)
    | refine okNthAt hx ?_
    | refine okNthMap (l := m.entries) (by simp at h; omega) (fun x hx => ?_)
    | refine okWrap (w64 (by simp at h hq; omega) (by have := HL; simp at h hq; omega)) ?_
    | refine okFn (xPut_s b2 [x.view, x.seq] (by simp) (by omega)) rfl (Cos.refl _) ?_
    | refine okFn (rPutBatch_s _ x.batch (hm.2.2.2.2.2.2.2.2.2.2.2.1.2 x (List.mem_of_getElem? hx)).2.2.1 (by have m1 := numsB_l [x.view, x.seq]; have m2 := batchP_len x.batch; simp only [List.length_cons, List.length_nil] at m1; (try simp only [List.length_append]); omega)) rfl (Cos.refl _) ?_
    | refine okFn (rPutSign_s _ x.sign (by have m1 := numsB_l [x.view, x.seq]; have m2 := batchP_len x.batch; simp only [List.length_cons, List.length_nil] at m1; (try simp only [List.length_append]); omega)) rfl (Cos.refl _) ?_
    | refine okAgain (q + 1, b2 ++ numsB [x.view, x.seq] ++ batchP x.batch ++ signP x.sign) (Sv.mk' [0] rfl ⟨⟨rfl, rfl⟩, trivial⟩ ⟨rfl, rfl, rfl, trivial⟩) ⟨by have := (List.getElem?_eq_some_iff.1 hx).1; show q + 1 ≤ m.entries.length; omega, by show b2 ++ numsB [x.view, x.seq] ++ batchP x.batch ++ signP x.sign = _; rw [flat_at hx, ← List.append_assoc, ← he]; simp [entryB]⟩ (by have := (List.getElem?_eq_some_iff.1 hx).1; show m.entries.length - (q + 1) < m.entries.length - q; omega)
    | refine okOut ?_
    | refine okRet ?_
    | (refine endBy2 (.inr rfl) rfl ?_ rfl; rw [he, show m.entries.take q = m.entries from List.take_of_length_le (by simp at h; omega), hE]; simp [unsB, tailB, numsB, List.append_assoc]; done)
theorem xBodyM_s [Wd] (m : MsgD) (hm : dMsg.ok m) (h0 : kindE m = 0) : FnP Tryz.prog 203 [.agg (cMsg m)] (.tup [.list 1 ((unsB m).map cByte), .bool (signedK m.kind || (m.kind == 7))]) := by
  have hk := kind_range h0
  by_cases k1 : m.kind = 1
  · have h := xBody1_s m hm (by rw [msgKind k1]; exact h0); rw [msgKind k1] at h; rw [k1]; exact h
  by_cases k2 : m.kind = 2
  · have h := xBody2_s m hm (by rw [msgKind k2]; exact h0); rw [msgKind k2] at h; rw [k2]; exact h
  by_cases k3 : m.kind = 3
  · have h := xBody3_s m hm (by rw [msgKind k3]; exact h0); rw [msgKind k3] at h; rw [k3]; exact h
  by_cases k4 : m.kind = 4
  · have h := xBody4_s m hm (by rw [msgKind k4]; exact h0); rw [msgKind k4] at h; rw [k4]; exact h
  by_cases k5 : m.kind = 5
  · have h := xBody5_s m hm (by rw [msgKind k5]; exact h0); rw [msgKind k5] at h; rw [k5]; exact h
  by_cases k6 : m.kind = 6
  · have h := xBody6_s m hm (by rw [msgKind k6]; exact h0); rw [msgKind k6] at h; rw [k6]; exact h
  by_cases k7 : m.kind = 7
  · have hc : m.changes.length = 1 := by
      have h := h0
      rw [← msgKind k7] at h
      simp [kindE, orE_zero] at h
      have := rangeE0 h.1
      omega
    obtain ⟨c, hc⟩ := one_of hc
    have h := xBody7_s m hm c hc (by rw [msgKind k7]; exact h0); rw [msgKind k7] at h; rw [k7]; exact h
  by_cases k8 : m.kind = 8
  · have h := xBody8_s m hm (by rw [msgKind k8]; exact h0); rw [msgKind k8] at h; rw [k8]; exact h
  by_cases k9 : m.kind = 9
  · have h := xBody9_s m hm (by rw [msgKind k9]; exact h0); rw [msgKind k9] at h; rw [k9]; exact h
  by_cases k10 : m.kind = 10
  · have h := xBody10_s m hm (by rw [msgKind k10]; exact h0); rw [msgKind k10] at h; rw [k10]; exact h
  by_cases k11 : m.kind = 11
  · have h := xBody11_s m hm (by rw [msgKind k11]; exact h0); rw [msgKind k11] at h; rw [k11]; exact h
  by_cases k12 : m.kind = 12
  · have h := xBody12_s m hm (by rw [msgKind k12]; exact h0); rw [msgKind k12] at h; rw [k12]; exact h
  omega
end Go.Proofs.YteaggenihhaajaaGreat

/- bullaref10: Bytes, Unsigned, over data (printed by gen_bi.py). -/
namespace Go.Proofs.YteaggenihhaajaaGreat
open Go.RowKit
set_option linter.unusedVariables false
set_option maxRecDepth 20000

theorem xShortY_s [Wd] (bs : List UInt8) (hb : ¬ 262144 < bs.length) : FnP Tryz.prog 198 [.list 1 (bs.map cByte), .int .i64 0] (.tup [.list 1 (bs.map cByte), .int .i64 0]) := by
  refine mkS 13 [] Tryz.func198 rfl (by kernel_rfl) ?_
  repeat'
    (conv => arg 2; whnf)
    first
    | refine okAsk (by kernel_rfl) ?_
    | refine okBoth ?_ ?_
    | refine okBrT ?_
    | refine okBrF ?_
    | refine okBr (fun h => ?_) (fun h => ?_)
    | refine endFn0 (.inr rfl) rfl (.refl _) rfl
    | (exfalso; simp at h; omega)
    | (exfalso; simp_all; done)
theorem xShortN_s [Wd] (bs : List UInt8) (hb : 262144 < bs.length) : FnP Tryz.prog 198 [.list 1 (bs.map cByte), .int .i64 0] (.tup [.nils, .int .i64 3]) := by
  refine mkS 13 [] Tryz.func198 rfl (by kernel_rfl) ?_
  repeat'
    (conv => arg 2; whnf)
    first
    | refine okAsk (by kernel_rfl) ?_
    | refine okBoth ?_ ?_
    | refine okBrT ?_
    | refine okBrF ?_
    | refine okBr (fun h => ?_) (fun h => ?_)
    | refine endFn0 (.inr rfl) rfl (.refl _) rfl
    | (exfalso; simp at h; omega)
    | (exfalso; simp_all; done)
theorem xBytes0_s [Wd] (m : MsgD) (hm : dMsg.ok m) (h0 : ¬ checkE m = 0) : FnP Tryz.prog 122 [.agg (cMsg m)] (.tup [.nils, .int .i64 (checkE m)]) := by
  refine mkS 36 [] Tryz.func122 rfl (by kernel_rfl) ?_
  repeat'
    (conv => arg 2; whnf)
    first
    | refine okAsk (by kernel_rfl) ?_
    | refine okBoth ?_ ?_
    | refine okBrT ?_
    | refine okBrF ?_
    | refine okBr (fun h => ?_) (fun h => ?_)
    | refine okFn (xCheck_s m hm) rfl (Cos.refl _) ?_
    | refine endFn0 (.inr rfl) rfl (.refl _) rfl
    | (exfalso; simp [h0] at h; done)
    | (exfalso; simp_all; done)
theorem xBytes7_s [Wd] (m : MsgD) (hm : dMsg.ok m) (h0 : checkE m = 0) (hk0 : kindE m = 0) (c : ChangeD) (hc : m.changes = [c]) (h7 : (m.kind == 7) = true) (hb : ¬ 262144 < (unsB m ++ signP c.sign).length) : FnP Tryz.prog 122 [.agg (cMsg m)] (.tup [.list 1 ((unsB m ++ signP c.sign).map cByte), .int .i64 0]) := by
  have hl : (unsB m).length + 200 ≤ big := by have := unsB_len hk0; unfold big; omega
  refine mkS 36 [] Tryz.func122 rfl (by kernel_rfl) ?_
  repeat'
    (conv => arg 2; whnf)
    first
    | refine okAsk (by kernel_rfl) ?_
    | refine okBoth ?_ ?_
    | refine okBrT ?_
    | refine okBrF ?_
    | refine okBr (fun h => ?_) (fun h => ?_)
    | refine okFn (xCheck_s m hm) rfl (Cos.refl _) ?_
    | refine okFn (xBodyM_s m hm hk0) rfl (Cos.refl _) ?_
    | refine okNth (cChange c) (by decide) (by simp [hc]) ?_
    | refine okFn (rPutSign_s _ c.sign hl) rfl (Cos.refl _) ?_
    | refine okFn (xShortY_s _ hb) rfl (Cos.refl _) ?_
    | refine endFn0 (.inr rfl) rfl (.refl _) rfl
    | (exfalso; simp_all; done)
theorem xBytesS_s [Wd] (m : MsgD) (hm : dMsg.ok m) (h0 : checkE m = 0) (hk0 : kindE m = 0) (h7 : (m.kind == 7) = false) (hs : signedK m.kind = true) (hb : ¬ 262144 < (unsB m ++ signP m.sign).length) : FnP Tryz.prog 122 [.agg (cMsg m)] (.tup [.list 1 ((unsB m ++ signP m.sign).map cByte), .int .i64 0]) := by
  have hl : (unsB m).length + 200 ≤ big := by have := unsB_len hk0; unfold big; omega
  refine mkS 36 [] Tryz.func122 rfl (by kernel_rfl) ?_
  repeat'
    (conv => arg 2; whnf)
    first
    | refine okAsk (by kernel_rfl) ?_
    | refine okBoth ?_ ?_
    | refine okBrT ?_
    | refine okBrF ?_
    | refine okBr (fun h => ?_) (fun h => ?_)
    | refine okFn (xCheck_s m hm) rfl (Cos.refl _) ?_
    | refine okFn (xBodyM_s m hm hk0) rfl (Cos.refl _) ?_
    | refine okFn (rPutSign_s _ m.sign hl) rfl (Cos.refl _) ?_
    | refine okFn (xShortY_s _ hb) rfl (Cos.refl _) ?_
    | refine endFn0 (.inr rfl) rfl (.refl _) rfl
    | (exfalso; simp_all; done)
theorem xBytesF_s [Wd] (m : MsgD) (hm : dMsg.ok m) (h0 : checkE m = 0) (hk0 : kindE m = 0) (h7 : (m.kind == 7) = false) (hs : signedK m.kind = false) (hb : ¬ 262144 < (unsB m).length) : FnP Tryz.prog 122 [.agg (cMsg m)] (.tup [.list 1 ((unsB m).map cByte), .int .i64 0]) := by
  have hl : (unsB m).length + 200 ≤ big := by have := unsB_len hk0; unfold big; omega
  refine mkS 36 [] Tryz.func122 rfl (by kernel_rfl) ?_
  repeat'
    (conv => arg 2; whnf)
    first
    | refine okAsk (by kernel_rfl) ?_
    | refine okBoth ?_ ?_
    | refine okBrT ?_
    | refine okBrF ?_
    | refine okBr (fun h => ?_) (fun h => ?_)
    | refine okFn (xCheck_s m hm) rfl (Cos.refl _) ?_
    | refine okFn (xBodyM_s m hm hk0) rfl (Cos.refl _) ?_
    | refine okFn (xShortY_s _ hb) rfl (Cos.refl _) ?_
    | refine endFn0 (.inr rfl) rfl (.refl _) rfl
    | (exfalso; simp_all; done)
theorem xBytes7L_s [Wd] (m : MsgD) (hm : dMsg.ok m) (h0 : checkE m = 0) (hk0 : kindE m = 0) (c : ChangeD) (hc : m.changes = [c]) (h7 : (m.kind == 7) = true) (hb : 262144 < (unsB m ++ signP c.sign).length) : FnP Tryz.prog 122 [.agg (cMsg m)] (.tup [.nils, .int .i64 3]) := by
  have hl : (unsB m).length + 200 ≤ big := by have := unsB_len hk0; unfold big; omega
  refine mkS 36 [] Tryz.func122 rfl (by kernel_rfl) ?_
  repeat'
    (conv => arg 2; whnf)
    first
    | refine okAsk (by kernel_rfl) ?_
    | refine okBoth ?_ ?_
    | refine okBrT ?_
    | refine okBrF ?_
    | refine okBr (fun h => ?_) (fun h => ?_)
    | refine okFn (xCheck_s m hm) rfl (Cos.refl _) ?_
    | refine okFn (xBodyM_s m hm hk0) rfl (Cos.refl _) ?_
    | refine okNth (cChange c) (by decide) (by simp [hc]) ?_
    | refine okFn (rPutSign_s _ c.sign hl) rfl (Cos.refl _) ?_
    | refine okFn (xShortN_s _ hb) rfl (Cos.refl _) ?_
    | refine endFn0 (.inr rfl) rfl (.refl _) rfl
    | (exfalso; simp_all; done)
theorem xBytesSL_s [Wd] (m : MsgD) (hm : dMsg.ok m) (h0 : checkE m = 0) (hk0 : kindE m = 0) (h7 : (m.kind == 7) = false) (hs : signedK m.kind = true) (hb : 262144 < (unsB m ++ signP m.sign).length) : FnP Tryz.prog 122 [.agg (cMsg m)] (.tup [.nils, .int .i64 3]) := by
  have hl : (unsB m).length + 200 ≤ big := by have := unsB_len hk0; unfold big; omega
  refine mkS 36 [] Tryz.func122 rfl (by kernel_rfl) ?_
  repeat'
    (conv => arg 2; whnf)
    first
    | refine okAsk (by kernel_rfl) ?_
    | refine okBoth ?_ ?_
    | refine okBrT ?_
    | refine okBrF ?_
    | refine okBr (fun h => ?_) (fun h => ?_)
    | refine okFn (xCheck_s m hm) rfl (Cos.refl _) ?_
    | refine okFn (xBodyM_s m hm hk0) rfl (Cos.refl _) ?_
    | refine okFn (rPutSign_s _ m.sign hl) rfl (Cos.refl _) ?_
    | refine okFn (xShortN_s _ hb) rfl (Cos.refl _) ?_
    | refine endFn0 (.inr rfl) rfl (.refl _) rfl
    | (exfalso; simp_all; done)
theorem xBytesFL_s [Wd] (m : MsgD) (hm : dMsg.ok m) (h0 : checkE m = 0) (hk0 : kindE m = 0) (h7 : (m.kind == 7) = false) (hs : signedK m.kind = false) (hb : 262144 < (unsB m).length) : FnP Tryz.prog 122 [.agg (cMsg m)] (.tup [.nils, .int .i64 3]) := by
  have hl : (unsB m).length + 200 ≤ big := by have := unsB_len hk0; unfold big; omega
  refine mkS 36 [] Tryz.func122 rfl (by kernel_rfl) ?_
  repeat'
    (conv => arg 2; whnf)
    first
    | refine okAsk (by kernel_rfl) ?_
    | refine okBoth ?_ ?_
    | refine okBrT ?_
    | refine okBrF ?_
    | refine okBr (fun h => ?_) (fun h => ?_)
    | refine okFn (xCheck_s m hm) rfl (Cos.refl _) ?_
    | refine okFn (xBodyM_s m hm hk0) rfl (Cos.refl _) ?_
    | refine okFn (xShortN_s _ hb) rfl (Cos.refl _) ?_
    | refine endFn0 (.inr rfl) rfl (.refl _) rfl
    | (exfalso; simp_all; done)
/-- bullaref10.Bytes -/
noncomputable def bytesX (m : MsgD) : D := if bytesE m = 0 then .tup [.list 1 ((fullB m).map cByte), .int .i64 0] else .tup [.nils, .int .i64 (bytesE m)]
theorem xBytes_s [Wd] (m : MsgD) (hm : dMsg.ok m) : FnP Tryz.prog 122 [.agg (cMsg m)] (bytesX m) := by
  unfold bytesX bytesE
  by_cases h0 : checkE m = 0
  · have hk0 := msgE_kind (checkE_msg h0)
    cases h7 : m.kind == 7 with
    | true =>
      have k7 : m.kind = 7 := by simpa using h7
      have hc : m.changes.length = 1 := by
        have h := hk0
        rw [← msgKind k7] at h
        simp [kindE, orE_zero] at h
        have := rangeE0 h.1
        omega
      obtain ⟨c, hc⟩ := one_of hc
      have ef : fullB m = unsB m ++ signP c.sign := by unfold fullB; rw [if_pos k7, hc]
      rw [ef]
      by_cases hb : 262144 < (unsB m ++ signP c.sign).length
      · rw [if_pos h0, if_pos hb, if_neg (by decide)]; exact xBytes7L_s m hm h0 hk0 c hc h7 hb
      · rw [if_pos h0, if_neg hb, if_pos rfl]; exact xBytes7_s m hm h0 hk0 c hc h7 hb
    | false =>
      have k7 : ¬ m.kind = 7 := by simpa using h7
      cases hs : signedK m.kind with
      | true =>
        have ef : fullB m = unsB m ++ signP m.sign := by unfold fullB; rw [if_neg k7, if_pos hs]
        rw [ef]
        by_cases hb : 262144 < (unsB m ++ signP m.sign).length
        · rw [if_pos h0, if_pos hb, if_neg (by decide)]; exact xBytesSL_s m hm h0 hk0 h7 hs hb
        · rw [if_pos h0, if_neg hb, if_pos rfl]; exact xBytesS_s m hm h0 hk0 h7 hs hb
      | false =>
        have ef : fullB m = unsB m := by unfold fullB; rw [if_neg k7, if_neg (by rw [hs]; simp), List.append_nil]
        rw [ef]
        by_cases hb : 262144 < (unsB m).length
        · rw [if_pos h0, if_pos hb, if_neg (by decide)]; exact xBytesFL_s m hm h0 hk0 h7 hs hb
        · rw [if_pos h0, if_neg hb, if_pos rfl]; exact xBytesF_s m hm h0 hk0 h7 hs hb
  · rw [if_neg h0, if_neg h0]; exact xBytes0_s m hm h0
theorem xBytesY_s [Wd] (m : MsgD) (hm : dMsg.ok m) (h : bytesE m = 0) : FnP Tryz.prog 122 [.agg (cMsg m)] (.tup [.list 1 ((fullB m).map cByte), .int .i64 0]) := by
  have := xBytes_s m hm
  unfold bytesX at this
  rwa [if_pos h] at this
theorem xBytesN_s [Wd] (m : MsgD) (hm : dMsg.ok m) (h : ¬ bytesE m = 0) : FnP Tryz.prog 122 [.agg (cMsg m)] (.tup [.nils, .int .i64 (bytesE m)]) := by
  have := xBytes_s m hm
  unfold bytesX at this
  rwa [if_neg h] at this
end Go.Proofs.YteaggenihhaajaaGreat

