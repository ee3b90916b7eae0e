/- Lemmas and contracts, part Zb15.2. -/
import Derived.Test.YtbbcepmhkocgbaaGreatDoorZb15
import Derived.Deep.Light
import Derived.Lib.ConvBytes
import Derived.Deep.RegionHeld3
/- The writer of package message over changes and proofs (printed by gen_ah.py). -/
namespace Go.Proofs.YtbbcepmhkocgbaaGreatDoor
open Go.RowKit
set_option linter.unusedVariables false
set_option maxRecDepth 20000

theorem fm_le {α : Type} (f : α → List UInt8) (l : List α) (q : Nat) : ((l.take q).flatMap f).length ≤ (l.flatMap f).length := by
  conv => rhs; rw [← List.take_append_drop q l]
  simp only [List.flatMap_append, List.length_append]; omega
theorem fm_at {α : Type} (f : α → List UInt8) {l : List α} {q : Nat} {x : α} (h : l[q]? = some x) : ((l.take q).flatMap f).length + (f x).length ≤ (l.flatMap f).length := by
  have := fm_le f l (q + 1)
  rw [List.take_add_one, h] at this
  simpa using this
theorem wBody_s [Wd] (c : ChangeD) (hc : dChange.ok c) : FnW 119 [.agg (cChange c)] (bodyC c) := by
  intro bs hb
  refine mkS 57 [] Tryz.func119 rfl (by kernel_rfl) ?_
  repeat'
    (conv => arg 2; whnf)
    first
    | refine okAsk (by kernel_rfl) ?_
    | refine okWr (wNum_s [c.view, c.src] (by simp)) (by simp only [bodyC, chgB, prepB, proofB, headB, entryB, List.length_append, List.length_map] at hb ⊢; omega) ⟨⟨rfl, rfl⟩, trivial⟩ (Cos.refl _) rfl ?_
    | refine okWr (wCert_s c.cert hc.2.2.1) (by simp only [bodyC, chgB, prepB, proofB, headB, entryB, List.length_append, List.length_map] at hb ⊢; omega) ⟨⟨rfl, rfl⟩, trivial⟩ (Cos.refl _) rfl ?_
    | refine okWr (wMany_s _) (by simp only [bodyC, chgB, prepB, proofB, headB, entryB, List.length_append, List.length_map] at hb ⊢; omega) ⟨⟨rfl, rfl⟩, trivial⟩ (Cos.refl _) rfl ?_
  conv => arg 2; whnf
  refine okLoop (α := Nat) (fun q => ⟨[(29, .int .i64 q), (28, .int .i64 (c.above.map cPrepared).length), (27, .list 7 (c.above.map cPrepared)), (3, .ptr 1 0), (0, .ptr 0 0)], [.cells 149 [.list 1 (((bs ++ numsB [c.view, c.src] ++ certB c.cert ++ encI ((c.above.map cPrepared).length : Nat)) ++ (c.above.take q).flatMap prepB).map cByte)], .cells 90 (cChange c)]⟩) (fun q => q ≤ c.above.length) (fun q => c.above.length - q) 0 (Nat.zero_le _) (Sv.mk' [0, 1] rfl ⟨⟨rfl, by simp; rfl⟩, ⟨rfl, rfl⟩, trivial⟩ ⟨rfl, rfl, rfl, rfl, rfl, trivial⟩) ?_
  intro q hq
  have hl : c.above.length ≤ 4194304 := hc.2.2.2.1.1
  repeat'
    (conv => arg 2; whnf)
    first
    | refine okAsk (by kernel_rfl) ?_
    | refine okBrT ?_
    | refine okBrF ?_
    | refine okLt' (fun hlt => ?_) (fun hge => ?_)
    | refine okNthMap (by simpa using hlt) (fun x hx => ?_)
    | refine okWr (wNum_s [x.view, x.seq, x.digest] (by simp)) (by have := fm_at prepB hx; simp only [bodyC, chgB, prepB, proofB, headB, entryB, List.length_append, List.length_map] at hb this ⊢; omega) ⟨⟨rfl, rfl⟩, trivial⟩ (Cos.refl _) rfl ?_
    | refine okWr (wSign_s x.firstS) (by have := fm_at prepB hx; simp only [bodyC, chgB, prepB, proofB, headB, entryB, List.length_append, List.length_map] at hb this ⊢; omega) ⟨⟨rfl, rfl⟩, trivial⟩ (Cos.refl _) rfl ?_
    | refine okWr (wSigns_s x.signs (hc.2.2.2.1.2 x (List.mem_of_getElem? hx)).2.2.2.2.1.1) (by have := fm_at prepB hx; simp only [bodyC, chgB, prepB, proofB, headB, entryB, List.length_append, List.length_map] at hb this ⊢; omega) ⟨⟨rfl, rfl⟩, trivial⟩ (Cos.refl _) rfl ?_
    | refine okWr (wBatch_s x.batch (hc.2.2.2.1.2 x (List.mem_of_getElem? hx)).2.2.2.2.2) (by have := fm_at prepB hx; simp only [bodyC, chgB, prepB, proofB, headB, entryB, List.length_append, List.length_map] at hb this ⊢; omega) ⟨⟨rfl, rfl⟩, trivial⟩ (Cos.refl _) rfl ?_
    | refine okWrap (w64 (by simp at hlt; omega) (by simp at hlt; omega)) ?_
    | refine okAgain (q + 1) (Sv.mk' [0, 1] rfl ⟨⟨rfl, by rw [List.take_add_one, hx]; simp [prepB]; rfl⟩, ⟨rfl, rfl⟩, trivial⟩ ⟨rfl, rfl, rfl, rfl, rfl, trivial⟩) ?_ ?_
    | refine okOut ?_
    | refine endWr (.inl rfl) rfl ⟨⟨rfl, rfl⟩, trivial⟩ (.refl _) ?_
  · simp at hlt; omega
  · simp at hlt; omega
  · rw [show c.above.take q = c.above from List.take_of_length_le (by simpa using hge)]
    simp [bodyC]
theorem wChange_s [Wd] (c : ChangeD) (hc : dChange.ok c) : FnW 121 [.agg (cChange c)] (chgB c) := by
  intro bs hb
  refine mkS 11 [] Tryz.func121 rfl (by kernel_rfl) ?_
  repeat'
    (conv => arg 2; whnf)
    first
    | refine okAsk (by kernel_rfl) ?_
    | refine okWr (wBody_s c hc) (by simp only [chgB, List.length_append] at hb ⊢; omega) ⟨⟨rfl, rfl⟩, trivial⟩ (Cos.refl _) rfl ?_
    | refine okWr (wSign_s c.sign) (by simp only [chgB, List.length_append] at hb ⊢; omega) ⟨⟨rfl, rfl⟩, trivial⟩ (Cos.refl _) rfl ?_
    | refine endWr (.inl rfl) rfl ⟨⟨rfl, rfl⟩, trivial⟩ (.refl _) ?_
  simp [chgB]
theorem wProof_s [Wd] (p : ProofD) (hp : dProof.ok p) : FnW 124 [.agg (cProof p)] (proofB p) := by
  intro bs hb
  refine mkS 92 [(1, ⟨[(0, false), (1, false), (2, false), (3, false), (4, false), (5, true), (6, true)], [0]⟩)] Tryz.func124 rfl (by kernel_rfl) ?_
  repeat'
    (conv => arg 2; whnf)
    first
    | refine okAsk (by kernel_rfl) ?_
    | refine okWr (wStr_s p.topic hp.1) (by simp only [bodyC, chgB, prepB, proofB, headB, entryB, List.length_append, List.length_map] at hb ⊢; omega) ⟨⟨rfl, rfl⟩, trivial⟩ (Cos.refl _) rfl ?_
    | refine okWr (wNum_s [p.offset] (by simp)) (by simp only [bodyC, chgB, prepB, proofB, headB, entryB, List.length_append, List.length_map] at hb ⊢; omega) ⟨⟨rfl, rfl⟩, trivial⟩ (Cos.refl _) rfl ?_
    | refine okWr (wStr_s p.record hp.2.2.1) (by simp only [bodyC, chgB, prepB, proofB, headB, entryB, List.length_append, List.length_map] at hb ⊢; omega) ⟨⟨rfl, rfl⟩, trivial⟩ (Cos.refl _) rfl ?_
    | refine okWr (wMany_s _) (by simp only [bodyC, chgB, prepB, proofB, headB, entryB, List.length_append, List.length_map] at hb ⊢; omega) ⟨⟨rfl, rfl⟩, trivial⟩ (Cos.refl _) rfl ?_
    | refine okAsk (by have : p.topic.length ≤ 4194304 := hp.1; omega) ?_
  conv => arg 2; whnf
  refine okLoop (α := Nat) (fun q => ⟨[(38, .int .i64 q), (37, .int .i64 (p.headers.map cHeader).length), (36, .list 5 (p.headers.map cHeader)), (3, .ptr 1 0), (0, .ptr 0 0)], [.cells 149 [.list 1 (((bs ++ byF p.topic ++ numsB [p.offset] ++ byF p.record ++ encI ((p.headers.map cHeader).length : Nat)) ++ (p.headers.take q).flatMap headB).map cByte)], .cells 52 (cProof p)]⟩) (fun q => q ≤ p.headers.length) (fun q => p.headers.length - q) 0 (Nat.zero_le _) (Sv.mk' [0, 1] rfl ⟨⟨rfl, by simp; rfl⟩, ⟨rfl, rfl⟩, trivial⟩ ⟨rfl, rfl, rfl, rfl, rfl, trivial⟩) ?_
  intro q hq
  have hl : p.headers.length ≤ 4194304 := hp.2.2.2.1.1
  repeat'
    (conv => arg 2; whnf)
    first
    | refine okAsk (by kernel_rfl) ?_
    | refine okBrT ?_
    | refine okBrF ?_
    | refine okLt' (fun hlt => ?_) (fun hge => ?_)
    | refine okNthMap (by simpa using hlt) (fun x hx => ?_)
    | refine okWr (wNum_s [x.seq, x.prev, x.batch, x.root, x.state] (by simp)) (by have := fm_at headB hx; simp only [bodyC, chgB, prepB, proofB, headB, entryB, List.length_append, List.length_map] at hb this ⊢; omega) ⟨⟨rfl, rfl⟩, trivial⟩ (Cos.refl _) rfl ?_
    | refine okWrap (w64 (by simp at hlt; omega) (by simp at hlt; omega)) ?_
    | refine okAgain (q + 1) (Sv.mk' [0, 1] rfl ⟨⟨rfl, by rw [List.take_add_one, hx]; simp [headB]; rfl⟩, ⟨rfl, rfl⟩, trivial⟩ ⟨rfl, rfl, rfl, rfl, rfl, trivial⟩) ?_ ?_
    | refine okOut ?_
    | refine okWr (wNum_s [p.index, p.count] (by simp)) (by have := fm_le headB p.headers q; simp only [bodyC, chgB, prepB, proofB, headB, entryB, List.length_append, List.length_map] at hb this ⊢; omega) ⟨⟨rfl, rfl⟩, trivial⟩ (Cos.refl _) rfl ?_
    | refine okWr (wMany_s _) (by have := fm_le headB p.headers q; simp only [bodyC, chgB, prepB, proofB, headB, entryB, List.length_append, List.length_map] at hb this ⊢; omega) ⟨⟨rfl, rfl⟩, trivial⟩ (Cos.refl _) rfl ?_
  · simp at hlt; omega
  · simp at hlt; omega
  rw [show p.headers.take q = p.headers from List.take_of_length_le (by simpa using hge)]
  clear hl hge
  conv => arg 2; whnf
  refine okLoop (α := Nat) (fun q => ⟨[(77, .int .i64 q), (76, .int .i64 (p.path.map cNum).length), (75, .list 1 (p.path.map cNum)), (3, .ptr 1 0), (0, .ptr 0 0)], [.cells 149 [.list 1 (((bs ++ byF p.topic ++ numsB [p.offset] ++ byF p.record ++ encI (p.headers.length : Int) ++ p.headers.flatMap headB ++ numsB [p.index, p.count] ++ encI ((p.path.map cNum).length : Nat)) ++ (p.path.take q).flatMap encI).map cByte)], .cells 52 (cProof p)]⟩) (fun q => q ≤ p.path.length) (fun q => p.path.length - q) 0 (Nat.zero_le _) (Sv.mk' [0, 1] rfl ⟨⟨rfl, by simp; rfl⟩, ⟨rfl, rfl⟩, trivial⟩ ⟨rfl, rfl, rfl, rfl, rfl, trivial⟩) ?_
  intro q hq
  have hl : p.path.length ≤ 4194304 := hp.2.2.2.2.2.2.1.1
  repeat'
    (conv => arg 2; whnf)
    first
    | refine okAsk (by kernel_rfl) ?_
    | refine okBrT ?_
    | refine okBrF ?_
    | refine okLt' (fun hlt => ?_) (fun hge => ?_)
    | refine okNthMap (by simpa using hlt) (fun x hx => ?_)
    | refine okWr (wNum_s [x] (by simp)) (by have := fm_at encI hx; have e : (numsB [x]).length = (encI x).length := (by simp [numsB]); simp only [bodyC, chgB, prepB, proofB, headB, entryB, List.length_append, List.length_map] at hb this ⊢; omega) ⟨⟨rfl, rfl⟩, trivial⟩ (Cos.refl _) rfl ?_
    | refine okWrap (w64 (by simp at hlt; omega) (by simp at hlt; omega)) ?_
    | refine okAgain (q + 1) (Sv.mk' [0, 1] rfl ⟨⟨rfl, by rw [List.take_add_one, hx]; simp [numsB]; rfl⟩, ⟨rfl, rfl⟩, trivial⟩ ⟨rfl, rfl, rfl, rfl, rfl, trivial⟩) ?_ ?_
    | refine okOut ?_
    | refine okWr (wCert_s p.cert hp.2.2.2.2.2.2.2) (by have := fm_le encI p.path q; simp only [bodyC, chgB, prepB, proofB, headB, entryB, List.length_append, List.length_map] at hb this ⊢; omega) ⟨⟨rfl, rfl⟩, trivial⟩ (Cos.refl _) rfl ?_
    | refine endWr (.inl rfl) rfl ⟨⟨rfl, rfl⟩, trivial⟩ (.refl _) ?_
  · simp at hlt; omega
  · simp at hlt; omega
  · rw [show p.path.take q = p.path from List.take_of_length_le (by simpa using hge)]
    simp [proofB]
end Go.Proofs.YtbbcepmhkocgbaaGreatDoor

