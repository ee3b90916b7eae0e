/- Lemmas and contracts, part 16.3. -/
import Derived.Test.YtbbcepmhkocgbaaGreatDoorZc1
import Derived.Deep.Light
import Derived.Lib.ConvBytes
import Derived.Deep.RegionHeld3
import Derived.Deep.RegionLaw
/- The writer of package message over changes and proofs (printed by gen_ah.py). -/
namespace Go.Proofs.YtbbcepmhkocgbaaGreatDoor
open Go.RowKit
set_option linter.unusedVariables false
set_option maxRecDepth 20000

theorem fm_le {α : Type} (f : α → List UInt8) (l : List α) (q : Nat) : ((l.take q).flatMap f).length ≤ (l.flatMap f).length := by
  conv => rhs; rw [← List.take_append_drop q l]
  simp only [List.flatMap_append, List.length_append]; omega
theorem fm_at {α : Type} (f : α → List UInt8) {l : List α} {q : Nat} {x : α} (h : l[q]? = some x) : ((l.take q).flatMap f).length + (f x).length ≤ (l.flatMap f).length := by
  have := fm_le f l (q + 1)
  rw [List.take_add_one, h] at this
  simpa using this
theorem wBody_s (c : ChangeD) (hc : dChange.ok c) : FnW 119 [.agg (cChange c)] (bodyC c) := by
  intro bs hb
  refine mkS 57 [] Tryz.func119 rfl (by kernel_rfl) ?_
  repeat'
    (conv => arg 2; whnf)
    first
    | refine okAsk (by kernel_rfl) ?_
    | refine okWr (wNum_s [c.view, c.src] (by simp)) (by simp only [bodyC, chgB, prepB, proofB, headB, entryB, List.length_append, List.length_map] at hb ⊢; omega) ⟨⟨rfl, rfl⟩, trivial⟩ (Cos.refl _) rfl ?_
    | refine okWr (wCert_s c.cert hc.2.2.1) (by simp only [bodyC, chgB, prepB, proofB, headB, entryB, List.length_append, List.length_map] at hb ⊢; omega) ⟨⟨rfl, rfl⟩, trivial⟩ (Cos.refl _) rfl ?_
    | refine okWr (wMany_s _) (by simp only [bodyC, chgB, prepB, proofB, headB, entryB, List.length_append, List.length_map] at hb ⊢; omega) ⟨⟨rfl, rfl⟩, trivial⟩ (Cos.refl _) rfl ?_
  conv => arg 2; whnf
  refine okLoop (α := Nat) (fun q => ⟨[(29, .int .i64 q), (28, .int .i64 (c.above.map cPrepared).length), (27, .list 7 (c.above.map cPrepared)), (3, .ptr 1 0), (0, .ptr 0 0)], [.cells 149 [.list 1 (((bs ++ numsB [c.view, c.src] ++ certB c.cert ++ encI ((c.above.map cPrepared).length : Nat)) ++ (c.above.take q).flatMap prepB).map cByte)], .cells 90 (cChange c)]⟩) (fun q => q ≤ c.above.length) (fun q => c.above.length - q) 0 (Nat.zero_le _) (Sv.mk' [0, 1] rfl ⟨⟨rfl, by simp; rfl⟩, ⟨rfl, rfl⟩, trivial⟩ ⟨rfl, rfl, rfl, rfl, rfl, trivial⟩) ?_
  intro q hq
  have hl : c.above.length ≤ 4194304 := hc.2.2.2.1.1
  repeat'
    (conv => arg 2; whnf)
    first
    | refine okAsk (by kernel_rfl) ?_
    | refine okBrT ?_
    | refine okBrF ?_
    | refine okLt' (fun hlt => ?_) (fun hge => ?_)
    | refine okNthMap (by simpa using hlt) (fun x hx => ?_)
    | refine okWr (wNum_s [x.view, x.seq, x.digest] (by simp)) (by have := fm_at prepB hx; simp only [bodyC, chgB, prepB, proofB, headB, entryB, List.length_append, List.length_map] at hb this ⊢; omega) ⟨⟨rfl, rfl⟩, trivial⟩ (Cos.refl _) rfl ?_
    | refine okWr (wSign_s x.firstS) (by have := fm_at prepB hx; simp only [bodyC, chgB, prepB, proofB, headB, entryB, List.length_append, List.length_map] at hb this ⊢; omega) ⟨⟨rfl, rfl⟩, trivial⟩ (Cos.refl _) rfl ?_
    | refine okWr (wSigns_s x.signs (hc.2.2.2.1.2 x (List.mem_of_getElem? hx)).2.2.2.2.1.1) (by have := fm_at prepB hx; simp only [bodyC, chgB, prepB, proofB, headB, entryB, List.length_append, List.length_map] at hb this ⊢; omega) ⟨⟨rfl, rfl⟩, trivial⟩ (Cos.refl _) rfl ?_
    | refine okWr (wBatch_s x.batch (hc.2.2.2.1.2 x (List.mem_of_getElem? hx)).2.2.2.2.2) (by have := fm_at prepB hx; simp only [bodyC, chgB, prepB, proofB, headB, entryB, List.length_append, List.length_map] at hb this ⊢; omega) ⟨⟨rfl, rfl⟩, trivial⟩ (Cos.refl _) rfl ?_
    | refine okWrap (w64 (by simp at hlt; omega) (by simp at hlt; omega)) ?_
    | refine okAgain (q + 1) (Sv.mk' [0, 1] rfl ⟨⟨rfl, by rw [List.take_add_one, hx]; simp [prepB]; rfl⟩, ⟨rfl, rfl⟩, trivial⟩ ⟨rfl, rfl, rfl, rfl, rfl, trivial⟩) ?_ ?_
    | refine okOut ?_
    | refine endWr (.inl rfl) rfl ⟨⟨rfl, rfl⟩, trivial⟩ (.refl _) ?_
  · simp at hlt; omega
  · simp at hlt; omega
  · rw [show c.above.take q = c.above from List.take_of_length_le (by simpa using hge)]
    simp [bodyC]
theorem wChange_s (c : ChangeD) (hc : dChange.ok c) : FnW 121 [.agg (cChange c)] (chgB c) := by
  intro bs hb
  refine mkS 11 [] Tryz.func121 rfl (by kernel_rfl) ?_
  repeat'
    (conv => arg 2; whnf)
    first
    | refine okAsk (by kernel_rfl) ?_
    | refine okWr (wBody_s c hc) (by simp only [chgB, List.length_append] at hb ⊢; omega) ⟨⟨rfl, rfl⟩, trivial⟩ (Cos.refl _) rfl ?_
    | refine okWr (wSign_s c.sign) (by simp only [chgB, List.length_append] at hb ⊢; omega) ⟨⟨rfl, rfl⟩, trivial⟩ (Cos.refl _) rfl ?_
    | refine endWr (.inl rfl) rfl ⟨⟨rfl, rfl⟩, trivial⟩ (.refl _) ?_
  simp [chgB]
theorem wProof_s (p : ProofD) (hp : dProof.ok p) : FnW 124 [.agg (cProof p)] (proofB p) := by
  intro bs hb
  refine mkS 92 [(1, ⟨[(0, false), (1, false), (2, false), (3, false), (4, false), (5, true), (6, true)], [0]⟩)] Tryz.func124 rfl (by kernel_rfl) ?_
  repeat'
    (conv => arg 2; whnf)
    first
    | refine okAsk (by kernel_rfl) ?_
    | refine okWr (wStr_s p.topic hp.1) (by simp only [bodyC, chgB, prepB, proofB, headB, entryB, List.length_append, List.length_map] at hb ⊢; omega) ⟨⟨rfl, rfl⟩, trivial⟩ (Cos.refl _) rfl ?_
    | refine okWr (wNum_s [p.offset] (by simp)) (by simp only [bodyC, chgB, prepB, proofB, headB, entryB, List.length_append, List.length_map] at hb ⊢; omega) ⟨⟨rfl, rfl⟩, trivial⟩ (Cos.refl _) rfl ?_
    | refine okWr (wStr_s p.record hp.2.2.1) (by simp only [bodyC, chgB, prepB, proofB, headB, entryB, List.length_append, List.length_map] at hb ⊢; omega) ⟨⟨rfl, rfl⟩, trivial⟩ (Cos.refl _) rfl ?_
    | refine okWr (wMany_s _) (by simp only [bodyC, chgB, prepB, proofB, headB, entryB, List.length_append, List.length_map] at hb ⊢; omega) ⟨⟨rfl, rfl⟩, trivial⟩ (Cos.refl _) rfl ?_
    | refine okAsk (by have : p.topic.length ≤ 4194304 := hp.1; omega) ?_
  conv => arg 2; whnf
  refine okLoop (α := Nat) (fun q => ⟨[(38, .int .i64 q), (37, .int .i64 (p.headers.map cHeader).length), (36, .list 5 (p.headers.map cHeader)), (3, .ptr 1 0), (0, .ptr 0 0)], [.cells 149 [.list 1 (((bs ++ byF p.topic ++ numsB [p.offset] ++ byF p.record ++ encI ((p.headers.map cHeader).length : Nat)) ++ (p.headers.take q).flatMap headB).map cByte)], .cells 52 (cProof p)]⟩) (fun q => q ≤ p.headers.length) (fun q => p.headers.length - q) 0 (Nat.zero_le _) (Sv.mk' [0, 1] rfl ⟨⟨rfl, by simp; rfl⟩, ⟨rfl, rfl⟩, trivial⟩ ⟨rfl, rfl, rfl, rfl, rfl, trivial⟩) ?_
  intro q hq
  have hl : p.headers.length ≤ 4194304 := hp.2.2.2.1.1
  repeat'
    (conv => arg 2; whnf)
    first
    | refine okAsk (by kernel_rfl) ?_
    | refine okBrT ?_
    | refine okBrF ?_
    | refine okLt' (fun hlt => ?_) (fun hge => ?_)
    | refine okNthMap (by simpa using hlt) (fun x hx => ?_)
    | refine okWr (wNum_s [x.seq, x.prev, x.batch, x.root, x.state] (by simp)) (by have := fm_at headB hx; simp only [bodyC, chgB, prepB, proofB, headB, entryB, List.length_append, List.length_map] at hb this ⊢; omega) ⟨⟨rfl, rfl⟩, trivial⟩ (Cos.refl _) rfl ?_
    | refine okWrap (w64 (by simp at hlt; omega) (by simp at hlt; omega)) ?_
    | refine okAgain (q + 1) (Sv.mk' [0, 1] rfl ⟨⟨rfl, by rw [List.take_add_one, hx]; simp [headB]; rfl⟩, ⟨rfl, rfl⟩, trivial⟩ ⟨rfl, rfl, rfl, rfl, rfl, trivial⟩) ?_ ?_
    | refine okOut ?_
    | refine okWr (wNum_s [p.index, p.count] (by simp)) (by have := fm_le headB p.headers q; simp only [bodyC, chgB, prepB, proofB, headB, entryB, List.length_append, List.length_map] at hb this ⊢; omega) ⟨⟨rfl, rfl⟩, trivial⟩ (Cos.refl _) rfl ?_
    | refine okWr (wMany_s _) (by have := fm_le headB p.headers q; simp only [bodyC, chgB, prepB, proofB, headB, entryB, List.length_append, List.length_map] at hb this ⊢; omega) ⟨⟨rfl, rfl⟩, trivial⟩ (Cos.refl _) rfl ?_
  · simp at hlt; omega
  · simp at hlt; omega
  rw [show p.headers.take q = p.headers from List.take_of_length_le (by simpa using hge)]
  clear hl hge
  conv => arg 2; whnf
  refine okLoop (α := Nat) (fun q => ⟨[(77, .int .i64 q), (76, .int .i64 (p.path.map cNum).length), (75, .list 1 (p.path.map cNum)), (3, .ptr 1 0), (0, .ptr 0 0)], [.cells 149 [.list 1 (((bs ++ byF p.topic ++ numsB [p.offset] ++ byF p.record ++ encI (p.headers.length : Int) ++ p.headers.flatMap headB ++ numsB [p.index, p.count] ++ encI ((p.path.map cNum).length : Nat)) ++ (p.path.take q).flatMap encI).map cByte)], .cells 52 (cProof p)]⟩) (fun q => q ≤ p.path.length) (fun q => p.path.length - q) 0 (Nat.zero_le _) (Sv.mk' [0, 1] rfl ⟨⟨rfl, by simp; rfl⟩, ⟨rfl, rfl⟩, trivial⟩ ⟨rfl, rfl, rfl, rfl, rfl, trivial⟩) ?_
  intro q hq
  have hl : p.path.length ≤ 4194304 := hp.2.2.2.2.2.2.1.1
  repeat'
    (conv => arg 2; whnf)
    first
    | refine okAsk (by kernel_rfl) ?_
    | refine okBrT ?_
    | refine okBrF ?_
    | refine okLt' (fun hlt => ?_) (fun hge => ?_)
    | refine okNthMap (by simpa using hlt) (fun x hx => ?_)
    | refine okWr (wNum_s [x] (by simp)) (by have := fm_at encI hx; have e : (numsB [x]).length = (encI x).length := (by simp [numsB]); simp only [bodyC, chgB, prepB, proofB, headB, entryB, List.length_append, List.length_map] at hb this ⊢; omega) ⟨⟨rfl, rfl⟩, trivial⟩ (Cos.refl _) rfl ?_
    | refine okWrap (w64 (by simp at hlt; omega) (by simp at hlt; omega)) ?_
    | refine okAgain (q + 1) (Sv.mk' [0, 1] rfl ⟨⟨rfl, by rw [List.take_add_one, hx]; simp [numsB]; rfl⟩, ⟨rfl, rfl⟩, trivial⟩ ⟨rfl, rfl, rfl, rfl, rfl, trivial⟩) ?_ ?_
    | refine okOut ?_
    | refine okWr (wCert_s p.cert hp.2.2.2.2.2.2.2) (by have := fm_le encI p.path q; simp only [bodyC, chgB, prepB, proofB, headB, entryB, List.length_append, List.length_map] at hb this ⊢; omega) ⟨⟨rfl, rfl⟩, trivial⟩ (Cos.refl _) rfl ?_
    | refine endWr (.inl rfl) rfl ⟨⟨rfl, rfl⟩, trivial⟩ (.refl _) ?_
  · simp at hlt; omega
  · simp at hlt; omega
  · rw [show p.path.take q = p.path from List.take_of_length_le (by simpa using hge)]
    simp [proofB]
end Go.Proofs.YtbbcepmhkocgbaaGreatDoor

/- The writer of package message over a message without its signature, from no bytes (printed by gen_ai.py). -/
namespace Go.Proofs.YtbbcepmhkocgbaaGreatDoor
open Go.RowKit
set_option linter.unusedVariables false
set_option maxRecDepth 20000

section
variable {P : Program}
theorem endBy {tb : TT} {rs : List ResultVar} {e : Exit} {s : S} {xs ys : List UInt8} (he : e = .normal ∨ e = .ret) (hr : resD tb s rs = some [.list 1 (xs.map cByte)]) (h : xs = ys) : (T.leaf e s).ok P (Lf tb rs [] (fun r' h' => r' = .list 1 (ys.map cByte) ∧ h' = [])) := by
  subst h
  exact endFn0 he hr (.refl _) rfl
theorem endBy2 {tb : TT} {rs : List ResultVar} {e : Exit} {s : S} {xs ys : List UInt8} {d : D} (he : e = .normal ∨ e = .ret) (hr : resD tb s rs = some [.list 1 (xs.map cByte), d]) (h : xs = ys) (hp : pureD d = true) : (T.leaf e s).ok P (Lf tb rs [] (fun r' h' => r' = .tup [.list 1 (ys.map cByte), d] ∧ h' = [])) := by
  subst h
  exact endFn0 he hr (.refl _) (by simp [pureD, pureD.pl, hp])
end
theorem encI_l (n : Int) : (encI n).length ≤ 10 := by
  unfold encI
  exact enc_10 (by omega)
theorem resI {a : Int} (h : 0 ≤ a ∧ a ≤ 9223372036854775807) : encI (if a < 0 then 0 else a) = enc (max a 0).toNat := by
  rw [if_neg (by omega), encI_nat h.1 (by omega), Int.max_eq_left h.1]
theorem putResult_s (bs : List UInt8) (x : ResultD) (he : 0 ≤ x.err ∧ x.err ≤ 9223372036854775807) (ho : 0 ≤ x.offset ∧ x.offset ≤ 9223372036854775807) (hl : bs.length + 110 ≤ big) : FnP Tryz.prog 118 [.list 1 (bs.map cByte), .agg (cResult x)] (.list 1 ((bs ++ resultB x).map cByte)) := by
  have p1 := encI_l (if x.err < 0 then 0 else x.err)
  refine mkS 16 [(1, ⟨[(0, false), (1, false), (2, false), (3, false), (4, false), (6, false), (7, false), (8, false), (9, false), (5, true), (10, true), (11, false)], []⟩)] Tryz.func118 rfl (by kernel_rfl) ?_
  repeat'
    (conv => arg 2; whnf)
    first
    | refine okAsk (by kernel_rfl) ?_
    | refine okRaw ?_
    | refine okFn (putNum_s _ _ (by (try simp only [List.length_append]); omega)) rfl (Cos.refl _) ?_
    | (refine endBy (.inr rfl) rfl ?_; rw [resI he, resI ho, List.append_assoc]; rfl)
/-- the first number, from no bytes -/
theorem wNum0_s (n : Int) : FnS Tryz.prog 116 [.ptr 0 0, .list 1 ([n].map cNum)] [.cells 149 [.nils]] (fun r h => r = .tup [] ∧ h = oW (encI n)) := by
  refine mkS 23 [] Tryz.func116 rfl (by kernel_rfl) ?_
  conv => arg 2; whnf
  refine okLoop (α := Bool) (fun b => match b with
    | false => ⟨[(8, .int .i64 0), (7, .int .i64 1), (6, .list 1 ([n].map cNum)), (0, .ptr 0 0)], [.cells 149 [.nils]]⟩
    | true => ⟨[(8, .int .i64 1), (7, .int .i64 1), (6, .list 1 ([n].map cNum)), (0, .ptr 0 0)], oW (encI n)⟩) (fun _ => True) (fun b => bif b then 0 else 1) false trivial (Sv.mk' [0] rfl ⟨⟨rfl, rfl⟩, trivial⟩ ⟨rfl, rfl, rfl, rfl, trivial⟩) ?_
  rintro (_ | _) _
  all_goals
    repeat'
      (conv => arg 2; whnf)
      first
      | refine okBrT ?_
      | refine okBrF ?_
      | refine okNth (cNum n) (by decide) rfl ?_
      | refine okFn (putNum_s [] n (by simp [big])) rfl (Cos.cons (Co.nil _) (.refl _)) ?_
      | refine okWrap (w64 (by decide) (by decide)) ?_
      | refine okRaw ?_
      | exact okAgain true (Sv.mk' [0] rfl ⟨⟨rfl, rfl⟩, trivial⟩ ⟨rfl, rfl, rfl, rfl, trivial⟩) trivial (by decide)
      | refine okOut ?_
      | exact endObj [0] (.inl rfl) rfl rfl ⟨⟨rfl, rfl⟩, trivial⟩ ⟨⟨rfl, rfl⟩, trivial⟩ (.refl _)
theorem wShort_s (bs : List UInt8) (hs : ¬ 262144 < bs.length) : FnS Tryz.prog 115 [.ptr 0 0] (oW bs) (fun r h => r = .tup [.list 1 (bs.map cByte), .int .i64 0] ∧ h = oW bs) := by
  refine mkS 16 [] Tryz.func115 rfl (by kernel_rfl) ?_
  repeat'
    (conv => arg 2; whnf)
    first
    | refine okBr (fun h => ?_) (fun h => ?_)
    | exact endObj [0] (.inr rfl) rfl rfl ⟨⟨rfl, rfl⟩, trivial⟩ ⟨⟨rfl, rfl⟩, trivial⟩ (.refl _)
  simp at h
  omega
theorem wShortL_s (bs : List UInt8) (h : 262144 < bs.length) : FnS Tryz.prog 115 [.ptr 0 0] (oW bs) (fun r h => r = .tup [.nils, .int .i64 3] ∧ h = oW bs) := by
  refine mkS 16 [] Tryz.func115 rfl (by kernel_rfl) ?_
  repeat'
    (conv => arg 2; whnf)
    first
    | refine okBr (fun h => ?_) (fun h => ?_)
    | exact endObj [0] (.inr rfl) rfl rfl ⟨⟨rfl, rfl⟩, trivial⟩ ⟨⟨rfl, rfl⟩, trivial⟩ (.refl _)
  simp at h
  omega
theorem endWr0 {tb : TT} {rs : List ResultVar} {ex : Exit} {s : S} {bs' : List UInt8} {ds : List D} (he : ex = .normal ∨ ex = .ret) (hr : resD tb s rs = some ds) (hv : vwP s.h [0] [0] (oW bs')) (hco : Co (resV ds) (.tup [])) {add : List UInt8} (hx : bs' = add) : (T.leaf ex s).ok Tryz.prog (Lf tb rs [.cells 149 [.nils]] (fun r h => r = .tup [] ∧ h = oW add)) := by
  subst hx
  exact endObj [0] he hr rfl hv ⟨⟨rfl, rfl⟩, trivial⟩ hco
end Go.Proofs.YtbbcepmhkocgbaaGreatDoor

/- The writer of package message over a message without its signature, a kind at a time (printed by gen_al.py). -/
namespace Go.Proofs.YtbbcepmhkocgbaaGreatDoor
open Go.RowKit
set_option linter.unusedVariables false
set_option maxRecDepth 20000

theorem wUns1_s (m : MsgD) (hm : dMsg.ok m) (hl : (encI 1 ++ (batchP m.batch)).length + 200 ≤ big) : FnS Tryz.prog 88 [.ptr 0 0, .agg (cMsg { m with kind := 1 })] [.cells 149 [.nils]] (fun r h => r = .tup [] ∧ h = oW (encI 1 ++ (batchP m.batch))) := by
  refine mkS 222 [] Tryz.func88 rfl (by kernel_rfl) ?_
  repeat'
    (conv => arg 2; whnf)
    first
    | refine okAsk (by kernel_rfl) ?_
    | refine okBrT ?_
    | refine okBrF ?_
    | refine okCall [0] (wNum0_s _) (.mk' rfl ⟨⟨rfl, rfl⟩, trivial⟩) (Cos.refl _) rfl ?_
    | refine okWr (wBatch_s m.batch hm.2.2.2.2.2.2.2.2.1) (by simp only [List.length_append, List.length_map] at hl ⊢; omega) ⟨⟨rfl, rfl⟩, trivial⟩ (Cos.refl _) rfl ?_
    | refine endWr0 (.inl rfl) rfl ⟨⟨rfl, rfl⟩, trivial⟩ (.refl _) ?_
  all_goals (first | rfl | simp)
theorem wUns2_s (m : MsgD) (hm : dMsg.ok m) (hl : (encI 2 ++ (numsB [m.src, m.view, m.seq, m.digest] ++ batchP m.batch)).length + 200 ≤ big) : FnS Tryz.prog 88 [.ptr 0 0, .agg (cMsg { m with kind := 2 })] [.cells 149 [.nils]] (fun r h => r = .tup [] ∧ h = oW (encI 2 ++ (numsB [m.src, m.view, m.seq, m.digest] ++ batchP m.batch))) := by
  refine mkS 222 [] Tryz.func88 rfl (by kernel_rfl) ?_
  repeat'
    (conv => arg 2; whnf)
    first
    | refine okAsk (by kernel_rfl) ?_
    | refine okBrT ?_
    | refine okBrF ?_
    | refine okCall [0] (wNum0_s _) (.mk' rfl ⟨⟨rfl, rfl⟩, trivial⟩) (Cos.refl _) rfl ?_
    | refine okWr (wNum_s [m.src, m.view, m.seq, m.digest] (by simp)) (by simp only [List.length_append, List.length_map] at hl ⊢; omega) ⟨⟨rfl, rfl⟩, trivial⟩ (Cos.refl _) rfl ?_
    | refine okWr (wBatch_s m.batch hm.2.2.2.2.2.2.2.2.1) (by simp only [List.length_append, List.length_map] at hl ⊢; omega) ⟨⟨rfl, rfl⟩, trivial⟩ (Cos.refl _) rfl ?_
    | refine endWr0 (.inl rfl) rfl ⟨⟨rfl, rfl⟩, trivial⟩ (.refl _) ?_
  all_goals (first | rfl | simp)
theorem wUns3_s (m : MsgD) (hm : dMsg.ok m) (hl : (encI 3 ++ (numsB [m.src, m.view, m.seq, m.digest])).length + 200 ≤ big) : FnS Tryz.prog 88 [.ptr 0 0, .agg (cMsg { m with kind := 3 })] [.cells 149 [.nils]] (fun r h => r = .tup [] ∧ h = oW (encI 3 ++ (numsB [m.src, m.view, m.seq, m.digest]))) := by
  refine mkS 222 [] Tryz.func88 rfl (by kernel_rfl) ?_
  repeat'
    (conv => arg 2; whnf)
    first
    | refine okAsk (by kernel_rfl) ?_
    | refine okBrT ?_
    | refine okBrF ?_
    | refine okCall [0] (wNum0_s _) (.mk' rfl ⟨⟨rfl, rfl⟩, trivial⟩) (Cos.refl _) rfl ?_
    | refine okWr (wNum_s [m.src, m.view, m.seq, m.digest] (by simp)) (by simp only [List.length_append, List.length_map] at hl ⊢; omega) ⟨⟨rfl, rfl⟩, trivial⟩ (Cos.refl _) rfl ?_
    | refine endWr0 (.inl rfl) rfl ⟨⟨rfl, rfl⟩, trivial⟩ (.refl _) ?_
  all_goals (first | rfl | simp)
theorem wUns4_s (m : MsgD) (hm : dMsg.ok m) (hl : (encI 4 ++ (numsB [m.src, m.view, m.seq, m.digest])).length + 200 ≤ big) : FnS Tryz.prog 88 [.ptr 0 0, .agg (cMsg { m with kind := 4 })] [.cells 149 [.nils]] (fun r h => r = .tup [] ∧ h = oW (encI 4 ++ (numsB [m.src, m.view, m.seq, m.digest]))) := by
  refine mkS 222 [] Tryz.func88 rfl (by kernel_rfl) ?_
  repeat'
    (conv => arg 2; whnf)
    first
    | refine okAsk (by kernel_rfl) ?_
    | refine okBrT ?_
    | refine okBrF ?_
    | refine okCall [0] (wNum0_s _) (.mk' rfl ⟨⟨rfl, rfl⟩, trivial⟩) (Cos.refl _) rfl ?_
    | refine okWr (wNum_s [m.src, m.view, m.seq, m.digest] (by simp)) (by simp only [List.length_append, List.length_map] at hl ⊢; omega) ⟨⟨rfl, rfl⟩, trivial⟩ (Cos.refl _) rfl ?_
    | refine endWr0 (.inl rfl) rfl ⟨⟨rfl, rfl⟩, trivial⟩ (.refl _) ?_
  all_goals (first | rfl | simp)
theorem wUns5_s (m : MsgD) (hm : dMsg.ok m) (h5 : (0 ≤ m.result.err ∧ m.result.err ≤ 9223372036854775807) ∧ (0 ≤ m.result.offset ∧ m.result.offset ≤ 9223372036854775807)) (hl : (encI 5 ++ (numsB [m.src, m.view, m.client, m.time] ++ resultB m.result)).length + 200 ≤ big) : FnS Tryz.prog 88 [.ptr 0 0, .agg (cMsg { m with kind := 5 })] [.cells 149 [.nils]] (fun r h => r = .tup [] ∧ h = oW (encI 5 ++ (numsB [m.src, m.view, m.client, m.time] ++ resultB m.result))) := by
  refine mkS 222 [(13, ⟨[(0, false), (1, false), (2, false), (3, false), (4, false), (6, false), (7, false), (5, true), (8, true), (9, false), (10, false), (11, false), (12, true)], [0]⟩)] Tryz.func88 rfl (by kernel_rfl) ?_
  repeat'
    (conv => arg 2; whnf)
    first
    | refine okAsk (by kernel_rfl) ?_
    | refine okBrT ?_
    | refine okBrF ?_
    | refine okCall [0] (wNum0_s _) (.mk' rfl ⟨⟨rfl, rfl⟩, trivial⟩) (Cos.refl _) rfl ?_
    | refine okWr (wNum_s [m.src, m.view, m.client, m.time] (by simp)) (by simp only [List.length_append, List.length_map] at hl ⊢; omega) ⟨⟨rfl, rfl⟩, trivial⟩ (Cos.refl _) rfl ?_
    | refine okFn (putResult_s _ m.result h5.1 h5.2 (by simp only [List.length_append, List.length_map] at hl ⊢; omega)) rfl (Cos.refl _) ?_
    | refine endWr0 (.inl rfl) rfl ⟨⟨rfl, rfl⟩, trivial⟩ (.refl _) ?_
  all_goals (first | rfl | simp)
theorem wUns6_s (m : MsgD) (hm : dMsg.ok m) (hl : (encI 6 ++ (numsB [m.src, m.seq, m.digest])).length + 200 ≤ big) : FnS Tryz.prog 88 [.ptr 0 0, .agg (cMsg { m with kind := 6 })] [.cells 149 [.nils]] (fun r h => r = .tup [] ∧ h = oW (encI 6 ++ (numsB [m.src, m.seq, m.digest]))) := by
  refine mkS 222 [] Tryz.func88 rfl (by kernel_rfl) ?_
  repeat'
    (conv => arg 2; whnf)
    first
    | refine okAsk (by kernel_rfl) ?_
    | refine okBrT ?_
    | refine okBrF ?_
    | refine okCall [0] (wNum0_s _) (.mk' rfl ⟨⟨rfl, rfl⟩, trivial⟩) (Cos.refl _) rfl ?_
    | refine okWr (wNum_s [m.src, m.seq, m.digest] (by simp)) (by simp only [List.length_append, List.length_map] at hl ⊢; omega) ⟨⟨rfl, rfl⟩, trivial⟩ (Cos.refl _) rfl ?_
    | refine endWr0 (.inl rfl) rfl ⟨⟨rfl, rfl⟩, trivial⟩ (.refl _) ?_
  all_goals (first | rfl | simp)
theorem wUns7_s (m : MsgD) (hm : dMsg.ok m) {c : ChangeD} (h7 : m.changes[0]? = some c) (hl : (encI 7 ++ (bodyC c)).length + 200 ≤ big) : FnS Tryz.prog 88 [.ptr 0 0, .agg (cMsg { m with kind := 7 })] [.cells 149 [.nils]] (fun r h => r = .tup [] ∧ h = oW (encI 7 ++ (bodyC c))) := by
  refine mkS 222 [] Tryz.func88 rfl (by kernel_rfl) ?_
  repeat'
    (conv => arg 2; whnf)
    first
    | refine okAsk (by kernel_rfl) ?_
    | refine okBrT ?_
    | refine okBrF ?_
    | refine okCall [0] (wNum0_s _) (.mk' rfl ⟨⟨rfl, rfl⟩, trivial⟩) (Cos.refl _) rfl ?_
    | refine okNth (cChange c) (by decide) (by simp [h7]) ?_
    | refine okWr (wBody_s c (hm.2.2.2.2.2.2.2.2.2.2.1.2 c (List.mem_of_getElem? h7))) (by simp only [List.length_append, List.length_map] at hl ⊢; omega) ⟨⟨rfl, rfl⟩, trivial⟩ (Cos.refl _) rfl ?_
    | refine endWr0 (.inl rfl) rfl ⟨⟨rfl, rfl⟩, trivial⟩ (.refl _) ?_
  all_goals (first | rfl | simp)
theorem wUns9_s (m : MsgD) (hm : dMsg.ok m) (hl : (encI 9 ++ (numsB [m.src, m.seq])).length + 200 ≤ big) : FnS Tryz.prog 88 [.ptr 0 0, .agg (cMsg { m with kind := 9 })] [.cells 149 [.nils]] (fun r h => r = .tup [] ∧ h = oW (encI 9 ++ (numsB [m.src, m.seq]))) := by
  refine mkS 222 [] Tryz.func88 rfl (by kernel_rfl) ?_
  repeat'
    (conv => arg 2; whnf)
    first
    | refine okAsk (by kernel_rfl) ?_
    | refine okBrT ?_
    | refine okBrF ?_
    | refine okCall [0] (wNum0_s _) (.mk' rfl ⟨⟨rfl, rfl⟩, trivial⟩) (Cos.refl _) rfl ?_
    | refine okWr (wNum_s [m.src, m.seq] (by simp)) (by simp only [List.length_append, List.length_map] at hl ⊢; omega) ⟨⟨rfl, rfl⟩, trivial⟩ (Cos.refl _) rfl ?_
    | refine endWr0 (.inl rfl) rfl ⟨⟨rfl, rfl⟩, trivial⟩ (.refl _) ?_
  all_goals (first | rfl | simp)
theorem wUns10_s (m : MsgD) (hm : dMsg.ok m) (hl : (encI 10 ++ (numsB [m.src] ++ certB m.cert ++ byF m.state)).length + 200 ≤ big) : FnS Tryz.prog 88 [.ptr 0 0, .agg (cMsg { m with kind := 10 })] [.cells 149 [.nils]] (fun r h => r = .tup [] ∧ h = oW (encI 10 ++ (numsB [m.src] ++ certB m.cert ++ byF m.state))) := by
  refine mkS 222 [] Tryz.func88 rfl (by kernel_rfl) ?_
  repeat'
    (conv => arg 2; whnf)
    first
    | refine okAsk (by kernel_rfl) ?_
    | refine okBrT ?_
    | refine okBrF ?_
    | refine okCall [0] (wNum0_s _) (.mk' rfl ⟨⟨rfl, rfl⟩, trivial⟩) (Cos.refl _) rfl ?_
    | refine okWr (wNum_s [m.src] (by simp)) (by simp only [List.length_append, List.length_map] at hl ⊢; omega) ⟨⟨rfl, rfl⟩, trivial⟩ (Cos.refl _) rfl ?_
    | refine okWr (wCert_s m.cert hm.2.2.2.2.2.2.2.2.2.1) (by simp only [List.length_append, List.length_map] at hl ⊢; omega) ⟨⟨rfl, rfl⟩, trivial⟩ (Cos.refl _) rfl ?_
    | refine okWr (wStr_s m.state hm.2.2.2.2.2.2.2.2.2.2.2.2.1) (by simp only [List.length_append, List.length_map] at hl ⊢; omega) ⟨⟨rfl, rfl⟩, trivial⟩ (Cos.refl _) rfl ?_
    | refine endWr0 (.inl rfl) rfl ⟨⟨rfl, rfl⟩, trivial⟩ (.refl _) ?_
  all_goals (first | rfl | simp)
theorem wUns11_s (m : MsgD) (hm : dMsg.ok m) (hl : (encI 11 ++ (numsB [m.client] ++ byF m.topic ++ numsB [m.offset])).length + 200 ≤ big) : FnS Tryz.prog 88 [.ptr 0 0, .agg (cMsg { m with kind := 11 })] [.cells 149 [.nils]] (fun r h => r = .tup [] ∧ h = oW (encI 11 ++ (numsB [m.client] ++ byF m.topic ++ numsB [m.offset]))) := by
  refine mkS 222 [(42, ⟨[(0, false), (1, false), (2, false), (3, false), (4, false), (5, true), (6, true)], [0]⟩)] Tryz.func88 rfl (by kernel_rfl) ?_
  repeat'
    (conv => arg 2; whnf)
    first
    | refine okAsk (by kernel_rfl) ?_
    | refine okBrT ?_
    | refine okBrF ?_
    | refine okCall [0] (wNum0_s _) (.mk' rfl ⟨⟨rfl, rfl⟩, trivial⟩) (Cos.refl _) rfl ?_
    | refine okWr (wNum_s [m.client] (by simp)) (by simp only [List.length_append, List.length_map] at hl ⊢; omega) ⟨⟨rfl, rfl⟩, trivial⟩ (Cos.refl _) rfl ?_
    | refine okAsk (by have : m.topic.length ≤ 4194304 := hm.2.2.2.2.2.2.2.2.2.2.2.2.2.1; simp only; omega) ?_
    | refine okWr (wStr_s m.topic hm.2.2.2.2.2.2.2.2.2.2.2.2.2.1) (by simp only [List.length_append, List.length_map] at hl ⊢; omega) ⟨⟨rfl, rfl⟩, trivial⟩ (Cos.refl _) rfl ?_
    | refine okWr (wNum_s [m.offset] (by simp)) (by simp only [List.length_append, List.length_map] at hl ⊢; omega) ⟨⟨rfl, rfl⟩, trivial⟩ (Cos.refl _) rfl ?_
    | refine endWr0 (.inl rfl) rfl ⟨⟨rfl, rfl⟩, trivial⟩ (.refl _) ?_
  all_goals (first | rfl | simp)
theorem wUns12_s (m : MsgD) (hm : dMsg.ok m) (hl : (encI 12 ++ (numsB [m.src] ++ proofB m.proof)).length + 200 ≤ big) : FnS Tryz.prog 88 [.ptr 0 0, .agg (cMsg { m with kind := 12 })] [.cells 149 [.nils]] (fun r h => r = .tup [] ∧ h = oW (encI 12 ++ (numsB [m.src] ++ proofB m.proof))) := by
  refine mkS 222 [] Tryz.func88 rfl (by kernel_rfl) ?_
  repeat'
    (conv => arg 2; whnf)
    first
    | refine okAsk (by kernel_rfl) ?_
    | refine okBrT ?_
    | refine okBrF ?_
    | refine okCall [0] (wNum0_s _) (.mk' rfl ⟨⟨rfl, rfl⟩, trivial⟩) (Cos.refl _) rfl ?_
    | refine okWr (wNum_s [m.src] (by simp)) (by simp only [List.length_append, List.length_map] at hl ⊢; omega) ⟨⟨rfl, rfl⟩, trivial⟩ (Cos.refl _) rfl ?_
    | refine okWr (wProof_s m.proof hm.2.2.2.2.2.2.2.2.2.2.2.2.2.2.2.1) (by simp only [List.length_append, List.length_map] at hl ⊢; omega) ⟨⟨rfl, rfl⟩, trivial⟩ (Cos.refl _) rfl ?_
    | refine endWr0 (.inl rfl) rfl ⟨⟨rfl, rfl⟩, trivial⟩ (.refl _) ?_
  all_goals (first | rfl | simp)
theorem wUns8_s (m : MsgD) (hm : dMsg.ok m) (hl : (encI 8 ++ (numsB [m.src, m.view] ++ encI (m.changes.length : Int) ++ m.changes.flatMap chgB ++ encI (m.entries.length : Int) ++ m.entries.flatMap entryB)).length + 200 ≤ big) : FnS Tryz.prog 88 [.ptr 0 0, .agg (cMsg { m with kind := 8 })] [.cells 149 [.nils]] (fun r h => r = .tup [] ∧ h = oW (encI 8 ++ (numsB [m.src, m.view] ++ encI (m.changes.length : Int) ++ m.changes.flatMap chgB ++ encI (m.entries.length : Int) ++ m.entries.flatMap entryB))) := by
  refine mkS 222 [] Tryz.func88 rfl (by kernel_rfl) ?_
  repeat'
    (conv => arg 2; whnf)
    first
    | refine okAsk (by kernel_rfl) ?_
    | refine okBrT ?_
    | refine okBrF ?_
    | refine okLt' (fun hlt => ?_) (fun hge => ?_)
    | refine okNthMap (by simpa using hlt) (fun x hx => ?_)
    | refine okCall [0] (wNum0_s _) (.mk' rfl ⟨⟨rfl, rfl⟩, trivial⟩) (Cos.refl _) rfl ?_
    | refine okWr (wNum_s [m.src, m.view] (by simp)) (by simp only [List.length_append, List.length_map] at hl ⊢; omega) ⟨⟨rfl, rfl⟩, trivial⟩ (Cos.refl _) rfl ?_
    | refine okWr (wMany_s _) (by simp only [List.length_append, List.length_map] at hl ⊢; omega) ⟨⟨rfl, rfl⟩, trivial⟩ (Cos.refl _) rfl ?_
  conv => arg 2; whnf
  refine okLoop (α := Nat) (fun q => ⟨[(116, .int .i64 q), (115, .int .i64 (m.changes.map cChange).length), (114, .list 8 (m.changes.map cChange)), (3, .ptr 1 0), (0, .ptr 0 0)], [.cells 149 [.list 1 (((encI 8 ++ numsB [m.src, m.view] ++ encI ((m.changes.map cChange).length : Nat)) ++ (m.changes.take q).flatMap chgB).map cByte)], .cells 56 (cMsg { m with kind := 8 })]⟩) (fun q => q ≤ m.changes.length) (fun q => m.changes.length - q) 0 (Nat.zero_le _) (Sv.mk' [0, 1] rfl ⟨⟨rfl, by simp; rfl⟩, ⟨rfl, rfl⟩, trivial⟩ ⟨rfl, rfl, rfl, rfl, rfl, trivial⟩) ?_
  intro q hq
  have hll : m.changes.length ≤ 4194304 := hm.2.2.2.2.2.2.2.2.2.2.1.1
  repeat'
    (conv => arg 2; whnf)
    first
    | refine okAsk (by kernel_rfl) ?_
    | refine okBrT ?_
    | refine okBrF ?_
    | refine okLt' (fun hlt => ?_) (fun hge => ?_)
    | refine okNthMap (by simpa using hlt) (fun x hx => ?_)
    | refine okWr (wChange_s x (hm.2.2.2.2.2.2.2.2.2.2.1.2 x (List.mem_of_getElem? hx))) (by have := fm_at chgB hx; simp only [List.length_append, List.length_map] at hl this ⊢; omega) ⟨⟨rfl, rfl⟩, trivial⟩ (Cos.refl _) rfl ?_
    | refine okWrap (w64 (by simp at hlt; omega) (by simp at hlt; omega)) ?_
    | refine okAgain (q + 1) (Sv.mk' [0, 1] rfl ⟨⟨rfl, by rw [List.take_add_one, hx]; simp [chgB]; rfl⟩, ⟨rfl, rfl⟩, trivial⟩ ⟨rfl, rfl, rfl, rfl, rfl, trivial⟩) ?_ ?_
    | refine okOut ?_
    | refine okWr (wMany_s _) (by have := fm_le chgB m.changes q; simp only [List.length_append, List.length_map] at hl this ⊢; omega) ⟨⟨rfl, rfl⟩, trivial⟩ (Cos.refl _) rfl ?_
  · simp at hlt; omega
  · simp at hlt; omega
  rw [show m.changes.take q = m.changes from List.take_of_length_le (by simpa using hge)]
  clear hll hge
  conv => arg 2; whnf
  refine okLoop (α := Nat) (fun q => ⟨[(134, .int .i64 q), (133, .int .i64 (m.entries.map cEntry).length), (132, .list 5 (m.entries.map cEntry)), (3, .ptr 1 0), (0, .ptr 0 0)], [.cells 149 [.list 1 (((encI 8 ++ numsB [m.src, m.view] ++ encI (m.changes.length : Int) ++ m.changes.flatMap chgB ++ encI ((m.entries.map cEntry).length : Nat)) ++ (m.entries.take q).flatMap entryB).map cByte)], .cells 56 (cMsg { m with kind := 8 })]⟩) (fun q => q ≤ m.entries.length) (fun q => m.entries.length - q) 0 (Nat.zero_le _) (Sv.mk' [0, 1] rfl ⟨⟨rfl, by simp; rfl⟩, ⟨rfl, rfl⟩, trivial⟩ ⟨rfl, rfl, rfl, rfl, rfl, trivial⟩) ?_
  intro q hq
  have hll : m.entries.length ≤ 4194304 := hm.2.2.2.2.2.2.2.2.2.2.2.1.1
  repeat'
    (conv => arg 2; whnf)
    first
    | refine okAsk (by kernel_rfl) ?_
    | refine okBrT ?_
    | refine okBrF ?_
    | refine okLt' (fun hlt => ?_) (fun hge => ?_)
    | refine okNthMap (by simpa using hlt) (fun x hx => ?_)
    | refine okWr (wNum_s [x.view, x.seq] (by simp)) (by have := fm_at entryB hx; simp only [entryB, List.length_append, List.length_map] at hl this ⊢; omega) ⟨⟨rfl, rfl⟩, trivial⟩ (Cos.refl _) rfl ?_
    | refine okWr (wBatch_s x.batch (hm.2.2.2.2.2.2.2.2.2.2.2.1.2 x (List.mem_of_getElem? hx)).2.2.1) (by have := fm_at entryB hx; simp only [entryB, List.length_append, List.length_map] at hl this ⊢; omega) ⟨⟨rfl, rfl⟩, trivial⟩ (Cos.refl _) rfl ?_
    | refine okWr (wSign_s x.sign) (by have := fm_at entryB hx; simp only [entryB, List.length_append, List.length_map] at hl this ⊢; omega) ⟨⟨rfl, rfl⟩, trivial⟩ (Cos.refl _) rfl ?_
    | refine okWrap (w64 (by simp at hlt; omega) (by simp at hlt; omega)) ?_
    | refine okAgain (q + 1) (Sv.mk' [0, 1] rfl ⟨⟨rfl, by rw [List.take_add_one, hx]; simp [entryB]; rfl⟩, ⟨rfl, rfl⟩, trivial⟩ ⟨rfl, rfl, rfl, rfl, rfl, trivial⟩) ?_ ?_
    | refine okOut ?_
    | refine endWr0 (.inl rfl) rfl ⟨⟨rfl, rfl⟩, trivial⟩ (.refl _) ?_
  · simp at hlt; omega
  · simp at hlt; omega
  · rw [show m.entries.take q = m.entries from List.take_of_length_le (by simpa using hge)]
    simp
end Go.Proofs.YtbbcepmhkocgbaaGreatDoor

/- The writer of package message over a message that may be, without its signature. -/
namespace Go.Proofs.YtbbcepmhkocgbaaGreatDoor
open Go.RowKit
set_option linter.unusedVariables false

theorem rangeE_z {n a b : Int} (h : rangeE n a b = 0) : a ≤ n ∧ n ≤ b := by
  unfold rangeE at h
  split at h
  · cases h
  · omega
theorem kind_is {m : MsgD} (h : kindE m = 0) : m.kind = 1 ∨ m.kind = 2 ∨ m.kind = 3 ∨ m.kind = 4 ∨ m.kind = 5 ∨ m.kind = 6 ∨ m.kind = 7 ∨ m.kind = 8 ∨ m.kind = 9 ∨ m.kind = 10 ∨ m.kind = 11 ∨ m.kind = 12 := by
  unfold kindE at h
  repeat' split at h
  all_goals omega
theorem kind_eta (m : MsgD) {k : Int} (h : m.kind = k) : ({ m with kind := k } : MsgD) = m := by
  subst h
  rfl
theorem wUns_s (m : MsgD) (hm : dMsg.ok m) (h0 : kindE m = 0) (hl : (unsB m).length + 200 ≤ big) : FnS Tryz.prog 88 [.ptr 0 0, .agg (cMsg m)] [.cells 149 [.nils]] (fun r h => r = .tup [] ∧ h = oW (unsB m)) := by
  have h5 : m.kind = 5 → (0 ≤ m.result.err ∧ m.result.err ≤ 9223372036854775807) ∧ (0 ≤ m.result.offset ∧ m.result.offset ≤ 9223372036854775807) := fun hk => by
    simp only [kindE, hk] at h0
    simp [orE_zero] at h0
    obtain ⟨_, _, _, _, e1, e2⟩ := h0
    have := rangeE_z e1
    have := rangeE_z (show rangeE m.result.offset 0 9007199254740992 = 0 from e2)
    omega
  have h7 : m.kind = 7 → ∃ c, m.changes[0]? = some c := fun hk => by
    simp only [kindE, hk] at h0
    simp [orE_zero] at h0
    have := rangeE_z h0.1
    exact ⟨_, List.getElem?_eq_getElem (by omega)⟩
  rcases kind_is h0 with hk | hk | hk | hk | hk | hk | hk | hk | hk | hk | hk | hk
  · have u : unsB m = encI 1 ++ (batchP m.batch) := by simp [unsB, tailB, hk]
    rw [u] at hl ⊢
    have r := wUns1_s m hm hl
    rwa [kind_eta m hk] at r
  · have u : unsB m = encI 2 ++ (numsB [m.src, m.view, m.seq, m.digest] ++ batchP m.batch) := by simp [unsB, tailB, hk]
    rw [u] at hl ⊢
    have r := wUns2_s m hm hl
    rwa [kind_eta m hk] at r
  · have u : unsB m = encI 3 ++ (numsB [m.src, m.view, m.seq, m.digest]) := by simp [unsB, tailB, hk]
    rw [u] at hl ⊢
    have r := wUns3_s m hm hl
    rwa [kind_eta m hk] at r
  · have u : unsB m = encI 4 ++ (numsB [m.src, m.view, m.seq, m.digest]) := by simp [unsB, tailB, hk]
    rw [u] at hl ⊢
    have r := wUns4_s m hm hl
    rwa [kind_eta m hk] at r
  · have u : unsB m = encI 5 ++ (numsB [m.src, m.view, m.client, m.time] ++ resultB m.result) := by simp [unsB, tailB, hk]
    rw [u] at hl ⊢
    have r := wUns5_s m hm (h5 hk) hl
    rwa [kind_eta m hk] at r
  · have u : unsB m = encI 6 ++ (numsB [m.src, m.seq, m.digest]) := by simp [unsB, tailB, hk]
    rw [u] at hl ⊢
    have r := wUns6_s m hm hl
    rwa [kind_eta m hk] at r
  · obtain ⟨c, hc⟩ := h7 hk
    obtain ⟨r, hr⟩ : ∃ r, m.changes = c :: r := by
      cases hx : m.changes with
      | nil => rw [hx] at hc; cases hc
      | cons d r => rw [hx] at hc; cases hc; exact ⟨r, rfl⟩
    have u : unsB m = encI 7 ++ (bodyC c) := by simp [unsB, tailB, hk, hr]
    rw [u] at hl ⊢
    have r := wUns7_s m hm hc hl
    rwa [kind_eta m hk] at r
  · have u : unsB m = encI 8 ++ (numsB [m.src, m.view] ++ encI (m.changes.length : Int) ++ m.changes.flatMap chgB ++ encI (m.entries.length : Int) ++ m.entries.flatMap entryB) := by simp [unsB, tailB, hk]
    rw [u] at hl ⊢
    have r := wUns8_s m hm hl
    rwa [kind_eta m hk] at r
  · have u : unsB m = encI 9 ++ (numsB [m.src, m.seq]) := by simp [unsB, tailB, hk]
    rw [u] at hl ⊢
    have r := wUns9_s m hm hl
    rwa [kind_eta m hk] at r
  · have u : unsB m = encI 10 ++ (numsB [m.src] ++ certB m.cert ++ byF m.state) := by simp [unsB, tailB, hk]
    rw [u] at hl ⊢
    have r := wUns10_s m hm hl
    rwa [kind_eta m hk] at r
  · have u : unsB m = encI 11 ++ (numsB [m.client] ++ byF m.topic ++ numsB [m.offset]) := by simp [unsB, tailB, hk]
    rw [u] at hl ⊢
    have r := wUns11_s m hm hl
    rwa [kind_eta m hk] at r
  · have u : unsB m = encI 12 ++ (numsB [m.src] ++ proofB m.proof) := by simp [unsB, tailB, hk]
    rw [u] at hl ⊢
    have r := wUns12_s m hm hl
    rwa [kind_eta m hk] at r
end Go.Proofs.YtbbcepmhkocgbaaGreatDoor

/- The asker of package message over data: names, certificates, prepared batches, changes, proofs, votes, new views. -/
namespace Go.Proofs.YtbbcepmhkocgbaaGreatDoor
open Go.RowKit
set_option linter.unusedVariables false
set_option maxRecDepth 20000

theorem name_s (s : List UInt8) (hs : s.length ≤ 4194304) : FnP Tryz.prog 29 [.str s] (.bool (nameF s)) :=
  FnS.old (v := .bool (nameF s)) (fun _ _ => .bool _) (by kernel_rfl) (fun w I vs hv => by
    obtain ⟨v, rfl, h⟩ := hv.one_inv
    cases h
    exact name_c w s hs) rfl
theorem cBatch_s (l : List SignedD) (hl : (dL dSigned).ok l) : FnP Tryz.prog 160 [.list 9 (l.map cSigned)] (.int .i64 (batchE l)) :=
  FnS.old (v := .int .i64 (batchE l)) (fun _ _ => .int _ _) (by kernel_rfl) (fun w I vs hv => by
    obtain ⟨v, rfl, h⟩ := Drs.one_inv hv
    exact batchE_c ((LkL LkSigned).of hv hl)) rfl
theorem askName_s (s : List UInt8) (hs : s.length ≤ 4194304) : FnAsk 169 [.str s] (nameE s) := by
  intro e
  refine mkS 9 [] Tryz.func169 rfl (by kernel_rfl) ?_
  repeat'
    (conv => arg 2; whnf)
    first
    | refine okBrT ?_
    | refine okBrF ?_
    | refine okBr (fun h => ?_) (fun h => ?_)
    | refine okFn (name_s s hs) rfl (Cos.refl _) ?_
    | refine okAskr 0 (says_s _) ⟨⟨rfl, rfl⟩, trivial⟩ (Cos.refl _) rfl ?_
    | refine endAsk [0] (.inl rfl) rfl rfl ⟨⟨rfl, rfl⟩, trivial⟩ ⟨⟨rfl, rfl⟩, trivial⟩ (.refl _) ?_
  all_goals simp_all [nameE, orE_z]
theorem askCert_s (c : CertD) (hc : dCert.ok c) : FnAsk 167 [.agg (cCert c)] (certE c) := by
  intro e
  refine mkS 36 [] Tryz.func167 rfl (by kernel_rfl) ?_
  repeat'
    (conv => arg 2; whnf)
    first
    | refine okBrT ?_
    | refine okBrF ?_
    | refine okBr (fun h => ?_) (fun h => ?_)
    | refine okAsk (by kernel_rfl) ?_
    | refine okAskr 0 (askNum_s _) ⟨⟨rfl, rfl⟩, trivial⟩ (Cos.refl _) rfl ?_
    | refine okAskr 0 (says_s _) ⟨⟨rfl, rfl⟩, trivial⟩ (Cos.refl _) rfl ?_
    | refine okAskr 0 (askSigns_s c.signs hc.2.2.1) ⟨⟨rfl, rfl⟩, trivial⟩ (Cos.refl _) rfl ?_
    | refine endAsk [0] (.inl rfl) rfl rfl ⟨⟨rfl, rfl⟩, trivial⟩ ⟨⟨rfl, rfl⟩, trivial⟩ (.refl _) ?_
  all_goals
    simp only [certE, orE_assoc]
    by_cases h1 : c.seq = 0 <;> by_cases h2 : c.digest = 0 <;> by_cases h3 : 0 < c.signs.length <;> simp_all [z_orE, show ∀ a b : Int, (a == b) = decide (a = b) from fun _ _ => rfl]
theorem askPrep_s (p : PreparedD) (hp : dPrepared.ok p) : FnAsk 181 [.agg (cPrepared p)] (prepE p) := by
  intro e
  refine mkS 30 [] Tryz.func181 rfl (by kernel_rfl) ?_
  repeat'
    (conv => arg 2; whnf)
    first
    | refine okAsk (by kernel_rfl) ?_
    | refine okAskr 0 (askNum_s _) ⟨⟨rfl, rfl⟩, trivial⟩ (Cos.refl _) rfl ?_
    | refine okAskr 0 (askPos_s _) ⟨⟨rfl, rfl⟩, trivial⟩ (Cos.refl _) rfl ?_
    | refine okAskr 0 (says_s _) ⟨⟨rfl, rfl⟩, trivial⟩ (Cos.refl _) rfl ?_
    | refine okAskr 0 (askSigns_s p.signs hp.2.2.2.2.1.1) ⟨⟨rfl, rfl⟩, trivial⟩ (Cos.refl _) rfl ?_
    | refine okFn (cSign_s p.firstS) rfl (Cos.refl _) ?_
    | refine okFn (cBatch_s p.batch hp.2.2.2.2.2) rfl (Cos.refl _) ?_
    | refine endAsk [0] (.inl rfl) rfl rfl ⟨⟨rfl, rfl⟩, trivial⟩ ⟨⟨rfl, rfl⟩, trivial⟩ (.refl _) ?_
  all_goals simp only [prepE, orE_assoc]
theorem askVote_s (m : MsgD) : FnAsk 161 [.agg (cMsg m)] (voteE m) := by
  intro e
  refine mkS 20 [] Tryz.func161 rfl (by kernel_rfl) ?_
  repeat'
    (conv => arg 2; whnf)
    first
    | refine okAskr 0 (askBroker_s _) ⟨⟨rfl, rfl⟩, trivial⟩ (Cos.refl _) rfl ?_
    | refine okAskr 0 (askNum_s _) ⟨⟨rfl, rfl⟩, trivial⟩ (Cos.refl _) rfl ?_
    | refine okAskr 0 (askPos_s _) ⟨⟨rfl, rfl⟩, trivial⟩ (Cos.refl _) rfl ?_
    | refine endAsk [0] (.inl rfl) rfl rfl ⟨⟨rfl, rfl⟩, trivial⟩ ⟨⟨rfl, rfl⟩, trivial⟩ (.refl _) ?_
  all_goals simp only [voteE, orE_assoc]
-- PRINTED by gen_ac.py
theorem askChange_s (c : ChangeD) (hc : dChange.ok c) : FnAsk 165 [.agg (cChange c)] (chgE c) := by
  intro e
  refine mkS 39 [] Tryz.func165 rfl (by kernel_rfl) ?_
  repeat'
    (conv => arg 2; whnf)
    first
    | refine okAskr 0 (askPos_s _) ⟨⟨rfl, rfl⟩, trivial⟩ (Cos.refl _) rfl ?_
    | refine okAskr 0 (askBroker_s _) ⟨⟨rfl, rfl⟩, trivial⟩ (Cos.refl _) rfl ?_
    | refine okAskr 0 (askCert_s c.cert hc.2.2.1) ⟨⟨rfl, rfl⟩, trivial⟩ (Cos.refl _) rfl ?_
    | refine okAskr 0 (askMany_s _ _) ⟨⟨rfl, rfl⟩, trivial⟩ (Cos.refl _) rfl ?_
  conv => arg 2; whnf
  refine okLoop (α := Nat × Int) (fun a => ⟨[(26, .int .i64 a.1), (25, .int .i64 (c.above.map cPrepared).length), (24, .list 7 (c.above.map cPrepared)), (3, .ptr 1 0), (0, .ptr 0 0)], [.cells 195 [.int .i64 a.2], .cells 90 (cChange c)]⟩) (fun a => a.1 ≤ c.above.length ∧ a.2 = orE (orE (orE (orE (orE e (posE c.view)) (brokE c.src)) (certE c.cert)) (manyE c.above.length 8)) (listE prepE (c.above.take a.1))) (fun a => c.above.length - a.1) (0, orE (orE (orE (orE e (posE c.view)) (brokE c.src)) (certE c.cert)) (rangeE ((c.above.map cPrepared).length : Nat) 0 8)) ⟨Nat.zero_le _, by simp [listE, orE_z, manyE]⟩ (Sv.mk' [0, 1] rfl ⟨⟨rfl, rfl⟩, ⟨rfl, rfl⟩, trivial⟩ ⟨rfl, rfl, rfl, rfl, rfl, trivial⟩) ?_
  rintro ⟨q, e'⟩ ⟨hq, he⟩
  have hl : c.above.length ≤ 4194304 := hc.2.2.2.1.1
  repeat'
    (conv => arg 2; whnf)
    first
    | refine okBrT ?_
    | refine okBrF ?_
    | refine okBr (fun h => ?_) (fun h => ?_)
    | refine okNthMap (by simpa using h) (fun x hx => ?_)
    | refine okAskr 0 (askPrep_s x (hc.2.2.2.1.2 x (List.mem_of_getElem? hx))) ⟨⟨rfl, rfl⟩, trivial⟩ (Cos.refl _) rfl ?_
    | refine okFn (cSign_s c.sign) rfl (Cos.refl _) ?_
    | refine okAskr 0 (says_s _) ⟨⟨rfl, rfl⟩, trivial⟩ (Cos.refl _) rfl ?_
    | refine okWrap (w64 (by simp at h hq; omega) (by simp at h hq; omega)) ?_
    | refine okAgain (q + 1, _) (Sv.mk' [0, 1] rfl ⟨⟨rfl, rfl⟩, ⟨rfl, rfl⟩, trivial⟩ ⟨rfl, rfl, rfl, rfl, rfl, trivial⟩) ⟨?_, ?_⟩ ?_
    | refine okOut ?_
    | refine endAsk [0] (.inl rfl) rfl rfl ⟨⟨rfl, rfl⟩, trivial⟩ ⟨⟨rfl, rfl⟩, trivial⟩ (.refl _) ?_
  · show q + 1 ≤ c.above.length
    simp at h; omega
  · show orE e' (prepE x) = _
    rw [listE_at prepE hx, ← orE_assoc, ← he]
    try simp only [prepE, orE_assoc]
  · simp at h ⊢; omega
  · rw [he, show c.above.take q = c.above from List.take_of_length_le (by simp at h; omega)]
    simp only [chgE, orE_assoc]
theorem askNew_s (m : MsgD) (hm : dMsg.ok m) : FnAsk 166 [.agg (cMsg m)] (newE m) := by
  intro e
  refine mkS 63 [] Tryz.func166 rfl (by kernel_rfl) ?_
  repeat'
    (conv => arg 2; whnf)
    first
    | refine okAskr 0 (askBroker_s _) ⟨⟨rfl, rfl⟩, trivial⟩ (Cos.refl _) rfl ?_
    | refine okAskr 0 (askPos_s _) ⟨⟨rfl, rfl⟩, trivial⟩ (Cos.refl _) rfl ?_
    | refine okAskr 0 (askMany_s _ _) ⟨⟨rfl, rfl⟩, trivial⟩ (Cos.refl _) rfl ?_
  conv => arg 2; whnf
  refine okLoop (α := Nat × Int) (fun a => ⟨[(24, .int .i64 a.1), (23, .int .i64 (m.changes.map cChange).length), (22, .list 8 (m.changes.map cChange)), (3, .ptr 1 0), (0, .ptr 0 0)], [.cells 195 [.int .i64 a.2], .cells 56 (cMsg m)]⟩) (fun a => a.1 ≤ m.changes.length ∧ a.2 = orE (orE (orE (orE e (brokE m.src)) (posE m.view)) (manyE m.changes.length 13)) (listE chgE (m.changes.take a.1))) (fun a => m.changes.length - a.1) (0, orE (orE (orE e (brokE m.src)) (posE m.view)) (rangeE ((m.changes.map cChange).length : Nat) 0 13)) ⟨Nat.zero_le _, by simp [listE, orE_z, manyE]⟩ (Sv.mk' [0, 1] rfl ⟨⟨rfl, rfl⟩, ⟨rfl, rfl⟩, trivial⟩ ⟨rfl, rfl, rfl, rfl, rfl, trivial⟩) ?_
  rintro ⟨q, e'⟩ ⟨hq, he⟩
  have hl : m.changes.length ≤ 4194304 := hm.2.2.2.2.2.2.2.2.2.2.1.1
  repeat'
    (conv => arg 2; whnf)
    first
    | refine okBrT ?_
    | refine okBrF ?_
    | refine okBr (fun h => ?_) (fun h => ?_)
    | refine okNthMap (by simpa using h) (fun x hx => ?_)
    | refine okAskr 0 (askChange_s x (hm.2.2.2.2.2.2.2.2.2.2.1.2 x (List.mem_of_getElem? hx))) ⟨⟨rfl, rfl⟩, trivial⟩ (Cos.refl _) rfl ?_
    | refine okAskr 0 (askMany_s _ _) ⟨⟨rfl, rfl⟩, trivial⟩ (Cos.refl _) rfl ?_
    | refine okWrap (w64 (by simp at h hq; omega) (by simp at h hq; omega)) ?_
    | refine okAgain (q + 1, _) (Sv.mk' [0, 1] rfl ⟨⟨rfl, rfl⟩, ⟨rfl, rfl⟩, trivial⟩ ⟨rfl, rfl, rfl, rfl, rfl, trivial⟩) ⟨?_, ?_⟩ ?_
    | refine okOut ?_
  · show q + 1 ≤ m.changes.length
    simp at h; omega
  · show orE e' (chgE x) = _
    rw [listE_at chgE hx, ← orE_assoc, ← he]
    try simp only [chgE, orE_assoc]
  · simp at h ⊢; omega
  rw [show m.changes.take q = m.changes from List.take_of_length_le (by simp at h; omega)] at he
  replace he : e' = _ := he
  clear hq h hl
  generalize hE : e' = e1 at he
  clear hE e'
  conv => arg 2; whnf
  refine okLoop (α := Nat × Int) (fun a => ⟨[(40, .int .i64 a.1), (39, .int .i64 (m.entries.map cEntry).length), (38, .list 5 (m.entries.map cEntry)), (3, .ptr 1 0), (0, .ptr 0 0)], [.cells 195 [.int .i64 a.2], .cells 56 (cMsg m)]⟩) (fun a => a.1 ≤ m.entries.length ∧ a.2 = orE (orE (e1) (manyE m.entries.length 8)) (listE entryE (m.entries.take a.1))) (fun a => m.entries.length - a.1) (0, orE (e1) (rangeE ((m.entries.map cEntry).length : Nat) 0 8)) ⟨Nat.zero_le _, by simp [listE, orE_z, manyE]⟩ (Sv.mk' [0, 1] rfl ⟨⟨rfl, rfl⟩, ⟨rfl, rfl⟩, trivial⟩ ⟨rfl, rfl, rfl, rfl, rfl, trivial⟩) ?_
  rintro ⟨q, e'⟩ ⟨hq, he2⟩
  have hl : m.entries.length ≤ 4194304 := hm.2.2.2.2.2.2.2.2.2.2.2.1.1
  repeat'
    (conv => arg 2; whnf)
    first
    | refine okBrT ?_
    | refine okBrF ?_
    | refine okBr (fun h => ?_) (fun h => ?_)
    | refine okNthMap (by simpa using h) (fun x hx => ?_)
    | refine okAskr 0 (askNum_s _) ⟨⟨rfl, rfl⟩, trivial⟩ (Cos.refl _) rfl ?_
    | refine okAskr 0 (askPos_s _) ⟨⟨rfl, rfl⟩, trivial⟩ (Cos.refl _) rfl ?_
    | refine okFn (cBatch_s x.batch (hm.2.2.2.2.2.2.2.2.2.2.2.1.2 x (List.mem_of_getElem? hx)).2.2.1) rfl (Cos.refl _) ?_
    | refine okFn (cSign_s x.sign) rfl (Cos.refl _) ?_
    | refine okAskr 0 (says_s _) ⟨⟨rfl, rfl⟩, trivial⟩ (Cos.refl _) rfl ?_
    | refine okWrap (w64 (by simp at h hq; omega) (by simp at h hq; omega)) ?_
    | refine okAgain (q + 1, orE (orE (orE (orE e' (numE x.view)) (posE x.seq)) (batchE x.batch)) (signE x.sign)) (Sv.mk' [0, 1] rfl ⟨⟨rfl, rfl⟩, ⟨rfl, rfl⟩, trivial⟩ ⟨rfl, rfl, rfl, rfl, rfl, trivial⟩) ⟨?_, ?_⟩ ?_
    | refine okOut ?_
    | refine endAsk [0] (.inl rfl) rfl rfl ⟨⟨rfl, rfl⟩, trivial⟩ ⟨⟨rfl, rfl⟩, trivial⟩ (.refl _) ?_
  · show q + 1 ≤ m.entries.length
    simp at h; omega
  · show orE (orE (orE (orE e' (numE x.view)) (posE x.seq)) (batchE x.batch)) (signE x.sign) = _
    rw [listE_at entryE hx, ← orE_assoc, ← he2]
    try simp only [entryE, orE_assoc]
  · simp at h ⊢; omega
  · rw [he2, show m.entries.take q = m.entries from List.take_of_length_le (by simp at h; omega), he]
    simp only [newE, orE_assoc]
end Go.Proofs.YtbbcepmhkocgbaaGreatDoor

