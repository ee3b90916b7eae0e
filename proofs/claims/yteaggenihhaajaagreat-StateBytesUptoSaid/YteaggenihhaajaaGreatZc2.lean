/- Lemmas and contracts, part Zg16.3. -/
import Derived.Test.YteaggenihhaajaaGreatZc1
import Derived.Deep.Light
import Derived.Lib.ConvBytes
import Derived.Deep.RegionHeld3
/- The writer of package message over a message without its signature, from no bytes (printed by gen_ai.py). -/
namespace Go.Proofs.YteaggenihhaajaaGreat
open Go.RowKit
set_option linter.unusedVariables false
set_option maxRecDepth 20000

section
variable {P : Program}
theorem endBy [Wd] {tb : TT} {rs : List ResultVar} {e : Exit} {s : S} {xs ys : List UInt8} (he : e = .normal ∨ e = .ret) (hr : resD tb s rs = some [.list 1 (xs.map cByte)]) (h : xs = ys) : (T.leaf e s).ok P (Lf tb rs [] (fun r' h' => r' = .list 1 (ys.map cByte) ∧ h' = [])) := by
  subst h
  exact endFn0 he hr (.refl _) rfl
theorem endBy2 [Wd] {tb : TT} {rs : List ResultVar} {e : Exit} {s : S} {xs ys : List UInt8} {d : D} (he : e = .normal ∨ e = .ret) (hr : resD tb s rs = some [.list 1 (xs.map cByte), d]) (h : xs = ys) (hp : pureD d = true) : (T.leaf e s).ok P (Lf tb rs [] (fun r' h' => r' = .tup [.list 1 (ys.map cByte), d] ∧ h' = [])) := by
  subst h
  exact endFn0 he hr (.refl _) (by simp [pureD, pureD.pl, hp])
end
theorem encI_l (n : Int) : (encI n).length ≤ 10 := by
  unfold encI
  exact enc_10 (by omega)
theorem resI {a : Int} (h : 0 ≤ a ∧ a ≤ 9223372036854775807) : encI (if a < 0 then 0 else a) = enc (max a 0).toNat := by
  rw [if_neg (by omega), encI_nat h.1 (by omega), Int.max_eq_left h.1]
theorem putResult_s [Wd] (bs : List UInt8) (x : ResultD) (he : 0 ≤ x.err ∧ x.err ≤ 9223372036854775807) (ho : 0 ≤ x.offset ∧ x.offset ≤ 9223372036854775807) (hl : bs.length + 110 ≤ big) : FnP Tryz.prog 264 [.list 1 (bs.map cByte), .agg (cResult x)] (.list 1 ((bs ++ resultB x).map cByte)) := by
  have p1 := encI_l (if x.err < 0 then 0 else x.err)
  refine mkS 16 [(1, ⟨[(0, false), (1, false), (2, false), (3, false), (4, false), (6, false), (7, false), (8, false), (9, false), (5, true), (10, true), (11, false)], []⟩)] Tryz.func264 rfl (by kernel_rfl) ?_
  repeat'
    (conv => arg 2; whnf)
    first
    | refine okAsk (by kernel_rfl) ?_
    | refine okRaw ?_
    | refine okFn (putNum_s _ _ (by (try simp only [List.length_append]); omega)) rfl (Cos.refl _) ?_
    | (refine endBy (.inr rfl) rfl ?_; rw [resI he, resI ho, List.append_assoc]; rfl)
/-- the first number, from no bytes -/
theorem wNum0_s [Wd] (n : Int) : FnS Tryz.prog 257 [.ptr 0 0, .list 1 ([n].map cNum)] [.cells 297 [.nils]] (fun r h => r = .tup [] ∧ h = oW (encI n)) := by
  refine mkS 23 [] Tryz.func257 rfl (by kernel_rfl) ?_
  conv => arg 2; whnf
  refine okLoop (α := Bool) (fun b => match b with
    | false => ⟨[(8, .int .i64 0), (7, .int .i64 1), (6, .list 1 ([n].map cNum)), (0, .ptr 0 0)], [.cells 297 [.nils]]⟩
    | true => ⟨[(8, .int .i64 1), (7, .int .i64 1), (6, .list 1 ([n].map cNum)), (0, .ptr 0 0)], oW (encI n)⟩) (fun _ => True) (fun b => bif b then 0 else 1) false trivial (Sv.mk' [0] rfl ⟨⟨rfl, rfl⟩, trivial⟩ ⟨rfl, rfl, rfl, rfl, trivial⟩) ?_
  rintro (_ | _) _
  all_goals
    repeat'
      (conv => arg 2; whnf)
      first
      | refine okBrT ?_
      | refine okBrF ?_
      | refine okNth (cNum n) (by decide) rfl ?_
      | refine okFn (putNum_s [] n (by simp [big])) rfl (Cos.cons (Co.nil _) (.refl _)) ?_
      | refine okWrap (w64 (by decide) (by decide)) ?_
      | refine okRaw ?_
      | exact okAgain true (Sv.mk' [0] rfl ⟨⟨rfl, rfl⟩, trivial⟩ ⟨rfl, rfl, rfl, rfl, trivial⟩) trivial (by decide)
      | refine okOut ?_
      | exact endObj [0] (.inl rfl) rfl rfl ⟨⟨rfl, rfl⟩, trivial⟩ ⟨⟨rfl, rfl⟩, trivial⟩ (.refl _)
theorem wShort_s [Wd] (bs : List UInt8) (hs : ¬ 262144 < bs.length) : FnS Tryz.prog 220 [.ptr 0 0] (oW bs) (fun r h => r = .tup [.list 1 (bs.map cByte), .int .i64 0] ∧ h = oW bs) := by
  refine mkS 16 [] Tryz.func220 rfl (by kernel_rfl) ?_
  repeat'
    (conv => arg 2; whnf)
    first
    | refine okBr (fun h => ?_) (fun h => ?_)
    | exact endObj [0] (.inr rfl) rfl rfl ⟨⟨rfl, rfl⟩, trivial⟩ ⟨⟨rfl, rfl⟩, trivial⟩ (.refl _)
  simp at h
  omega
theorem wShortL_s [Wd] (bs : List UInt8) (h : 262144 < bs.length) : FnS Tryz.prog 220 [.ptr 0 0] (oW bs) (fun r h => r = .tup [.nils, .int .i64 3] ∧ h = oW bs) := by
  refine mkS 16 [] Tryz.func220 rfl (by kernel_rfl) ?_
  repeat'
    (conv => arg 2; whnf)
    first
    | refine okBr (fun h => ?_) (fun h => ?_)
    | exact endObj [0] (.inr rfl) rfl rfl ⟨⟨rfl, rfl⟩, trivial⟩ ⟨⟨rfl, rfl⟩, trivial⟩ (.refl _)
  simp at h
  omega
theorem endWr0 [Wd] {tb : TT} {rs : List ResultVar} {ex : Exit} {s : S} {bs' : List UInt8} {ds : List D} (he : ex = .normal ∨ ex = .ret) (hr : resD tb s rs = some ds) (hv : vwP s.h [0] [0] (oW bs')) (hco : Co (resV ds) (.tup [])) {add : List UInt8} (hx : bs' = add) : (T.leaf ex s).ok Tryz.prog (Lf tb rs [.cells 297 [.nils]] (fun r h => r = .tup [] ∧ h = oW add)) := by
  subst hx
  exact endObj [0] he hr rfl hv ⟨⟨rfl, rfl⟩, trivial⟩ hco
end Go.Proofs.YteaggenihhaajaaGreat

/- The writer of package message over a message without its signature, a kind at a time (printed by gen_al.py). -/
namespace Go.Proofs.YteaggenihhaajaaGreat
open Go.RowKit
set_option linter.unusedVariables false
set_option maxRecDepth 20000

theorem wUns1_s [Wd] (m : MsgD) (hm : dMsg.ok m) (hl : (encI 1 ++ (batchP m.batch)).length + 200 ≤ big) : FnS Tryz.prog 226 [.ptr 0 0, .agg (cMsg { m with kind := 1 })] [.cells 297 [.nils]] (fun r h => r = .tup [] ∧ h = oW (encI 1 ++ (batchP m.batch))) := by
  refine mkS 222 [] Tryz.func226 rfl (by kernel_rfl) ?_
  repeat'
    (conv => arg 2; whnf)
    first
    | refine okAsk (by kernel_rfl) ?_
    | refine okBrT ?_
    | refine okBrF ?_
    | refine okCall [0] (wNum0_s _) (.mk' rfl ⟨⟨rfl, rfl⟩, trivial⟩) (Cos.refl _) rfl ?_
    | refine okWr (wBatch_s m.batch hm.2.2.2.2.2.2.2.2.1) (by simp only [List.length_append] at hl ⊢; omega) ⟨⟨rfl, rfl⟩, trivial⟩ (Cos.refl _) rfl ?_
    | refine endWr0 (.inl rfl) rfl ⟨⟨rfl, rfl⟩, trivial⟩ (.refl _) ?_
  all_goals (first | rfl | simp)
theorem wUns2_s [Wd] (m : MsgD) (hm : dMsg.ok m) (hl : (encI 2 ++ (numsB [m.src, m.view, m.seq, m.digest] ++ batchP m.batch)).length + 200 ≤ big) : FnS Tryz.prog 226 [.ptr 0 0, .agg (cMsg { m with kind := 2 })] [.cells 297 [.nils]] (fun r h => r = .tup [] ∧ h = oW (encI 2 ++ (numsB [m.src, m.view, m.seq, m.digest] ++ batchP m.batch))) := by
  refine mkS 222 [] Tryz.func226 rfl (by kernel_rfl) ?_
  repeat'
    (conv => arg 2; whnf)
    first
    | refine okAsk (by kernel_rfl) ?_
    | refine okBrT ?_
    | refine okBrF ?_
    | refine okCall [0] (wNum0_s _) (.mk' rfl ⟨⟨rfl, rfl⟩, trivial⟩) (Cos.refl _) rfl ?_
    | refine okWr (wNum_s [m.src, m.view, m.seq, m.digest] (by simp)) (by simp only [List.length_append] at hl ⊢; omega) ⟨⟨rfl, rfl⟩, trivial⟩ (Cos.refl _) rfl ?_
    | refine okWr (wBatch_s m.batch hm.2.2.2.2.2.2.2.2.1) (by simp only [List.length_append] at hl ⊢; omega) ⟨⟨rfl, rfl⟩, trivial⟩ (Cos.refl _) rfl ?_
    | refine endWr0 (.inl rfl) rfl ⟨⟨rfl, rfl⟩, trivial⟩ (.refl _) ?_
  all_goals (first | rfl | simp)
theorem wUns3_s [Wd] (m : MsgD) (hm : dMsg.ok m) (hl : (encI 3 ++ (numsB [m.src, m.view, m.seq, m.digest])).length + 200 ≤ big) : FnS Tryz.prog 226 [.ptr 0 0, .agg (cMsg { m with kind := 3 })] [.cells 297 [.nils]] (fun r h => r = .tup [] ∧ h = oW (encI 3 ++ (numsB [m.src, m.view, m.seq, m.digest]))) := by
  refine mkS 222 [] Tryz.func226 rfl (by kernel_rfl) ?_
  repeat'
    (conv => arg 2; whnf)
    first
    | refine okAsk (by kernel_rfl) ?_
    | refine okBrT ?_
    | refine okBrF ?_
    | refine okCall [0] (wNum0_s _) (.mk' rfl ⟨⟨rfl, rfl⟩, trivial⟩) (Cos.refl _) rfl ?_
    | refine okWr (wNum_s [m.src, m.view, m.seq, m.digest] (by simp)) (by simp only [List.length_append] at hl ⊢; omega) ⟨⟨rfl, rfl⟩, trivial⟩ (Cos.refl _) rfl ?_
    | refine endWr0 (.inl rfl) rfl ⟨⟨rfl, rfl⟩, trivial⟩ (.refl _) ?_
  all_goals (first | rfl | simp)
theorem wUns4_s [Wd] (m : MsgD) (hm : dMsg.ok m) (hl : (encI 4 ++ (numsB [m.src, m.view, m.seq, m.digest])).length + 200 ≤ big) : FnS Tryz.prog 226 [.ptr 0 0, .agg (cMsg { m with kind := 4 })] [.cells 297 [.nils]] (fun r h => r = .tup [] ∧ h = oW (encI 4 ++ (numsB [m.src, m.view, m.seq, m.digest]))) := by
  refine mkS 222 [] Tryz.func226 rfl (by kernel_rfl) ?_
  repeat'
    (conv => arg 2; whnf)
    first
    | refine okAsk (by kernel_rfl) ?_
    | refine okBrT ?_
    | refine okBrF ?_
    | refine okCall [0] (wNum0_s _) (.mk' rfl ⟨⟨rfl, rfl⟩, trivial⟩) (Cos.refl _) rfl ?_
    | refine okWr (wNum_s [m.src, m.view, m.seq, m.digest] (by simp)) (by simp only [List.length_append] at hl ⊢; omega) ⟨⟨rfl, rfl⟩, trivial⟩ (Cos.refl _) rfl ?_
    | refine endWr0 (.inl rfl) rfl ⟨⟨rfl, rfl⟩, trivial⟩ (.refl _) ?_
  all_goals (first | rfl | simp)
theorem wUns5_s [Wd] (m : MsgD) (hm : dMsg.ok m) (h5 : (0 ≤ m.result.err ∧ m.result.err ≤ 9223372036854775807) ∧ (0 ≤ m.result.offset ∧ m.result.offset ≤ 9223372036854775807)) (hl : (encI 5 ++ (numsB [m.src, m.view, m.client, m.time] ++ resultB m.result)).length + 200 ≤ big) : FnS Tryz.prog 226 [.ptr 0 0, .agg (cMsg { m with kind := 5 })] [.cells 297 [.nils]] (fun r h => r = .tup [] ∧ h = oW (encI 5 ++ (numsB [m.src, m.view, m.client, m.time] ++ resultB m.result))) := by
  refine mkS 222 [(13, ⟨[(0, false), (1, false), (2, false), (3, false), (4, false), (6, false), (7, false), (5, true), (8, true), (9, false), (10, false), (11, false), (12, true)], [0]⟩)] Tryz.func226 rfl (by kernel_rfl) ?_
  repeat'
    (conv => arg 2; whnf)
    first
    | refine okAsk (by kernel_rfl) ?_
    | refine okBrT ?_
    | refine okBrF ?_
    | refine okCall [0] (wNum0_s _) (.mk' rfl ⟨⟨rfl, rfl⟩, trivial⟩) (Cos.refl _) rfl ?_
    | refine okWr (wNum_s [m.src, m.view, m.client, m.time] (by simp)) (by simp only [List.length_append] at hl ⊢; omega) ⟨⟨rfl, rfl⟩, trivial⟩ (Cos.refl _) rfl ?_
    | refine okFn (putResult_s _ m.result h5.1 h5.2 (by simp only [List.length_append] at hl ⊢; omega)) rfl (Cos.refl _) ?_
    | refine endWr0 (.inl rfl) rfl ⟨⟨rfl, rfl⟩, trivial⟩ (.refl _) ?_
  all_goals (first | rfl | simp)
theorem wUns6_s [Wd] (m : MsgD) (hm : dMsg.ok m) (hl : (encI 6 ++ (numsB [m.src, m.seq, m.digest])).length + 200 ≤ big) : FnS Tryz.prog 226 [.ptr 0 0, .agg (cMsg { m with kind := 6 })] [.cells 297 [.nils]] (fun r h => r = .tup [] ∧ h = oW (encI 6 ++ (numsB [m.src, m.seq, m.digest]))) := by
  refine mkS 222 [] Tryz.func226 rfl (by kernel_rfl) ?_
  repeat'
    (conv => arg 2; whnf)
    first
    | refine okAsk (by kernel_rfl) ?_
    | refine okBrT ?_
    | refine okBrF ?_
    | refine okCall [0] (wNum0_s _) (.mk' rfl ⟨⟨rfl, rfl⟩, trivial⟩) (Cos.refl _) rfl ?_
    | refine okWr (wNum_s [m.src, m.seq, m.digest] (by simp)) (by simp only [List.length_append] at hl ⊢; omega) ⟨⟨rfl, rfl⟩, trivial⟩ (Cos.refl _) rfl ?_
    | refine endWr0 (.inl rfl) rfl ⟨⟨rfl, rfl⟩, trivial⟩ (.refl _) ?_
  all_goals (first | rfl | simp)
theorem wUns7_s [Wd] (m : MsgD) (hm : dMsg.ok m) {c : ChangeD} (h7 : m.changes[0]? = some c) (hl : (encI 7 ++ (bodyC c)).length + 200 ≤ big) : FnS Tryz.prog 226 [.ptr 0 0, .agg (cMsg { m with kind := 7 })] [.cells 297 [.nils]] (fun r h => r = .tup [] ∧ h = oW (encI 7 ++ (bodyC c))) := by
  refine mkS 222 [] Tryz.func226 rfl (by kernel_rfl) ?_
  repeat'
    (conv => arg 2; whnf)
    first
    | refine okAsk (by kernel_rfl) ?_
    | refine okBrT ?_
    | refine okBrF ?_
    | refine okCall [0] (wNum0_s _) (.mk' rfl ⟨⟨rfl, rfl⟩, trivial⟩) (Cos.refl _) rfl ?_
    | refine okNth (cChange c) (by decide) (by simp [h7]) ?_
    | refine okWr (wBody_s c (hm.2.2.2.2.2.2.2.2.2.2.1.2 c (List.mem_of_getElem? h7))) (by simp only [List.length_append] at hl ⊢; omega) ⟨⟨rfl, rfl⟩, trivial⟩ (Cos.refl _) rfl ?_
    | refine endWr0 (.inl rfl) rfl ⟨⟨rfl, rfl⟩, trivial⟩ (.refl _) ?_
  all_goals (first | rfl | simp)
theorem wUns9_s [Wd] (m : MsgD) (hm : dMsg.ok m) (hl : (encI 9 ++ (numsB [m.src, m.seq])).length + 200 ≤ big) : FnS Tryz.prog 226 [.ptr 0 0, .agg (cMsg { m with kind := 9 })] [.cells 297 [.nils]] (fun r h => r = .tup [] ∧ h = oW (encI 9 ++ (numsB [m.src, m.seq]))) := by
  refine mkS 222 [] Tryz.func226 rfl (by kernel_rfl) ?_
  repeat'
    (conv => arg 2; whnf)
    first
    | refine okAsk (by kernel_rfl) ?_
    | refine okBrT ?_
    | refine okBrF ?_
    | refine okCall [0] (wNum0_s _) (.mk' rfl ⟨⟨rfl, rfl⟩, trivial⟩) (Cos.refl _) rfl ?_
    | refine okWr (wNum_s [m.src, m.seq] (by simp)) (by simp only [List.length_append] at hl ⊢; omega) ⟨⟨rfl, rfl⟩, trivial⟩ (Cos.refl _) rfl ?_
    | refine endWr0 (.inl rfl) rfl ⟨⟨rfl, rfl⟩, trivial⟩ (.refl _) ?_
  all_goals (first | rfl | simp)
theorem wUns10_s [Wd] (m : MsgD) (hm : dMsg.ok m) (hl : (encI 10 ++ (numsB [m.src] ++ certB m.cert ++ byF m.state)).length + 200 ≤ big) : FnS Tryz.prog 226 [.ptr 0 0, .agg (cMsg { m with kind := 10 })] [.cells 297 [.nils]] (fun r h => r = .tup [] ∧ h = oW (encI 10 ++ (numsB [m.src] ++ certB m.cert ++ byF m.state))) := by
  refine mkS 222 [] Tryz.func226 rfl (by kernel_rfl) ?_
  repeat'
    (conv => arg 2; whnf)
    first
    | refine okAsk (by kernel_rfl) ?_
    | refine okBrT ?_
    | refine okBrF ?_
    | refine okCall [0] (wNum0_s _) (.mk' rfl ⟨⟨rfl, rfl⟩, trivial⟩) (Cos.refl _) rfl ?_
    | refine okWr (wNum_s [m.src] (by simp)) (by simp only [List.length_append] at hl ⊢; omega) ⟨⟨rfl, rfl⟩, trivial⟩ (Cos.refl _) rfl ?_
    | refine okWr (wCert_s m.cert hm.2.2.2.2.2.2.2.2.2.1) (by simp only [List.length_append] at hl ⊢; omega) ⟨⟨rfl, rfl⟩, trivial⟩ (Cos.refl _) rfl ?_
    | refine okWr (wStr_s m.state hm.2.2.2.2.2.2.2.2.2.2.2.2.1) (by simp only [List.length_append] at hl ⊢; omega) ⟨⟨rfl, rfl⟩, trivial⟩ (Cos.refl _) rfl ?_
    | refine endWr0 (.inl rfl) rfl ⟨⟨rfl, rfl⟩, trivial⟩ (.refl _) ?_
  all_goals (first | rfl | simp)
theorem wUns11_s [Wd] (m : MsgD) (hm : dMsg.ok m) (hl : (encI 11 ++ (numsB [m.client] ++ byF m.topic ++ numsB [m.offset])).length + 200 ≤ big) : FnS Tryz.prog 226 [.ptr 0 0, .agg (cMsg { m with kind := 11 })] [.cells 297 [.nils]] (fun r h => r = .tup [] ∧ h = oW (encI 11 ++ (numsB [m.client] ++ byF m.topic ++ numsB [m.offset]))) := by
  refine mkS 222 [(42, ⟨[(0, false), (1, false), (2, false), (3, false), (4, false), (5, true), (6, true)], [0]⟩)] Tryz.func226 rfl (by kernel_rfl) ?_
  repeat'
    (conv => arg 2; whnf)
    first
    | refine okAsk (by kernel_rfl) ?_
    | refine okBrT ?_
    | refine okBrF ?_
    | refine okCall [0] (wNum0_s _) (.mk' rfl ⟨⟨rfl, rfl⟩, trivial⟩) (Cos.refl _) rfl ?_
    | refine okWr (wNum_s [m.client] (by simp)) (by simp only [List.length_append] at hl ⊢; omega) ⟨⟨rfl, rfl⟩, trivial⟩ (Cos.refl _) rfl ?_
    | refine okAsk (by have : m.topic.length ≤ 4194304 := hm.2.2.2.2.2.2.2.2.2.2.2.2.2.1; simp only; omega) ?_
    | refine okWr (wStr_s m.topic hm.2.2.2.2.2.2.2.2.2.2.2.2.2.1) (by simp only [List.length_append] at hl ⊢; omega) ⟨⟨rfl, rfl⟩, trivial⟩ (Cos.refl _) rfl ?_
    | refine okWr (wNum_s [m.offset] (by simp)) (by simp only [List.length_append] at hl ⊢; omega) ⟨⟨rfl, rfl⟩, trivial⟩ (Cos.refl _) rfl ?_
    | refine endWr0 (.inl rfl) rfl ⟨⟨rfl, rfl⟩, trivial⟩ (.refl _) ?_
  all_goals (first | rfl | simp)
theorem wUns12_s [Wd] (m : MsgD) (hm : dMsg.ok m) (hl : (encI 12 ++ (numsB [m.src] ++ proofB m.proof)).length + 200 ≤ big) : FnS Tryz.prog 226 [.ptr 0 0, .agg (cMsg { m with kind := 12 })] [.cells 297 [.nils]] (fun r h => r = .tup [] ∧ h = oW (encI 12 ++ (numsB [m.src] ++ proofB m.proof))) := by
  refine mkS 222 [] Tryz.func226 rfl (by kernel_rfl) ?_
  repeat'
    (conv => arg 2; whnf)
    first
    | refine okAsk (by kernel_rfl) ?_
    | refine okBrT ?_
    | refine okBrF ?_
    | refine okCall [0] (wNum0_s _) (.mk' rfl ⟨⟨rfl, rfl⟩, trivial⟩) (Cos.refl _) rfl ?_
    | refine okWr (wNum_s [m.src] (by simp)) (by simp only [List.length_append] at hl ⊢; omega) ⟨⟨rfl, rfl⟩, trivial⟩ (Cos.refl _) rfl ?_
    | refine okWr (wProof_s m.proof hm.2.2.2.2.2.2.2.2.2.2.2.2.2.2.2.1) (by simp only [List.length_append] at hl ⊢; omega) ⟨⟨rfl, rfl⟩, trivial⟩ (Cos.refl _) rfl ?_
    | refine endWr0 (.inl rfl) rfl ⟨⟨rfl, rfl⟩, trivial⟩ (.refl _) ?_
  all_goals (first | rfl | simp)
theorem wUns8_s [Wd] (m : MsgD) (hm : dMsg.ok m) (hl : (encI 8 ++ (numsB [m.src, m.view] ++ encI (m.changes.length : Int) ++ m.changes.flatMap chgB ++ encI (m.entries.length : Int) ++ m.entries.flatMap entryB)).length + 200 ≤ big) : FnS Tryz.prog 226 [.ptr 0 0, .agg (cMsg { m with kind := 8 })] [.cells 297 [.nils]] (fun r h => r = .tup [] ∧ h = oW (encI 8 ++ (numsB [m.src, m.view] ++ encI (m.changes.length : Int) ++ m.changes.flatMap chgB ++ encI (m.entries.length : Int) ++ m.entries.flatMap entryB))) := by
  refine mkS 222 [] Tryz.func226 rfl (by kernel_rfl) ?_
  repeat'
    (conv => arg 2; whnf)
    first
    | refine okAsk (by kernel_rfl) ?_
    | refine okBrT ?_
    | refine okBrF ?_
    | refine okLt' (fun hlt => ?_) (fun hge => ?_)
    | refine okNthMap (by simpa using hlt) (fun x hx => ?_)
    | refine okCall [0] (wNum0_s _) (.mk' rfl ⟨⟨rfl, rfl⟩, trivial⟩) (Cos.refl _) rfl ?_
    | refine okWr (wNum_s [m.src, m.view] (by simp)) (by simp only [List.length_append] at hl ⊢; omega) ⟨⟨rfl, rfl⟩, trivial⟩ (Cos.refl _) rfl ?_
    | refine okWr (wMany_s _) (by simp only [List.length_append, List.length_map] at hl ⊢; omega) ⟨⟨rfl, rfl⟩, trivial⟩ (Cos.refl _) rfl ?_
  conv => arg 2; whnf
  refine okLoop (α := Nat) (fun q => ⟨[(116, .int .i64 q), (115, .int .i64 (m.changes.map cChange).length), (114, .list 8 (m.changes.map cChange)), (3, .ptr 1 0), (0, .ptr 0 0)], [.cells 297 [.list 1 (((encI 8 ++ numsB [m.src, m.view] ++ encI ((m.changes.map cChange).length : Nat)) ++ (m.changes.take q).flatMap chgB).map cByte)], .cells 122 (cMsg { m with kind := 8 })]⟩) (fun q => q ≤ m.changes.length) (fun q => m.changes.length - q) 0 (Nat.zero_le _) (Sv.mk' [0, 1] rfl ⟨⟨rfl, by simp; rfl⟩, ⟨rfl, rfl⟩, trivial⟩ ⟨rfl, rfl, rfl, rfl, rfl, trivial⟩) ?_
  intro q hq
  have hll : m.changes.length ≤ 4194304 := hm.2.2.2.2.2.2.2.2.2.2.1.1
  repeat'
    (conv => arg 2; whnf)
    first
    | refine okAsk (by kernel_rfl) ?_
    | refine okBrT ?_
    | refine okBrF ?_
    | refine okLt' (fun hlt => ?_) (fun hge => ?_)
    | refine okNthMap (by simpa using hlt) (fun x hx => ?_)
    | refine okWr (wChange_s x (hm.2.2.2.2.2.2.2.2.2.2.1.2 x (List.mem_of_getElem? hx))) (by have := fm_at chgB hx; simp only [List.length_append, List.length_map] at hl this ⊢; omega) ⟨⟨rfl, rfl⟩, trivial⟩ (Cos.refl _) rfl ?_
    | refine okWrap (w64 (by simp at hlt; omega) (by simp at hlt; omega)) ?_
    | refine okAgain (q + 1) (Sv.mk' [0, 1] rfl ⟨⟨rfl, by rw [List.take_add_one, hx]; simp [chgB]; rfl⟩, ⟨rfl, rfl⟩, trivial⟩ ⟨rfl, rfl, rfl, rfl, rfl, trivial⟩) ?_ ?_
    | refine okOut ?_
    | refine okWr (wMany_s _) (by have := fm_le chgB m.changes q; simp only [List.length_append, List.length_map] at hl this ⊢; omega) ⟨⟨rfl, rfl⟩, trivial⟩ (Cos.refl _) rfl ?_
  · simp at hlt; omega
  · simp at hlt; omega
  rw [show m.changes.take q = m.changes from List.take_of_length_le (by simpa using hge)]
  clear hll hge
  conv => arg 2; whnf
  refine okLoop (α := Nat) (fun q => ⟨[(134, .int .i64 q), (133, .int .i64 (m.entries.map cEntry).length), (132, .list 5 (m.entries.map cEntry)), (3, .ptr 1 0), (0, .ptr 0 0)], [.cells 297 [.list 1 (((encI 8 ++ numsB [m.src, m.view] ++ encI (m.changes.length : Int) ++ m.changes.flatMap chgB ++ encI ((m.entries.map cEntry).length : Nat)) ++ (m.entries.take q).flatMap entryB).map cByte)], .cells 122 (cMsg { m with kind := 8 })]⟩) (fun q => q ≤ m.entries.length) (fun q => m.entries.length - q) 0 (Nat.zero_le _) (Sv.mk' [0, 1] rfl ⟨⟨rfl, by simp; rfl⟩, ⟨rfl, rfl⟩, trivial⟩ ⟨rfl, rfl, rfl, rfl, rfl, trivial⟩) ?_
  intro q hq
  have hll : m.entries.length ≤ 4194304 := hm.2.2.2.2.2.2.2.2.2.2.2.1.1
  repeat'
    (conv => arg 2; whnf)
    first
    | refine okAsk (by kernel_rfl) ?_
    | refine okBrT ?_
    | refine okBrF ?_
    | refine okLt' (fun hlt => ?_) (fun hge => ?_)
    | refine okNthMap (by simpa using hlt) (fun x hx => ?_)
    | refine okWr (wNum_s [x.view, x.seq] (by simp)) (by have := fm_at entryB hx; simp only [entryB, List.length_append, List.length_map] at hl this ⊢; omega) ⟨⟨rfl, rfl⟩, trivial⟩ (Cos.refl _) rfl ?_
    | refine okWr (wBatch_s x.batch (hm.2.2.2.2.2.2.2.2.2.2.2.1.2 x (List.mem_of_getElem? hx)).2.2.1) (by have := fm_at entryB hx; simp only [entryB, List.length_append, List.length_map] at hl this ⊢; omega) ⟨⟨rfl, rfl⟩, trivial⟩ (Cos.refl _) rfl ?_
    | refine okWr (wSign_s x.sign) (by have := fm_at entryB hx; simp only [entryB, List.length_append, List.length_map] at hl this ⊢; omega) ⟨⟨rfl, rfl⟩, trivial⟩ (Cos.refl _) rfl ?_
    | refine okWrap (w64 (by simp at hlt; omega) (by simp at hlt; omega)) ?_
    | refine okAgain (q + 1) (Sv.mk' [0, 1] rfl ⟨⟨rfl, by rw [List.take_add_one, hx]; simp [entryB]; rfl⟩, ⟨rfl, rfl⟩, trivial⟩ ⟨rfl, rfl, rfl, rfl, rfl, trivial⟩) ?_ ?_
    | refine okOut ?_
    | refine endWr0 (.inl rfl) rfl ⟨⟨rfl, rfl⟩, trivial⟩ (.refl _) ?_
  · simp at hlt; omega
  · simp at hlt; omega
  · rw [show m.entries.take q = m.entries from List.take_of_length_le (by simpa using hge)]
    simp
end Go.Proofs.YteaggenihhaajaaGreat

/- The writer of package message over a message that may be, without its signature. -/
namespace Go.Proofs.YteaggenihhaajaaGreat
open Go.RowKit
set_option linter.unusedVariables false

theorem rangeE_z {n a b : Int} (h : rangeE n a b = 0) : a ≤ n ∧ n ≤ b := by
  unfold rangeE at h
  split at h
  · cases h
  · omega
theorem kind_is {m : MsgD} (h : kindE m = 0) : m.kind = 1 ∨ m.kind = 2 ∨ m.kind = 3 ∨ m.kind = 4 ∨ m.kind = 5 ∨ m.kind = 6 ∨ m.kind = 7 ∨ m.kind = 8 ∨ m.kind = 9 ∨ m.kind = 10 ∨ m.kind = 11 ∨ m.kind = 12 := by
  unfold kindE at h
  repeat' split at h
  all_goals omega
theorem kind_eta (m : MsgD) {k : Int} (h : m.kind = k) : ({ m with kind := k } : MsgD) = m := by
  subst h
  rfl
theorem wUns_s [Wd] (m : MsgD) (hm : dMsg.ok m) (h0 : kindE m = 0) (hl : (unsB m).length + 200 ≤ big) : FnS Tryz.prog 226 [.ptr 0 0, .agg (cMsg m)] [.cells 297 [.nils]] (fun r h => r = .tup [] ∧ h = oW (unsB m)) := by
  have h5 : m.kind = 5 → (0 ≤ m.result.err ∧ m.result.err ≤ 9223372036854775807) ∧ (0 ≤ m.result.offset ∧ m.result.offset ≤ 9223372036854775807) := fun hk => by
    simp only [kindE, hk] at h0
    simp [orE_zero] at h0
    obtain ⟨_, _, _, _, e1, e2⟩ := h0
    have := rangeE_z e1
    have := rangeE_z (show rangeE m.result.offset 0 9007199254740992 = 0 from e2)
    omega
  have h7 : m.kind = 7 → ∃ c, m.changes[0]? = some c := fun hk => by
    simp only [kindE, hk] at h0
    simp [orE_zero] at h0
    have := rangeE_z h0.1
    exact ⟨_, List.getElem?_eq_getElem (by omega)⟩
  rcases kind_is h0 with hk | hk | hk | hk | hk | hk | hk | hk | hk | hk | hk | hk
  · have u : unsB m = encI 1 ++ (batchP m.batch) := by simp [unsB, tailB, hk]
    rw [u] at hl ⊢
    have r := wUns1_s m hm hl
    rwa [kind_eta m hk] at r
  · have u : unsB m = encI 2 ++ (numsB [m.src, m.view, m.seq, m.digest] ++ batchP m.batch) := by simp [unsB, tailB, hk]
    rw [u] at hl ⊢
    have r := wUns2_s m hm hl
    rwa [kind_eta m hk] at r
  · have u : unsB m = encI 3 ++ (numsB [m.src, m.view, m.seq, m.digest]) := by simp [unsB, tailB, hk]
    rw [u] at hl ⊢
    have r := wUns3_s m hm hl
    rwa [kind_eta m hk] at r
  · have u : unsB m = encI 4 ++ (numsB [m.src, m.view, m.seq, m.digest]) := by simp [unsB, tailB, hk]
    rw [u] at hl ⊢
    have r := wUns4_s m hm hl
    rwa [kind_eta m hk] at r
  · have u : unsB m = encI 5 ++ (numsB [m.src, m.view, m.client, m.time] ++ resultB m.result) := by simp [unsB, tailB, hk]
    rw [u] at hl ⊢
    have r := wUns5_s m hm (h5 hk) hl
    rwa [kind_eta m hk] at r
  · have u : unsB m = encI 6 ++ (numsB [m.src, m.seq, m.digest]) := by simp [unsB, tailB, hk]
    rw [u] at hl ⊢
    have r := wUns6_s m hm hl
    rwa [kind_eta m hk] at r
  · obtain ⟨c, hc⟩ := h7 hk
    obtain ⟨r, hr⟩ : ∃ r, m.changes = c :: r := by
      cases hx : m.changes with
      | nil => rw [hx] at hc; cases hc
      | cons d r => rw [hx] at hc; cases hc; exact ⟨r, rfl⟩
    have u : unsB m = encI 7 ++ (bodyC c) := by simp [unsB, tailB, hk, hr]
    rw [u] at hl ⊢
    have r := wUns7_s m hm hc hl
    rwa [kind_eta m hk] at r
  · have u : unsB m = encI 8 ++ (numsB [m.src, m.view] ++ encI (m.changes.length : Int) ++ m.changes.flatMap chgB ++ encI (m.entries.length : Int) ++ m.entries.flatMap entryB) := by simp [unsB, tailB, hk]
    rw [u] at hl ⊢
    have r := wUns8_s m hm hl
    rwa [kind_eta m hk] at r
  · have u : unsB m = encI 9 ++ (numsB [m.src, m.seq]) := by simp [unsB, tailB, hk]
    rw [u] at hl ⊢
    have r := wUns9_s m hm hl
    rwa [kind_eta m hk] at r
  · have u : unsB m = encI 10 ++ (numsB [m.src] ++ certB m.cert ++ byF m.state) := by simp [unsB, tailB, hk]
    rw [u] at hl ⊢
    have r := wUns10_s m hm hl
    rwa [kind_eta m hk] at r
  · have u : unsB m = encI 11 ++ (numsB [m.client] ++ byF m.topic ++ numsB [m.offset]) := by simp [unsB, tailB, hk]
    rw [u] at hl ⊢
    have r := wUns11_s m hm hl
    rwa [kind_eta m hk] at r
  · have u : unsB m = encI 12 ++ (numsB [m.src] ++ proofB m.proof) := by simp [unsB, tailB, hk]
    rw [u] at hl ⊢
    have r := wUns12_s m hm hl
    rwa [kind_eta m hk] at r
end Go.Proofs.YteaggenihhaajaaGreat

/- The asker of package message over data: names, certificates, prepared batches, changes, proofs, votes, new views. -/
namespace Go.Proofs.YteaggenihhaajaaGreat
open Go.RowKit
set_option linter.unusedVariables false
set_option maxRecDepth 20000

theorem name_s [Wd] (s : List UInt8) (hs : s.length ≤ 4194304) : FnP Tryz.prog 320 [.str s] (.bool (nameF s)) :=
  FnS.old (v := .bool (nameF s)) (fun _ _ => .bool _) (by kernel_rfl) (fun w I vs hv => by
    obtain ⟨v, rfl, h⟩ := hv.one_inv
    cases h
    exact name_c w s hs) rfl
theorem cBatch_s [Wd] (l : List SignedD) (hl : (dL dSigned).ok l) : FnP Tryz.prog 216 [.list 9 (l.map cSigned)] (.int .i64 (batchE l)) :=
  FnS.old (v := .int .i64 (batchE l)) (fun _ _ => .int _ _) (by kernel_rfl) (fun w I vs hv => by
    obtain ⟨v, rfl, h⟩ := Drs.one_inv hv
    exact batchE_c ((LkL LkSigned).of hv hl)) rfl
theorem askName_s [Wd] (s : List UInt8) (hs : s.length ≤ 4194304) : FnAsk 314 [.str s] (nameE s) := by
  intro e
  refine mkS 9 [] Tryz.func314 rfl (by kernel_rfl) ?_
  repeat'
    (conv => arg 2; whnf)
    first
    | refine okBrT ?_
    | refine okBrF ?_
    | refine okBr (fun h => ?_) (fun h => ?_)
    | refine okFn (name_s s hs) rfl (Cos.refl _) ?_
    | refine okAskr 0 (says_s _) ⟨⟨rfl, rfl⟩, trivial⟩ (Cos.refl _) rfl ?_
    | refine endAsk [0] (.inl rfl) rfl rfl ⟨⟨rfl, rfl⟩, trivial⟩ ⟨⟨rfl, rfl⟩, trivial⟩ (.refl _) ?_
  all_goals simp_all [nameE, orE_z]
theorem askCert_s [Wd] (c : CertD) (hc : dCert.ok c) : FnAsk 256 [.agg (cCert c)] (certE c) := by
  intro e
  refine mkS 36 [] Tryz.func256 rfl (by kernel_rfl) ?_
  repeat'
    (conv => arg 2; whnf)
    first
    | refine okBrT ?_
    | refine okBrF ?_
    | refine okBr (fun h => ?_) (fun h => ?_)
    | refine okAsk (by kernel_rfl) ?_
    | refine okAskr 0 (askNum_s _) ⟨⟨rfl, rfl⟩, trivial⟩ (Cos.refl _) rfl ?_
    | refine okAskr 0 (says_s _) ⟨⟨rfl, rfl⟩, trivial⟩ (Cos.refl _) rfl ?_
    | refine okAskr 0 (askSigns_s c.signs hc.2.2.1) ⟨⟨rfl, rfl⟩, trivial⟩ (Cos.refl _) rfl ?_
    | refine endAsk [0] (.inl rfl) rfl rfl ⟨⟨rfl, rfl⟩, trivial⟩ ⟨⟨rfl, rfl⟩, trivial⟩ (.refl _) ?_
  all_goals
    simp only [certE, orE_assoc]
    by_cases h1 : c.seq = 0 <;> by_cases h2 : c.digest = 0 <;> by_cases h3 : 0 < c.signs.length <;> simp_all [z_orE, show ∀ a b : Int, (a == b) = decide (a = b) from fun _ _ => rfl]
theorem askPrep_s [Wd] (p : PreparedD) (hp : dPrepared.ok p) : FnAsk 310 [.agg (cPrepared p)] (prepE p) := by
  intro e
  refine mkS 30 [] Tryz.func310 rfl (by kernel_rfl) ?_
  repeat'
    (conv => arg 2; whnf)
    first
    | refine okAsk (by kernel_rfl) ?_
    | refine okAskr 0 (askNum_s _) ⟨⟨rfl, rfl⟩, trivial⟩ (Cos.refl _) rfl ?_
    | refine okAskr 0 (askPos_s _) ⟨⟨rfl, rfl⟩, trivial⟩ (Cos.refl _) rfl ?_
    | refine okAskr 0 (says_s _) ⟨⟨rfl, rfl⟩, trivial⟩ (Cos.refl _) rfl ?_
    | refine okAskr 0 (askSigns_s p.signs hp.2.2.2.2.1.1) ⟨⟨rfl, rfl⟩, trivial⟩ (Cos.refl _) rfl ?_
    | refine okFn (cSign_s p.firstS) rfl (Cos.refl _) ?_
    | refine okFn (cBatch_s p.batch hp.2.2.2.2.2) rfl (Cos.refl _) ?_
    | refine endAsk [0] (.inl rfl) rfl rfl ⟨⟨rfl, rfl⟩, trivial⟩ ⟨⟨rfl, rfl⟩, trivial⟩ (.refl _) ?_
  all_goals simp only [prepE, orE_assoc]
theorem askVote_s [Wd] (m : MsgD) : FnAsk 312 [.agg (cMsg m)] (voteE m) := by
  intro e
  refine mkS 20 [] Tryz.func312 rfl (by kernel_rfl) ?_
  repeat'
    (conv => arg 2; whnf)
    first
    | refine okAskr 0 (askBroker_s _) ⟨⟨rfl, rfl⟩, trivial⟩ (Cos.refl _) rfl ?_
    | refine okAskr 0 (askNum_s _) ⟨⟨rfl, rfl⟩, trivial⟩ (Cos.refl _) rfl ?_
    | refine okAskr 0 (askPos_s _) ⟨⟨rfl, rfl⟩, trivial⟩ (Cos.refl _) rfl ?_
    | refine endAsk [0] (.inl rfl) rfl rfl ⟨⟨rfl, rfl⟩, trivial⟩ ⟨⟨rfl, rfl⟩, trivial⟩ (.refl _) ?_
  all_goals simp only [voteE, orE_assoc]
-- PRINTED by gen_ac.py
theorem askChange_s [Wd] (c : ChangeD) (hc : dChange.ok c) : FnAsk 259 [.agg (cChange c)] (chgE c) := by
  intro e
  refine mkS 39 [] Tryz.func259 rfl (by kernel_rfl) ?_
  repeat'
    (conv => arg 2; whnf)
    first
    | refine okAskr 0 (askPos_s _) ⟨⟨rfl, rfl⟩, trivial⟩ (Cos.refl _) rfl ?_
    | refine okAskr 0 (askBroker_s _) ⟨⟨rfl, rfl⟩, trivial⟩ (Cos.refl _) rfl ?_
    | refine okAskr 0 (askCert_s c.cert hc.2.2.1) ⟨⟨rfl, rfl⟩, trivial⟩ (Cos.refl _) rfl ?_
    | refine okAskr 0 (askMany_s _ _) ⟨⟨rfl, rfl⟩, trivial⟩ (Cos.refl _) rfl ?_
  conv => arg 2; whnf
  refine okLoop (α := Nat × Int) (fun a => ⟨[(26, .int .i64 a.1), (25, .int .i64 (c.above.map cPrepared).length), (24, .list 7 (c.above.map cPrepared)), (3, .ptr 1 0), (0, .ptr 0 0)], [.cells 324 [.int .i64 a.2], .cells 77 (cChange c)]⟩) (fun a => a.1 ≤ c.above.length ∧ a.2 = orE (orE (orE (orE (orE e (posE c.view)) (brokE c.src)) (certE c.cert)) (manyE c.above.length 8)) (listE prepE (c.above.take a.1))) (fun a => c.above.length - a.1) (0, orE (orE (orE (orE e (posE c.view)) (brokE c.src)) (certE c.cert)) (rangeE ((c.above.map cPrepared).length : Nat) 0 8)) ⟨Nat.zero_le _, by simp [listE, orE_z, manyE]⟩ (Sv.mk' [0, 1] rfl ⟨⟨rfl, rfl⟩, ⟨rfl, rfl⟩, trivial⟩ ⟨rfl, rfl, rfl, rfl, rfl, trivial⟩) ?_
  rintro ⟨q, e'⟩ ⟨hq, he⟩
  have hl : c.above.length ≤ 4194304 := hc.2.2.2.1.1
  repeat'
    (conv => arg 2; whnf)
    first
    | refine okBrT ?_
    | refine okBrF ?_
    | refine okBr (fun h => ?_) (fun h => ?_)
    | refine okNthMap (by simpa using h) (fun x hx => ?_)
    | refine okAskr 0 (askPrep_s x (hc.2.2.2.1.2 x (List.mem_of_getElem? hx))) ⟨⟨rfl, rfl⟩, trivial⟩ (Cos.refl _) rfl ?_
    | refine okFn (cSign_s c.sign) rfl (Cos.refl _) ?_
    | refine okAskr 0 (says_s _) ⟨⟨rfl, rfl⟩, trivial⟩ (Cos.refl _) rfl ?_
    | refine okWrap (w64 (by simp at h hq; omega) (by simp at h hq; omega)) ?_
    | refine okAgain (q + 1, _) (Sv.mk' [0, 1] rfl ⟨⟨rfl, rfl⟩, ⟨rfl, rfl⟩, trivial⟩ ⟨rfl, rfl, rfl, rfl, rfl, trivial⟩) ⟨?_, ?_⟩ ?_
    | refine okOut ?_
    | refine endAsk [0] (.inl rfl) rfl rfl ⟨⟨rfl, rfl⟩, trivial⟩ ⟨⟨rfl, rfl⟩, trivial⟩ (.refl _) ?_
  · show q + 1 ≤ c.above.length
    simp at h; omega
  · show orE e' (prepE x) = _
    rw [listE_at prepE hx, ← orE_assoc, ← he]
    try simp only [prepE, orE_assoc]
  · simp at h ⊢; omega
  · rw [he, show c.above.take q = c.above from List.take_of_length_le (by simp at h; omega)]
    simp only [chgE, orE_assoc]
theorem askNew_s [Wd] (m : MsgD) (hm : dMsg.ok m) : FnAsk 313 [.agg (cMsg m)] (newE m) := by
  intro e
  refine mkS 63 [] Tryz.func313 rfl (by kernel_rfl) ?_
  repeat'
    (conv => arg 2; whnf)
    first
    | refine okAskr 0 (askBroker_s _) ⟨⟨rfl, rfl⟩, trivial⟩ (Cos.refl _) rfl ?_
    | refine okAskr 0 (askPos_s _) ⟨⟨rfl, rfl⟩, trivial⟩ (Cos.refl _) rfl ?_
    | refine okAskr 0 (askMany_s _ _) ⟨⟨rfl, rfl⟩, trivial⟩ (Cos.refl _) rfl ?_
  conv => arg 2; whnf
  refine okLoop (α := Nat × Int) (fun a => ⟨[(24, .int .i64 a.1), (23, .int .i64 (m.changes.map cChange).length), (22, .list 8 (m.changes.map cChange)), (3, .ptr 1 0), (0, .ptr 0 0)], [.cells 324 [.int .i64 a.2], .cells 122 (cMsg m)]⟩) (fun a => a.1 ≤ m.changes.length ∧ a.2 = orE (orE (orE (orE e (brokE m.src)) (posE m.view)) (manyE m.changes.length 13)) (listE chgE (m.changes.take a.1))) (fun a => m.changes.length - a.1) (0, orE (orE (orE e (brokE m.src)) (posE m.view)) (rangeE ((m.changes.map cChange).length : Nat) 0 13)) ⟨Nat.zero_le _, by simp [listE, orE_z, manyE]⟩ (Sv.mk' [0, 1] rfl ⟨⟨rfl, rfl⟩, ⟨rfl, rfl⟩, trivial⟩ ⟨rfl, rfl, rfl, rfl, rfl, trivial⟩) ?_
  rintro ⟨q, e'⟩ ⟨hq, he⟩
  have hl : m.changes.length ≤ 4194304 := hm.2.2.2.2.2.2.2.2.2.2.1.1
  repeat'
    (conv => arg 2; whnf)
    first
    | refine okBrT ?_
    | refine okBrF ?_
    | refine okBr (fun h => ?_) (fun h => ?_)
    | refine okNthMap (by simpa using h) (fun x hx => ?_)
    | refine okAskr 0 (askChange_s x (hm.2.2.2.2.2.2.2.2.2.2.1.2 x (List.mem_of_getElem? hx))) ⟨⟨rfl, rfl⟩, trivial⟩ (Cos.refl _) rfl ?_
    | refine okAskr 0 (askMany_s _ _) ⟨⟨rfl, rfl⟩, trivial⟩ (Cos.refl _) rfl ?_
    | refine okWrap (w64 (by simp at h hq; omega) (by simp at h hq; omega)) ?_
    | refine okAgain (q + 1, _) (Sv.mk' [0, 1] rfl ⟨⟨rfl, rfl⟩, ⟨rfl, rfl⟩, trivial⟩ ⟨rfl, rfl, rfl, rfl, rfl, trivial⟩) ⟨?_, ?_⟩ ?_
    | refine okOut ?_
  · show q + 1 ≤ m.changes.length
    simp at h; omega
  · show orE e' (chgE x) = _
    rw [listE_at chgE hx, ← orE_assoc, ← he]
    try simp only [chgE, orE_assoc]
  · simp at h ⊢; omega
  rw [show m.changes.take q = m.changes from List.take_of_length_le (by simp at h; omega)] at he
  replace he : e' = _ := he
  clear hq h hl
  generalize hE : e' = e1 at he
  clear hE e'
  conv => arg 2; whnf
  refine okLoop (α := Nat × Int) (fun a => ⟨[(40, .int .i64 a.1), (39, .int .i64 (m.entries.map cEntry).length), (38, .list 5 (m.entries.map cEntry)), (3, .ptr 1 0), (0, .ptr 0 0)], [.cells 324 [.int .i64 a.2], .cells 122 (cMsg m)]⟩) (fun a => a.1 ≤ m.entries.length ∧ a.2 = orE (orE (e1) (manyE m.entries.length 8)) (listE entryE (m.entries.take a.1))) (fun a => m.entries.length - a.1) (0, orE (e1) (rangeE ((m.entries.map cEntry).length : Nat) 0 8)) ⟨Nat.zero_le _, by simp [listE, orE_z, manyE]⟩ (Sv.mk' [0, 1] rfl ⟨⟨rfl, rfl⟩, ⟨rfl, rfl⟩, trivial⟩ ⟨rfl, rfl, rfl, rfl, rfl, trivial⟩) ?_
  rintro ⟨q, e'⟩ ⟨hq, he2⟩
  have hl : m.entries.length ≤ 4194304 := hm.2.2.2.2.2.2.2.2.2.2.2.1.1
  repeat'
    (conv => arg 2; whnf)
    first
    | refine okBrT ?_
    | refine okBrF ?_
    | refine okBr (fun h => ?_) (fun h => ?_)
    | refine okNthMap (by simpa using h) (fun x hx => ?_)
    | refine okAskr 0 (askNum_s _) ⟨⟨rfl, rfl⟩, trivial⟩ (Cos.refl _) rfl ?_
    | refine okAskr 0 (askPos_s _) ⟨⟨rfl, rfl⟩, trivial⟩ (Cos.refl _) rfl ?_
    | refine okFn (cBatch_s x.batch (hm.2.2.2.2.2.2.2.2.2.2.2.1.2 x (List.mem_of_getElem? hx)).2.2.1) rfl (Cos.refl _) ?_
    | refine okFn (cSign_s x.sign) rfl (Cos.refl _) ?_
    | refine okAskr 0 (says_s _) ⟨⟨rfl, rfl⟩, trivial⟩ (Cos.refl _) rfl ?_
    | refine okWrap (w64 (by simp at h hq; omega) (by simp at h hq; omega)) ?_
    | refine okAgain (q + 1, orE (orE (orE (orE e' (numE x.view)) (posE x.seq)) (batchE x.batch)) (signE x.sign)) (Sv.mk' [0, 1] rfl ⟨⟨rfl, rfl⟩, ⟨rfl, rfl⟩, trivial⟩ ⟨rfl, rfl, rfl, rfl, rfl, trivial⟩) ⟨?_, ?_⟩ ?_
    | refine okOut ?_
    | refine endAsk [0] (.inl rfl) rfl rfl ⟨⟨rfl, rfl⟩, trivial⟩ ⟨⟨rfl, rfl⟩, trivial⟩ (.refl _) ?_
  · show q + 1 ≤ m.entries.length
    simp at h; omega
  · show orE (orE (orE (orE e' (numE x.view)) (posE x.seq)) (batchE x.batch)) (signE x.sign) = _
    rw [listE_at entryE hx, ← orE_assoc, ← he2]
    try simp only [entryE, orE_assoc]
  · simp at h ⊢; omega
  · rw [he2, show m.entries.take q = m.entries from List.take_of_length_le (by simp at h; omega), he]
    simp only [newE, orE_assoc]
end Go.Proofs.YteaggenihhaajaaGreat

/- The asker of package message over proofs and messages (printed by gen_ad.py). -/
namespace Go.Proofs.YteaggenihhaajaaGreat
open Go.RowKit
set_option linter.unusedVariables false
set_option maxRecDepth 20000

theorem wrapE (a i c : Int) : orE (orE a (rangeE c 0 16)) (rangeE i 0 (IntKind.i64.wrap (c - 1))) = orE (orE a (rangeE c 0 16)) (rangeE i 0 (c - 1)) := by
  by_cases h : 0 ≤ c ∧ c ≤ 16
  · rw [w64 (by omega) (by omega)]
  · have h0 : rangeE c 0 16 ≠ 0 := by unfold rangeE; split <;> omega
    have h1 : orE a (rangeE c 0 16) ≠ 0 := by unfold orE; split <;> assumption
    have h2 : ∀ x, orE (orE a (rangeE c 0 16)) x = orE a (rangeE c 0 16) := fun x => by rw [orE, if_neg h1]
    rw [h2, h2]
theorem askProof_s [Wd] (p : ProofD) (hp : dProof.ok p) : FnAsk 315 [.agg (cProof p)] (proofE p) := by
  intro e
  refine mkS 93 [] Tryz.func315 rfl (by kernel_rfl) ?_
  repeat'
    (conv => arg 2; whnf)
    first
    | refine okAskr 0 (askName_s p.topic hp.1) ⟨⟨rfl, rfl⟩, trivial⟩ (Cos.refl _) rfl ?_
    | refine okAskr 0 (askNum_s _) ⟨⟨rfl, rfl⟩, trivial⟩ (Cos.refl _) rfl ?_
    | refine okAskr 0 (askMany_s _ _) ⟨⟨rfl, rfl⟩, trivial⟩ (Cos.refl _) rfl ?_
  conv => arg 2; whnf
  refine okLoop (α := Nat × Int) (fun a => ⟨[(31, .int .i64 a.1), (30, .int .i64 (p.headers.map cHeader).length), (29, .list 5 (p.headers.map cHeader)), (3, .ptr 1 0), (0, .ptr 0 0)], [.cells 324 [.int .i64 a.2], .cells 120 (cProof p)]⟩) (fun a => a.1 ≤ p.headers.length ∧ a.2 = orE (orE (orE (orE (orE e (nameE p.topic)) (numE p.offset)) (rangeE ((p.record.map cByte).length : Nat) 0 64)) (manyE p.headers.length 64)) (listE headE (p.headers.take a.1))) (fun a => p.headers.length - a.1) (0, orE (orE (orE (orE e (nameE p.topic)) (numE p.offset)) (rangeE ((p.record.map cByte).length : Nat) 0 64)) (rangeE ((p.headers.map cHeader).length : Nat) 0 64)) ⟨Nat.zero_le _, by simp [listE, orE_z, manyE]⟩ (Sv.mk' [0, 1] rfl ⟨⟨rfl, rfl⟩, ⟨rfl, rfl⟩, trivial⟩ ⟨rfl, rfl, rfl, rfl, rfl, trivial⟩) ?_
  rintro ⟨q, e'⟩ ⟨hq, he⟩
  have hl : p.headers.length ≤ 4194304 := hp.2.2.2.1.1
  repeat'
    (conv => arg 2; whnf)
    first
    | refine okBrT ?_
    | refine okBrF ?_
    | refine okBr (fun h => ?_) (fun h => ?_)
    | refine okNthMap (by simpa using h) (fun x hx => ?_)
    | refine okAskr 0 (askPos_s _) ⟨⟨rfl, rfl⟩, trivial⟩ (Cos.refl _) rfl ?_
    | refine okAskr 0 (askNum_s _) ⟨⟨rfl, rfl⟩, trivial⟩ (Cos.refl _) rfl ?_
    | refine okAskr 0 (askMany_s _ _) ⟨⟨rfl, rfl⟩, trivial⟩ (Cos.refl _) rfl ?_
    | refine okAskr 0 (ask_s _ _ _) ⟨⟨rfl, rfl⟩, trivial⟩ (Cos.refl _) rfl ?_
    | refine okOut ?_
    | refine okRaw ?_
  case refine_1 =>
    have hh := h
    clear h
    conv => arg 2; whnf
    refine okLoop (α := Nat × Int) (fun a => ⟨[(49, .int .i64 a.1), (48, .int .i64 ([x.prev, x.batch, x.root, x.state].map cNum).length), (47, .list 1 ([x.prev, x.batch, x.root, x.state].map cNum)), (31, .int .i64 q), (30, .int .i64 (p.headers.map cHeader).length), (29, .list 5 (p.headers.map cHeader)), (3, .ptr 1 0), (0, .ptr 0 0)], [.cells 324 [.int .i64 a.2], .cells 120 (cProof p)]⟩) (fun a => a.1 ≤ 4 ∧ a.2 = orE (orE e' (posE x.seq)) (listE numE ([x.prev, x.batch, x.root, x.state].take a.1))) (fun a => 4 - a.1) (0, orE e' (posE x.seq)) ⟨Nat.zero_le _, by simp [listE, orE_z]⟩ (Sv.mk' [0, 1] rfl ⟨⟨rfl, rfl⟩, ⟨rfl, rfl⟩, trivial⟩ ⟨rfl, rfl, rfl, rfl, rfl, rfl, rfl, rfl, trivial⟩) ?_
    rintro ⟨i, e2⟩ ⟨hi, he2⟩
    repeat'
      (conv => arg 2; whnf)
      first
      | refine okBrT ?_
      | refine okBrF ?_
      | refine okBr (fun h => ?_) (fun h => ?_)
      | refine okNthMap (by simp at h ⊢; omega) (fun y hy => ?_)
      | refine okAskr 0 (askNum_s _) ⟨⟨rfl, rfl⟩, trivial⟩ (Cos.refl _) rfl ?_
      | refine okWrap (w64 (by simp at h hi; omega) (by simp at h hi; omega)) ?_
      | refine okAgain (i + 1, _) (Sv.mk' [0, 1] rfl ⟨⟨rfl, rfl⟩, ⟨rfl, rfl⟩, trivial⟩ ⟨rfl, rfl, rfl, rfl, rfl, rfl, rfl, rfl, trivial⟩) ⟨?_, ?_⟩ ?_
      | refine okOut ?_
      | refine okWrap (w64 (by simp at hh hq; omega) (by simp at hh hq; omega)) ?_
      | refine okAgain (q + 1, _) (Sv.mk' [0, 1] rfl ⟨⟨rfl, rfl⟩, ⟨rfl, rfl⟩, trivial⟩ ⟨rfl, rfl, rfl, rfl, rfl, trivial⟩) ⟨?_, ?_⟩ ?_
    · show i + 1 ≤ 4
      simp at h; omega
    · show orE e2 (numE y) = _
      rw [listE_at numE hy, ← orE_assoc, ← he2]
    · simp at h ⊢; omega
    · show q + 1 ≤ p.headers.length
      simp at hh; omega
    · show e2 = _
      rw [show i = 4 by simp at h hi; omega] at he2
      have he3 : e2 = orE (orE e' (posE x.seq)) (listE numE [x.prev, x.batch, x.root, x.state]) := he2
      rw [listE_at headE hx, ← orE_assoc, ← he, he3]
      simp only [headE, listE, orE_z, orE_assoc]
    · simp at hh ⊢; omega
  rw [show p.headers.take q = p.headers from List.take_of_length_le (by simp at h; omega)] at he
  replace he : e' = _ := he
  clear hq h hl
  generalize hE : e' = e1 at he
  clear hE e'
  conv => arg 2; whnf
  refine okLoop (α := Nat × Int) (fun a => ⟨[(81, .int .i64 a.1), (80, .int .i64 (p.path.map cNum).length), (79, .list 1 (p.path.map cNum)), (3, .ptr 1 0), (0, .ptr 0 0)], [.cells 324 [.int .i64 a.2], .cells 120 (cProof p)]⟩) (fun a => a.1 ≤ p.path.length ∧ a.2 = orE (orE (orE (orE (orE e1 (numE p.index)) (rangeE p.count 0 16)) (rangeE p.index 0 (IntKind.i64.wrap (p.count - 1)))) (rangeE ((p.path.map cNum).length : Nat) 0 8)) (listE numE (p.path.take a.1))) (fun a => p.path.length - a.1) (0, orE (orE (orE (orE e1 (numE p.index)) (rangeE p.count 0 16)) (rangeE p.index 0 (IntKind.i64.wrap (p.count - 1)))) (rangeE ((p.path.map cNum).length : Nat) 0 8)) ⟨Nat.zero_le _, by simp [listE, orE_z]⟩ (Sv.mk' [0, 1] rfl ⟨⟨rfl, rfl⟩, ⟨rfl, rfl⟩, trivial⟩ ⟨rfl, rfl, rfl, rfl, rfl, trivial⟩) ?_
  rintro ⟨q, e'⟩ ⟨hq, he2⟩
  have hl : p.path.length ≤ 4194304 := hp.2.2.2.2.2.2.1.1
  repeat'
    (conv => arg 2; whnf)
    first
    | refine okBrT ?_
    | refine okBrF ?_
    | refine okBr (fun h => ?_) (fun h => ?_)
    | refine okNthMap (by simpa using h) (fun x hx => ?_)
    | refine okAskr 0 (askNum_s _) ⟨⟨rfl, rfl⟩, trivial⟩ (Cos.refl _) rfl ?_
    | refine okAskr 0 (askCert_s p.cert hp.2.2.2.2.2.2.2) ⟨⟨rfl, rfl⟩, trivial⟩ (Cos.refl _) rfl ?_
    | refine okWrap (w64 (by simp at h hq; omega) (by simp at h hq; omega)) ?_
    | refine okAgain (q + 1, _) (Sv.mk' [0, 1] rfl ⟨⟨rfl, rfl⟩, ⟨rfl, rfl⟩, trivial⟩ ⟨rfl, rfl, rfl, rfl, rfl, trivial⟩) ⟨?_, ?_⟩ ?_
    | refine okOut ?_
    | refine endAsk [0] (.inl rfl) rfl rfl ⟨⟨rfl, rfl⟩, trivial⟩ ⟨⟨rfl, rfl⟩, trivial⟩ (.refl _) ?_
  · show q + 1 ≤ p.path.length
    simp at h; omega
  · show orE e' (numE x) = _
    rw [listE_at numE hx, ← orE_assoc, ← he2]
    try simp only [numE, orE_assoc]
  · simp at h ⊢; omega
  · rw [he2, wrapE, show p.path.take q = p.path from List.take_of_length_le (by simp at h; omega), he]
    simp only [proofE, manyE, List.length_map, orE_assoc]
end Go.Proofs.YteaggenihhaajaaGreat

/- The asker of package message over messages; message.bare; message.Check (printed by gen_ae.py). -/
namespace Go.Proofs.YteaggenihhaajaaGreat
open Go.RowKit
set_option linter.unusedVariables false
set_option maxRecDepth 20000

theorem okLt [Wd] {P : Program} {Q : Exit → S → Prop} {a b : Nat} {t f : T} (h1 : a < b → t.ok P Q) (h2 : b ≤ a → f.ok P Q) : (T.br (decide ((a : Int) < (b : Int))) t f).ok P Q :=
  ⟨fun h => h1 (by simpa using h), fun h => h2 (by simpa using h)⟩
theorem signed_s [Wd] (k : Int) : FnP Tryz.prog 228 [.int .i64 k] (.bool (signedK k)) :=
  FnS.old (v := .bool (signedK k)) (fun _ _ => .bool _) (by kernel_rfl) (fun w I vs hv => by
    obtain ⟨v, rfl, h⟩ := hv.one_inv
    cases h
    exact mSigned_c) rfl
set_option maxHeartbeats 4000000 in
theorem askMsg_s [Wd] (m : MsgD) (hm : dMsg.ok m) : FnAsk 261 [.agg (cMsg m)] (msgE m) := by
  intro e
  refine mkS 174 [] Tryz.func261 rfl (by kernel_rfl) ?_
  repeat'
    first
    | (rintro ⟨q, e'⟩ ⟨hq, he⟩)
    | ((conv => arg 2; whnf)
       first
       | refine okBrT ?_
       | refine okBrF ?_
       | refine okLt (fun hlt => ?_) (fun hge => ?_)
       | refine okBr (fun h => ?_) (fun h => ?_)
       | refine okNthMap (by simpa using hlt) (fun x hx => ?_)
       | refine okAskr 0 (ask_s _ _ _) ⟨⟨rfl, rfl⟩, trivial⟩ (Cos.refl _) rfl ?_
       | refine okAskr 0 (askNum_s _) ⟨⟨rfl, rfl⟩, trivial⟩ (Cos.refl _) rfl ?_
       | refine okAskr 0 (askPos_s _) ⟨⟨rfl, rfl⟩, trivial⟩ (Cos.refl _) rfl ?_
       | refine okAskr 0 (askBroker_s _) ⟨⟨rfl, rfl⟩, trivial⟩ (Cos.refl _) rfl ?_
       | refine okAskr 0 (askMany_s _ _) ⟨⟨rfl, rfl⟩, trivial⟩ (Cos.refl _) rfl ?_
       | refine okAskr 0 (says_s _) ⟨⟨rfl, rfl⟩, trivial⟩ (Cos.refl _) rfl ?_
       | refine okAskr 0 (askVote_s m) ⟨⟨rfl, rfl⟩, trivial⟩ (Cos.refl _) rfl ?_
       | refine okAskr 0 (askNew_s m hm) ⟨⟨rfl, rfl⟩, trivial⟩ (Cos.refl _) rfl ?_
       | refine okAskr 0 (askCert_s m.cert hm.2.2.2.2.2.2.2.2.2.1) ⟨⟨rfl, rfl⟩, trivial⟩ (Cos.refl _) rfl ?_
       | refine okAskr 0 (askProof_s m.proof hm.2.2.2.2.2.2.2.2.2.2.2.2.2.2.2.1) ⟨⟨rfl, rfl⟩, trivial⟩ (Cos.refl _) rfl ?_
       | refine okAskr 0 (askName_s m.topic hm.2.2.2.2.2.2.2.2.2.2.2.2.2.1) ⟨⟨rfl, rfl⟩, trivial⟩ (Cos.refl _) rfl ?_
       | refine okAskr 0 (askChange_s x (hm.2.2.2.2.2.2.2.2.2.2.1.2 x (List.mem_of_getElem? hx))) ⟨⟨rfl, rfl⟩, trivial⟩ (Cos.refl _) rfl ?_
       | refine okFn (signed_s _) rfl (Cos.refl _) ?_
       | refine okFn (cSign_s m.sign) rfl (Cos.refl _) ?_
       | refine okFn (cBatch_s m.batch hm.2.2.2.2.2.2.2.2.1) rfl (Cos.refl _) ?_
       | refine okWrap (w64 (by simp at hlt hq; omega) (by have := hm.2.2.2.2.2.2.2.2.2.2.1.1; simp at hlt hq this; omega)) ?_
       | refine okAgain (q + 1, orE (orE e' (chgE x)) 100) (Sv.mk' [0, 1] rfl ⟨⟨rfl, rfl⟩, ⟨rfl, rfl⟩, trivial⟩ ⟨rfl, rfl, rfl, rfl, rfl, trivial⟩) ⟨?_, ?_⟩ ?_
       | refine okAgain (q + 1, orE e' (chgE x)) (Sv.mk' [0, 1] rfl ⟨⟨rfl, rfl⟩, ⟨rfl, rfl⟩, trivial⟩ ⟨rfl, rfl, rfl, rfl, rfl, trivial⟩) ⟨?_, ?_⟩ ?_
       | refine okOut ?_
       | refine okLoop (α := Nat × Int) (fun a => ⟨[(90, .int .i64 a.1), (89, .int .i64 (m.changes.map cChange).length), (88, .list 8 (m.changes.map cChange)), (3, .ptr 1 0), (0, .ptr 0 0)], [.cells 324 [.int .i64 a.2], .cells 122 (cMsg m)]⟩) (fun a => a.1 ≤ m.changes.length ∧ a.2 = orE (orE e (rangeE ((m.changes.map cChange).length : Nat) 1 1)) (listE (viewE m) (m.changes.take a.1))) (fun a => m.changes.length - a.1) (0, orE e (rangeE ((m.changes.map cChange).length : Nat) 1 1)) ⟨Nat.zero_le _, by simp [listE, orE_z]⟩ (Sv.mk' [0, 1] rfl ⟨⟨rfl, rfl⟩, ⟨rfl, rfl⟩, trivial⟩ ⟨rfl, rfl, rfl, rfl, rfl, trivial⟩) ?_
       | refine endAsk [0] (.inl rfl) rfl rfl ⟨⟨rfl, rfl⟩, trivial⟩ ⟨⟨rfl, rfl⟩, trivial⟩ (.refl _) ?_
      )
  all_goals first
    | (show q + 1 ≤ m.changes.length; simp at hlt; omega)
    | (show m.changes.length - (q + 1) < m.changes.length - q; simp at hlt; omega)
    | (show orE (orE e' (chgE x)) 100 = _; rw [listE_at (viewE m) hx, ← orE_assoc, ← he]; clear he; simp_all [viewE, orE_assoc])
    | (show orE e' (chgE x) = _; rw [listE_at (viewE m) hx, ← orE_assoc, ← he]; clear he; simp_all [viewE, orE_z])
    | (rw [he, List.take_of_length_le (by simpa using hge)]; clear he; simp_all [msgE, kindE, signedK, orE_assoc, orE_z])
    | simp_all [msgE, kindE, signedK, manyE, orE_assoc, orE_z]
end Go.Proofs.YteaggenihhaajaaGreat

/- message.bare. -/
namespace Go.Proofs.YteaggenihhaajaaGreat
open Go.RowKit
set_option linter.unusedVariables false
set_option maxRecDepth 20000

set_option maxHeartbeats 2000000 in
theorem bare_s [Wd] (x : MsgD) : FnP Tryz.prog 262 [.agg (cMsg x)] (.agg (cMsg (bareF x))) := by
  refine mkS 114 [] Tryz.func262 rfl (by kernel_rfl) ?_
  repeat'
    (conv => arg 2; whnf)
    first
    | refine okBrT ?_
    | refine okBrF ?_
    | refine okBr (fun h => ?_) (fun h => ?_)
    | refine okAsk (by kernel_rfl) ?_
    | refine okFn (signed_s _) rfl (Cos.refl _) ?_
  all_goals (refine endFn0 (.inr rfl) rfl (Cos.mkAgg ?_) rfl)
  all_goals simp only [beq_iff_eq, beq_eq_false_iff_ne, ne_eq] at *
  all_goals simp_all [bareF, signedK, cMsg, zMsg]
  all_goals (repeat' first | exact Cos.nil | exact Co.refl _ | exact Co.nil _ | refine Cos.cons ?_ ?_)
end Go.Proofs.YteaggenihhaajaaGreat

/- message.Check over data, and back. -/
namespace Go.Proofs.YteaggenihhaajaaGreat
open Go.RowKit
set_option linter.unusedVariables false
set_option maxRecDepth 20000

theorem zMsg_ok : dMsg.ok zMsg := by
  simp [dMsg, dResult, dCert, dProof, dSign, dM, dP, dI, dS, dY, dL, zMsg, zResult, zCert, zProof, zSign]
theorem okIte {P : MsgD → Prop} {c : Prop} [Decidable c] {a b : MsgD} (h1 : P a) (h2 : P b) : P (if c then a else b) := by
  by_cases h : c
  · rw [if_pos h]; exact h1
  · rw [if_neg h]; exact h2
set_option maxHeartbeats 2000000 in
theorem bare_ok {m : MsgD} (hm : dMsg.ok m) : dMsg.ok (bareF m) := by
  obtain ⟨h1, h2, h3, h4, h5, h6, h7, h8, h9, h10, h11, h12, h13, h14, h15, h16, h17⟩ := hm
  obtain ⟨z1, z2, z3, z4, z5, z6, z7, z8, z9, z10, z11, z12, z13, z14, z15, z16, z17⟩ := zMsg_ok
  have hs : dSign.ok (if signedK m.kind then m.sign else zSign) := by split; exact h17; exact z17
  unfold bareF
  simp only
  generalize (if signedK m.kind = true then m.sign else zSign) = s at hs ⊢
  repeat' refine okIte (P := dMsg.ok) ?_ ?_
  all_goals exact ⟨h1, by first | exact h2 | exact z2, by first | exact h3 | exact z3, by first | exact h4 | exact z4, by first | exact h5 | exact z5, by first | exact h6 | exact z6, by first | exact h7 | exact z7, by first | exact h8 | exact z8, by first | exact h9 | exact z9, by first | exact h10 | exact z10, by first | exact h11 | exact z11, by first | exact h12 | exact z12, by first | exact h13 | exact z13, by first | exact h14 | exact z14, by first | exact h15 | exact z15, by first | exact h16 | exact z16, hs⟩
theorem checkE_b (x : MsgD) : checkE x = if (msgE x == 0) && !eqB x (bareF x) then 100 else msgE x := by
  unfold checkE
  by_cases h1 : msgE x = 0 <;> by_cases h2 : x = bareF x
  · rw [if_neg (fun h => h.2 h2), eqB_true h2]; simp
  · rw [if_pos ⟨h1, h2⟩, eqB_false h2]; simp [h1]
  · rw [if_neg (fun h => h1 h.1)]; simp [h1]
  · rw [if_neg (fun h => h1 h.1)]; simp [h1]
theorem check_s [Wd] (m : MsgD) (hm : dMsg.ok m) : FnP Tryz.prog 225 [.agg (cMsg m)] (.int .i64 (checkE m)) := by
  refine mkS 18 [] Tryz.func225 rfl (by kernel_rfl) ?_
  repeat'
    (conv => arg 2; whnf)
    first
    | refine okBrT ?_
    | refine okBrF ?_
    | refine okBr (fun h => ?_) (fun h => ?_)
    | refine okAsk (by kernel_rfl) ?_
    | refine okAskr 1 (askMsg_s m hm) ⟨⟨rfl, rfl⟩, trivial⟩ (Cos.refl _) rfl ?_
    | refine okFn (bare_s m) rfl (Cos.refl _) ?_
    | refine okFn (mSame_s m (bareF m) hm (bare_ok hm)) rfl (Cos.refl _) ?_
    | refine endInt (.inr rfl) rfl ?_
  all_goals rw [checkE_b]
  all_goals simp_all [z_orE]
end Go.Proofs.YteaggenihhaajaaGreat

/- message.Bytes over data (printed by gen_an.py). -/
namespace Go.Proofs.YteaggenihhaajaaGreat
open Go.RowKit
set_option linter.unusedVariables false
set_option maxRecDepth 20000

theorem okWr1 [Wd] {Q : Exit → S → Prop} {f : FuncId} {ar ar' : List D} {add bs : List UInt8} {hb : List AO} {c : D → List AO → T} (hF : FnW f ar add) (hl : (bs ++ add).length + 200 ≤ big) (hv : vwP hb [1] [1] (oW bs)) (hc : Cos ar' (D.ren.rl [1] (.ptr 0 0 :: ar))) (hM : ([1].all fun o => (foot hb ar').elem o) = true) (k : (c (.tup []) (upH hb [1] (oW bs) (oW (bs ++ add)))).ok Tryz.prog Q) : (T.call f ar' hb c).ok Tryz.prog Q :=
  okCall [1] (hF bs hl) (.mk' rfl hv) hc hM k
theorem bytes7_s [Wd] (m : MsgD) (hm : dMsg.ok m) {c : ChangeD} (h7 : m.changes[0]? = some c) (hk : (m.kind == 7) = true) (h0 : checkE m = 0) (hk0 : kindE m = 0) (hl : (unsB m).length + 300 ≤ big) (hb : ¬ 262144 < (unsB m ++ signP c.sign).length) : FnP Tryz.prog 164 [.agg (cMsg m)] (.tup [.list 1 ((unsB m ++ signP c.sign).map cByte), .int .i64 0]) := by
  refine mkS 39 [] Tryz.func164 rfl (by kernel_rfl) ?_
  repeat'
    (conv => arg 2; whnf)
    first
    | refine okAsk (by kernel_rfl) ?_
    | refine okBrT ?_
    | refine okBrF ?_
    | refine okBr (fun h => ?_) (fun h => ?_)
    | refine okFn (check_s m hm) rfl (Cos.refl _) ?_
    | refine okCall [1] (wUns_s m hm hk0 (by omega)) (.mk' rfl ⟨⟨rfl, rfl⟩, trivial⟩) (Cos.refl _) rfl ?_
    | refine okNth (cChange c) (by decide) (by simp [h7]) ?_
    | refine okFn (signed_s _) rfl (Cos.refl _) ?_
    | refine okWr1 (wSign_s c.sign) (by have := signP_l c.sign; rw [List.length_append]; omega) ⟨⟨rfl, rfl⟩, trivial⟩ (Cos.refl _) rfl ?_
    | refine okCall [1] (wShort_s (unsB m ++ signP c.sign) hb) (.mk' rfl ⟨⟨rfl, rfl⟩, trivial⟩) (Cos.refl _) rfl ?_
    | refine endFn0 (.inr rfl) rfl (.refl _) rfl
    | (exfalso; simp_all; done)
theorem bytes7L_s [Wd] (m : MsgD) (hm : dMsg.ok m) {c : ChangeD} (h7 : m.changes[0]? = some c) (hk : (m.kind == 7) = true) (h0 : checkE m = 0) (hk0 : kindE m = 0) (hl : (unsB m).length + 300 ≤ big) (hb : 262144 < (unsB m ++ signP c.sign).length) : FnP Tryz.prog 164 [.agg (cMsg m)] (.tup [.nils, .int .i64 3]) := by
  refine mkS 39 [] Tryz.func164 rfl (by kernel_rfl) ?_
  repeat'
    (conv => arg 2; whnf)
    first
    | refine okAsk (by kernel_rfl) ?_
    | refine okBrT ?_
    | refine okBrF ?_
    | refine okBr (fun h => ?_) (fun h => ?_)
    | refine okFn (check_s m hm) rfl (Cos.refl _) ?_
    | refine okCall [1] (wUns_s m hm hk0 (by omega)) (.mk' rfl ⟨⟨rfl, rfl⟩, trivial⟩) (Cos.refl _) rfl ?_
    | refine okNth (cChange c) (by decide) (by simp [h7]) ?_
    | refine okFn (signed_s _) rfl (Cos.refl _) ?_
    | refine okWr1 (wSign_s c.sign) (by have := signP_l c.sign; rw [List.length_append]; omega) ⟨⟨rfl, rfl⟩, trivial⟩ (Cos.refl _) rfl ?_
    | refine okCall [1] (wShortL_s (unsB m ++ signP c.sign) hb) (.mk' rfl ⟨⟨rfl, rfl⟩, trivial⟩) (Cos.refl _) rfl ?_
    | refine endFn0 (.inr rfl) rfl (.refl _) rfl
    | (exfalso; simp_all; done)
theorem bytesS_s [Wd] (m : MsgD) (hm : dMsg.ok m) (hk : (m.kind == 7) = false) (hs : signedK m.kind = true) (h0 : checkE m = 0) (hk0 : kindE m = 0) (hl : (unsB m).length + 300 ≤ big) (hb : ¬ 262144 < (unsB m ++ signP m.sign).length) : FnP Tryz.prog 164 [.agg (cMsg m)] (.tup [.list 1 ((unsB m ++ signP m.sign).map cByte), .int .i64 0]) := by
  refine mkS 39 [] Tryz.func164 rfl (by kernel_rfl) ?_
  repeat'
    (conv => arg 2; whnf)
    first
    | refine okAsk (by kernel_rfl) ?_
    | refine okBrT ?_
    | refine okBrF ?_
    | refine okBr (fun h => ?_) (fun h => ?_)
    | refine okFn (check_s m hm) rfl (Cos.refl _) ?_
    | refine okCall [1] (wUns_s m hm hk0 (by omega)) (.mk' rfl ⟨⟨rfl, rfl⟩, trivial⟩) (Cos.refl _) rfl ?_
    | refine okFn (signed_s _) rfl (Cos.refl _) ?_
    | refine okWr1 (wSign_s m.sign) (by have := signP_l m.sign; rw [List.length_append]; omega) ⟨⟨rfl, rfl⟩, trivial⟩ (Cos.refl _) rfl ?_
    | refine okCall [1] (wShort_s (unsB m ++ signP m.sign) hb) (.mk' rfl ⟨⟨rfl, rfl⟩, trivial⟩) (Cos.refl _) rfl ?_
    | refine endFn0 (.inr rfl) rfl (.refl _) rfl
    | (exfalso; simp_all; done)
theorem bytesSL_s [Wd] (m : MsgD) (hm : dMsg.ok m) (hk : (m.kind == 7) = false) (hs : signedK m.kind = true) (h0 : checkE m = 0) (hk0 : kindE m = 0) (hl : (unsB m).length + 300 ≤ big) (hb : 262144 < (unsB m ++ signP m.sign).length) : FnP Tryz.prog 164 [.agg (cMsg m)] (.tup [.nils, .int .i64 3]) := by
  refine mkS 39 [] Tryz.func164 rfl (by kernel_rfl) ?_
  repeat'
    (conv => arg 2; whnf)
    first
    | refine okAsk (by kernel_rfl) ?_
    | refine okBrT ?_
    | refine okBrF ?_
    | refine okBr (fun h => ?_) (fun h => ?_)
    | refine okFn (check_s m hm) rfl (Cos.refl _) ?_
    | refine okCall [1] (wUns_s m hm hk0 (by omega)) (.mk' rfl ⟨⟨rfl, rfl⟩, trivial⟩) (Cos.refl _) rfl ?_
    | refine okFn (signed_s _) rfl (Cos.refl _) ?_
    | refine okWr1 (wSign_s m.sign) (by have := signP_l m.sign; rw [List.length_append]; omega) ⟨⟨rfl, rfl⟩, trivial⟩ (Cos.refl _) rfl ?_
    | refine okCall [1] (wShortL_s (unsB m ++ signP m.sign) hb) (.mk' rfl ⟨⟨rfl, rfl⟩, trivial⟩) (Cos.refl _) rfl ?_
    | refine endFn0 (.inr rfl) rfl (.refl _) rfl
    | (exfalso; simp_all; done)
theorem bytesF_s [Wd] (m : MsgD) (hm : dMsg.ok m) (hk : (m.kind == 7) = false) (hs : signedK m.kind = false) (h0 : checkE m = 0) (hk0 : kindE m = 0) (hl : (unsB m).length + 300 ≤ big) (hb : ¬ 262144 < (unsB m).length) : FnP Tryz.prog 164 [.agg (cMsg m)] (.tup [.list 1 ((unsB m).map cByte), .int .i64 0]) := by
  refine mkS 39 [] Tryz.func164 rfl (by kernel_rfl) ?_
  repeat'
    (conv => arg 2; whnf)
    first
    | refine okAsk (by kernel_rfl) ?_
    | refine okBrT ?_
    | refine okBrF ?_
    | refine okBr (fun h => ?_) (fun h => ?_)
    | refine okFn (check_s m hm) rfl (Cos.refl _) ?_
    | refine okCall [1] (wUns_s m hm hk0 (by omega)) (.mk' rfl ⟨⟨rfl, rfl⟩, trivial⟩) (Cos.refl _) rfl ?_
    | refine okFn (signed_s _) rfl (Cos.refl _) ?_
    | refine okCall [1] (wShort_s (unsB m) hb) (.mk' rfl ⟨⟨rfl, rfl⟩, trivial⟩) (Cos.refl _) rfl ?_
    | refine endFn0 (.inr rfl) rfl (.refl _) rfl
    | (exfalso; simp_all; done)
theorem bytesFL_s [Wd] (m : MsgD) (hm : dMsg.ok m) (hk : (m.kind == 7) = false) (hs : signedK m.kind = false) (h0 : checkE m = 0) (hk0 : kindE m = 0) (hl : (unsB m).length + 300 ≤ big) (hb : 262144 < (unsB m).length) : FnP Tryz.prog 164 [.agg (cMsg m)] (.tup [.nils, .int .i64 3]) := by
  refine mkS 39 [] Tryz.func164 rfl (by kernel_rfl) ?_
  repeat'
    (conv => arg 2; whnf)
    first
    | refine okAsk (by kernel_rfl) ?_
    | refine okBrT ?_
    | refine okBrF ?_
    | refine okBr (fun h => ?_) (fun h => ?_)
    | refine okFn (check_s m hm) rfl (Cos.refl _) ?_
    | refine okCall [1] (wUns_s m hm hk0 (by omega)) (.mk' rfl ⟨⟨rfl, rfl⟩, trivial⟩) (Cos.refl _) rfl ?_
    | refine okFn (signed_s _) rfl (Cos.refl _) ?_
    | refine okCall [1] (wShortL_s (unsB m) hb) (.mk' rfl ⟨⟨rfl, rfl⟩, trivial⟩) (Cos.refl _) rfl ?_
    | refine endFn0 (.inr rfl) rfl (.refl _) rfl
    | (exfalso; simp_all; done)
theorem bytesNo_s [Wd] (m : MsgD) (hm : dMsg.ok m) (h0 : ¬ checkE m = 0) : FnP Tryz.prog 164 [.agg (cMsg m)] (.tup [.nils, .int .i64 (checkE m)]) := by
  refine mkS 39 [] Tryz.func164 rfl (by kernel_rfl) ?_
  repeat'
    (conv => arg 2; whnf)
    first
    | refine okAsk (by kernel_rfl) ?_
    | refine okBrT ?_
    | refine okBrF ?_
    | refine okBr (fun h => ?_) (fun h => ?_)
    | refine okFn (check_s m hm) rfl (Cos.refl _) ?_
    | refine endFn0 (.inr rfl) rfl (.refl _) rfl
    | (exfalso; simp_all; done)
end Go.Proofs.YteaggenihhaajaaGreat
