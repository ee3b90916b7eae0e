/- Lemmas and contracts, part 19. -/
import Derived.Test.YteaggenihhaajaaGreatZk18
/- request.TakeBatch, over data (printed by gen_wg.py). -/
namespace Go.Proofs.YteaggenihhaajaaGreat
open Go.RowKit
set_option linter.unusedVariables false
set_option maxRecDepth 20000

theorem goR_one {α : Type} {p : RS → α × RS} {m : Nat} {b : List UInt8} {s2 : RS} {x : α} (h : p (b, 0) = (x, s2)) : goR p (m + 1) (b, 0) = (x :: (goR p m s2).1, (goR p m s2).2) := by
  conv => lhs; unfold goR
  rw [if_pos rfl, h]
theorem goR_bad {α : Type} {p : RS → α × RS} {m : Nat} {b : List UInt8} {s2 : RS} {x : α} (h : p (b, 0) = (x, s2)) (hb : ¬ s2.2 = 0) : goR p (m + 1) (b, 0) = ([x], s2) := by
  rw [goR_one h, goR_stop _ _ _ hb]
theorem okLt0 [Wd] {P : Program} {Q : Exit → S → Prop} {a b : Nat} {t f : T} (h1 : a < b → t.ok P Q) (h2 : b ≤ a → f.ok P Q) : (T.br (decide ((a : Int) < (b : Int))) t f).ok P Q := ⟨fun h => h1 (by simpa using h), fun h => h2 (by simpa using h)⟩
set_option maxHeartbeats 2000000 in
theorem qTakeBatch_s [Wd] : FnR 232 (.ptr 0 0) [] (fun s => .list 9 ((batchR s).1.map cSigned)) (fun s => (batchR s).2) := by
  rintro ⟨b, e⟩ hs
  replace hs : b.length ≤ 8388609 := hs
  obtain ⟨n, b0, e0, qn, hn, l0⟩ := numR_pair 4 (b, e)
  replace l0 : b0.length ≤ b.length := l0
  have h0 : b0.length ≤ 8388609 := by omega
  have q0 : nR 4 (b, e) = ((n : Int), (b0, e0)) := by unfold nR; rw [qn]
  obtain ⟨rs, b3, e3, q3, l3⟩ := Rd1.get (goR_rd signedR_rd n) (b0, e0)
  replace l3 : b3.length ≤ b0.length := l3
  have h3 : b3.length ≤ 8388609 := by omega
  obtain ⟨ef, hef⟩ : ∃ ef : Int, failR (batchE rs) (b3, e3) = (b3, ef) := ⟨(failR (batchE rs) (b3, e3)).2, Prod.ext (failR_len _ _) rfl⟩
  have eR : batchR (b, e) = if ef = 0 then (rs, (b3, ef)) else ([], (b3, ef)) := by
    unfold batchR zeroR guardR mapR bindR
    simp only [q0, Int.toNat_natCast, q3, hef]
  have hok : e3 = 0 → (dL dSigned).ok rs := fun he => by
    have h := (goR_cd signedR_cd n).got q3 he
    exact ⟨by rw [h.1]; omega, fun x hx => ⟨req_d (h.2 x hx).1, sign_d (h.2 x hx).2⟩⟩
  have hno : ¬ e3 = 0 → ef = e3 := fun he => by
    have := hef
    rw [failR_no _ he] at this
    exact (congrArg (fun r : RS => r.2) this).symm
  have gY : ef = 0 → batchR (b, e) = (rs, (b3, ef)) := fun h => by rw [eR, if_pos h]
  have gN : ¬ ef = 0 → batchR (b, e) = ([], (b3, ef)) := fun h => by rw [eR, if_neg h]
  have gE : ¬ e3 = 0 → batchR (b, e) = ([], (b3, e3)) := fun h => by rw [eR, hno h, if_neg h]
  refine mkS 43 [(9, ⟨[(0, false), (1, false), (2, false), (3, true), (4, false), (5, true), (6, true), (7, false)], [0, 1]⟩)] Tryz.func232 rfl (by kernel_rfl) ?_
  repeat'
    (conv => arg 2; whnf)
    first
    | refine okAsk (by kernel_rfl) ?_
    | refine okBoth ?_ ?_
    | refine okBrT ?_
    | refine okBrF ?_
    | refine okRd 0 (b, e) (b0, e0) (.int .u64 (n : Int)) (rdNum_s 4) hs (congrArg Prod.snd q0).symm (congrArg (fun r : Int × RS => D.int .u64 r.1) q0).symm ⟨⟨rfl, rfl⟩, trivial⟩ (Cos.refl _) rfl ?_
  conv => arg 2; whnf
  refine okLoop (α := Nat × RS × List SignedD) (fun a => match a.2.2 with
    | [] => ⟨[(9, .int .u64 a.1), (8, .int .u64 (n : Int)), (3, .nils), (2, .nils), (0, .ptr 0 0)], [.cells 164 [.list 1 (a.2.1.1.map cByte), .int .i64 a.2.1.2, .bool true]]⟩
    | x :: l => ⟨[(9, .int .u64 a.1), (8, .int .u64 (n : Int)), (3, .row 1), (2, .nils), (0, .ptr 0 0)], [.cells 164 [.list 1 (a.2.1.1.map cByte), .int .i64 a.2.1.2, .bool true], .row 84 9 ((x :: l).map cSigned)]⟩) (fun a => a.1 ≤ n ∧ a.2.1.1.length ≤ 8388609 ∧ a.2.2.length = a.1 ∧ (rs, (b3, e3)) = (a.2.2 ++ (goR signedR (n - a.1) a.2.1).1, (goR signedR (n - a.1) a.2.1).2)) (fun a => n - a.1) (0, (b0, e0), []) ⟨Nat.zero_le _, h0, rfl, q3.symm⟩ (Sv.mk' [0] rfl ⟨⟨rfl, rfl⟩, trivial⟩ ⟨rfl, rfl, rfl, rfl, rfl, trivial⟩) ?_
  rintro ⟨i, ⟨bb, ee⟩, out⟩ ⟨hi, hl, ho2, hg⟩
  replace hi : i ≤ n := hi
  replace hl : bb.length ≤ 8388609 := hl
  replace ho2 : out.length = i := ho2
  replace hg : (rs, (b3, e3)) = (out ++ (goR signedR (n - i) (bb, ee)).1, (goR signedR (n - i) (bb, ee)).2) := hg
  obtain ⟨x, b1, e1, q1, l1⟩ := Rd1.get (bytesR_rd 1024) (bb, ee)
  replace l1 : b1.length ≤ bb.length := l1
  have h1 : b1.length ≤ 8388609 := by omega
  have hxl := bytes_in q1
  obtain ⟨y, k, qk⟩ : ∃ (y : RequestD) (k : Int), reqR x = (y, k) := ⟨_, _, rfl⟩
  have qp : FnP Tryz.prog 269 [.list 1 (x.map cByte)] (.tup [.agg (cRequest y), .int .i64 k]) := by
    have := qParse_s x (by omega)
    rw [qk] at this
    exact this
  obtain ⟨sg, b2, e2, q2, l2⟩ := Rd1.get signR_rd (b1, k)
  replace l2 : b2.length ≤ b1.length := l2
  have h2 : b2.length ≤ 8388609 := by omega
  have hstay : e1 = 0 → ee = 0 := fun h => by
    have := (bytesR_rd 1024).ok (s := (bb, ee)) (by rw [q1]; exact h)
    exact congrArg Prod.snd this
  have qs : e1 = 0 → signedR (bb, ee) = (⟨y, sg⟩, (b2, e2)) := fun h => by
    rw [h] at q1
    unfold signedR mapR pairR bindR guardR
    simp only [q1, qk, failR_at, q2]
  have hnext : i < n → e1 = 0 → (rs, (b3, e3)) = ((out ++ [⟨y, sg⟩]) ++ (goR signedR (n - (i + 1)) (b2, e2)).1, (goR signedR (n - (i + 1)) (b2, e2)).2) := fun hlt h => by
    have e : n - i = (n - (i + 1)) + 1 := by omega
    have hs := qs h
    rw [hstay h] at hs hg
    rw [e, goR_one hs] at hg
    rw [hg]
    simp
  have hbad : i < n → ¬ e1 = 0 → batchR (b, e) = ([], (b1, e1)) := fun hlt h => by
    have e' : n - i = (n - (i + 1)) + 1 := by omega
    have key : b3 = b1 ∧ e3 = e1 := by
      by_cases he : ee = 0
      · have hs : (signedR (bb, ee)).2 = (b1, e1) := by
          unfold signedR mapR pairR bindR guardR
          simp only [q1, failR_no _ h]
          have h1 : (signR (b1, e1)).2 = (b1, e1) := by
            rw [signR_eq]
            unfold zeroR guardR mapR pairR bindR nR
            simp only [numR_stay 20 (b1, e1) h, numR_stay MX (b1, e1) h, failR_no _ h, if_neg h]
          exact h1
        have hs' : signedR (bb, 0) = ((signedR (bb, ee)).1, (b1, e1)) := by rw [← hs, he]
        rw [e', he, goR_bad hs' h] at hg
        have := congrArg (fun r : List SignedD × RS => r.2) hg
        exact ⟨congrArg Prod.fst this, congrArg Prod.snd this⟩
      · rw [goR_stop _ _ _ he] at hg
        have := congrArg (fun r : List SignedD × RS => r.2) hg
        have hq : bytesR 1024 (bb, ee) = ([], (bb, ee)) := by
          unfold bytesR
          rw [numR_stay 1024 (bb, ee) he]
          exact takeR_stay _ (bb, ee) he
        rw [hq] at q1
        have g2 := congrArg (fun r : List UInt8 × RS => r.2) q1
        exact ⟨(congrArg Prod.fst this).trans (congrArg Prod.fst g2), (congrArg Prod.snd this).trans (congrArg Prod.snd g2)⟩
    obtain ⟨k1, k2⟩ := key
    subst k1 k2
    exact gE h
  have hstop : n ≤ i → rs = out ∧ b3 = bb ∧ e3 = ee := fun h => by
    rw [show n - i = 0 by omega] at hg
    have hg : (rs, (b3, e3)) = (out ++ [], (bb, ee)) := hg
    rw [List.append_nil] at hg
    cases hg
    exact ⟨rfl, rfl, rfl⟩
  cases out with
  | nil =>
    conv => arg 2; whnf
    refine okLt0 (fun hlt => ?_) (fun hge => ?_)
    · replace hlt : i < n := hlt
      repeat'
        (conv => arg 2; whnf)
        first
        | refine okRd 0 (bb, ee) (b1, e1) (.list 1 (x.map cByte)) (rdBytes_s 1024 (by decide)) hl (congrArg Prod.snd q1).symm (congrArg (fun r : List UInt8 × RS => D.list 1 (r.1.map cByte)) q1).symm ⟨⟨rfl, rfl⟩, trivial⟩ (Cos.refl _) rfl ?_
        | refine okRd 0 (b1, e1) (b1, e1) (.int .i64 e1) rdErr_s h1 rfl rfl ⟨⟨rfl, rfl⟩, trivial⟩ (Cos.refl _) rfl ?_
        | refine okFn qp rfl (Cos.refl _) ?_
        | refine okRd 0 (b1, e1) (b1, k) (.tup []) (rdFail_s k) h1 (by rw [h]; rfl) rfl ⟨⟨rfl, rfl⟩, trivial⟩ (Cos.refl _) rfl ?_
        | refine okRd 0 (b1, k) (b2, e2) (.agg (cSign sg)) qTakeSign_s h1 (congrArg Prod.snd q2).symm (congrArg (fun r : SignD × RS => D.agg (cSign r.1)) q2).symm ⟨⟨rfl, rfl⟩, trivial⟩ (Cos.refl _) rfl ?_
        | refine okBoth ?_ ?_
        | refine okBrT ?_
        | refine okBrF ?_
        | refine okBrNZ (fun h => ?_) (fun h => ?_)
        | refine okAsk (by kernel_rfl) ?_
        | refine okAsk (by constructor <;> (simp only [List.length_cons, List.length_nil]; decide)) ?_
        | refine okWrap (u64i (by show 0 ≤ (i : Int) + 1; omega) (by show (i : Int) + 1 < _; omega)) ?_
        | refine okAgain (i + 1, (b2, e2), [⟨y, sg⟩]) (Sv.mk' [0, 6] rfl ⟨⟨rfl, rfl⟩, ⟨rfl, rfl⟩, trivial⟩ ⟨rfl, rfl, rfl, rfl, rfl, trivial⟩) ⟨hlt, h2, by show ([⟨y, sg⟩]).length = i + 1; simp at ho2 ⊢; omega, hnext hlt h⟩ (by show n - (i + 1) < n - i; omega)
        | refine okRet ?_
        | refine endRd (x := b1) (y := e1) (d := .list 9 []) (.inr rfl) rfl ⟨⟨rfl, rfl⟩, trivial⟩ rfl (.nil _) (congrArg Prod.snd (hbad hlt h)).symm (congrArg (fun r : List SignedD × RS => D.list 9 (r.1.map cSigned)) (hbad hlt h)).symm
        | fail
    · obtain ⟨er, eb, ee2⟩ := hstop hge
      subst er eb ee2
      repeat'
        (conv => arg 2; whnf)
        first
        | refine okAsk (by kernel_rfl) ?_
        | refine okBoth ?_ ?_
        | refine okBrT ?_
        | refine okBrF ?_
        | refine okBrZ (fun h => ?_) (fun hz => ?_)
        | refine okBrNZ (fun h => ?_) (fun h => ?_)
        | refine okOut ?_
        | refine okRd 0 (b3, e3) (b3, e3) (.int .i64 e3) rdErr_s h3 rfl rfl ⟨⟨rfl, rfl⟩, trivial⟩ (Cos.refl _) rfl ?_
        | refine okFn (cBatch_s [] (hok h)) rfl (Cos.cons (.nil _) .nil) ?_
        | refine okRd 0 (b3, e3) (b3, ef) (.tup []) (rdFail_s (batchE [])) h3 hef.symm rfl ⟨⟨rfl, rfl⟩, trivial⟩ (Cos.refl _) rfl ?_
        | refine okRd 0 (b3, ef) (b3, ef) (.int .i64 ef) rdErr_s h3 rfl rfl ⟨⟨rfl, rfl⟩, trivial⟩ (Cos.refl _) rfl ?_
        | refine endRd (x := b3) (y := ef) (d := .list 9 []) (.inr rfl) rfl ⟨⟨rfl, rfl⟩, trivial⟩ rfl (.nil _) (congrArg Prod.snd (gY h)).symm (congrArg (fun r : List SignedD × RS => D.list 9 (r.1.map cSigned)) (gY h)).symm
        | refine endRd (x := b3) (y := ef) (d := .list 9 []) (.inr rfl) rfl ⟨⟨rfl, rfl⟩, trivial⟩ rfl (.nil _) (congrArg Prod.snd (gN h)).symm (congrArg (fun r : List SignedD × RS => D.list 9 (r.1.map cSigned)) (gN h)).symm
        | refine endRd (x := b3) (y := e3) (d := .list 9 []) (.inr rfl) rfl ⟨⟨rfl, rfl⟩, trivial⟩ rfl (.nil _) (congrArg Prod.snd (gE h)).symm (congrArg (fun r : List SignedD × RS => D.list 9 (r.1.map cSigned)) (gE h)).symm
        | exact absurd h hz
        | fail
  | cons z out =>
    conv => arg 2; whnf
    refine okLt0 (fun hlt => ?_) (fun hge => ?_)
    · replace hlt : i < n := hlt
      repeat'
        (conv => arg 2; whnf)
        first
        | refine okRd 0 (bb, ee) (b1, e1) (.list 1 (x.map cByte)) (rdBytes_s 1024 (by decide)) hl (congrArg Prod.snd q1).symm (congrArg (fun r : List UInt8 × RS => D.list 1 (r.1.map cByte)) q1).symm ⟨⟨rfl, rfl⟩, trivial⟩ (Cos.refl _) rfl ?_
        | refine okRd 0 (b1, e1) (b1, e1) (.int .i64 e1) rdErr_s h1 rfl rfl ⟨⟨rfl, rfl⟩, trivial⟩ (Cos.refl _) rfl ?_
        | refine okFn qp rfl (Cos.refl _) ?_
        | refine okRd 0 (b1, e1) (b1, k) (.tup []) (rdFail_s k) h1 (by rw [h]; rfl) rfl ⟨⟨rfl, rfl⟩, trivial⟩ (Cos.refl _) rfl ?_
        | refine okRd 0 (b1, k) (b2, e2) (.agg (cSign sg)) qTakeSign_s h1 (congrArg Prod.snd q2).symm (congrArg (fun r : SignD × RS => D.agg (cSign r.1)) q2).symm ⟨⟨rfl, rfl⟩, trivial⟩ (Cos.refl _) rfl ?_
        | refine okBoth ?_ ?_
        | refine okBrT ?_
        | refine okBrF ?_
        | refine okBrNZ (fun h => ?_) (fun h => ?_)
        | refine okAsk (by kernel_rfl) ?_
        | refine okAsk (by constructor <;> (simp only [List.length_cons, List.length_nil, List.length_map, maxLen] at ho2 ⊢; omega)) ?_
        | refine okWrap (u64i (by show 0 ≤ (i : Int) + 1; omega) (by show (i : Int) + 1 < _; omega)) ?_
        | refine okAgain (i + 1, (b2, e2), ((z :: out) ++ [(⟨y, sg⟩ : SignedD)])) (Sv.mk' [0, 7] rfl ⟨⟨rfl, rfl⟩, ⟨rfl, by simp; rfl⟩, trivial⟩ ⟨rfl, rfl, rfl, rfl, rfl, trivial⟩) ⟨hlt, h2, by show (((z :: out) ++ [(⟨y, sg⟩ : SignedD)])).length = i + 1; simp at ho2 ⊢; omega, hnext hlt h⟩ (by show n - (i + 1) < n - i; omega)
        | refine okRet ?_
        | refine endRd (x := b1) (y := e1) (d := .list 9 []) (.inr rfl) rfl ⟨⟨rfl, rfl⟩, trivial⟩ rfl (.nil _) (congrArg Prod.snd (hbad hlt h)).symm (congrArg (fun r : List SignedD × RS => D.list 9 (r.1.map cSigned)) (hbad hlt h)).symm
        | fail
    · obtain ⟨er, eb, ee2⟩ := hstop hge
      subst er eb ee2
      repeat'
        (conv => arg 2; whnf)
        first
        | refine okAsk (by kernel_rfl) ?_
        | refine okBoth ?_ ?_
        | refine okBrT ?_
        | refine okBrF ?_
        | refine okBrZ (fun h => ?_) (fun hz => ?_)
        | refine okBrNZ (fun h => ?_) (fun h => ?_)
        | refine okOut ?_
        | refine okRd 0 (b3, e3) (b3, e3) (.int .i64 e3) rdErr_s h3 rfl rfl ⟨⟨rfl, rfl⟩, trivial⟩ (Cos.refl _) rfl ?_
        | refine okOwn [1] (cBatch_s (z :: out) (hok h)) rfl (Cos.refl _) rfl ?_
        | refine okRd 0 (b3, e3) (b3, ef) (.tup []) (rdFail_s (batchE (z :: out))) h3 hef.symm rfl ⟨⟨rfl, rfl⟩, trivial⟩ (Cos.refl _) rfl ?_
        | refine okRd 0 (b3, ef) (b3, ef) (.int .i64 ef) rdErr_s h3 rfl rfl ⟨⟨rfl, rfl⟩, trivial⟩ (Cos.refl _) rfl ?_
        | refine endRdF [1] (x := b3) (y := ef) (d := .list 9 ((z :: out).map cSigned)) (.inr rfl) rfl ⟨⟨rfl, rfl⟩, trivial⟩ rfl (.refl _) (congrArg Prod.snd (gY h)).symm (congrArg (fun r : List SignedD × RS => D.list 9 (r.1.map cSigned)) (gY h)).symm
        | refine endRd (x := b3) (y := ef) (d := .list 9 []) (.inr rfl) rfl ⟨⟨rfl, rfl⟩, trivial⟩ rfl (.nil _) (congrArg Prod.snd (gN h)).symm (congrArg (fun r : List SignedD × RS => D.list 9 (r.1.map cSigned)) (gN h)).symm
        | refine endRd (x := b3) (y := e3) (d := .list 9 []) (.inr rfl) rfl ⟨⟨rfl, rfl⟩, trivial⟩ rfl (.nil _) (congrArg Prod.snd (gE h)).symm (congrArg (fun r : List SignedD × RS => D.list 9 (r.1.map cSigned)) (gE h)).symm
        | exact absurd h hz
        | fail
end Go.Proofs.YteaggenihhaajaaGreat

/- Package message's taker, over data: all but whole messages (printed by gen_wo.py). -/
namespace Go.Proofs.YteaggenihhaajaaGreat
open Go.RowKit
set_option linter.unusedVariables false
set_option maxRecDepth 20000

theorem signsR_rd : Rd1 signsR := listR_rd signR_rd 13
theorem mtBatch_s [Wd] : FnR 278 (.agg [.ptr 0 0]) [] (fun s => .list 9 ((batchR s).1.map cSigned)) (fun s => (batchR s).2) := by
  intro s hs
  refine mkS 6 [] Tryz.func278 rfl (by kernel_rfl) ?_
  repeat'
    (conv => arg 2; whnf)
    first
    | refine okAsk (by kernel_rfl) ?_
    | refine okBoth ?_ ?_
    | refine okBrT ?_
    | refine okBrF ?_
    | refine okRd 0 s (batchR s).2 (.list 9 ((batchR s).1.map cSigned)) qTakeBatch_s hs rfl rfl ⟨⟨rfl, rfl⟩, trivial⟩ (Cos.refl _) rfl ?_
    | refine endRd (d := .list 9 ((batchR s).1.map cSigned)) (.inr rfl) rfl ⟨⟨rfl, rfl⟩, trivial⟩ rfl (.refl _) rfl rfl
theorem mtSigns_s [Wd] : FnR 319 (.agg [.ptr 0 0]) [] (fun s => .list 2 ((signsR s).1.map cSign)) (fun s => (signsR s).2) := by
  intro s hs
  refine mkS 5 [] Tryz.func319 rfl (by kernel_rfl) ?_
  repeat'
    (conv => arg 2; whnf)
    first
    | refine okAsk (by kernel_rfl) ?_
    | refine okBoth ?_ ?_
    | refine okBrT ?_
    | refine okBrF ?_
    | refine okRd 0 s (signsR s).2 (.list 2 ((signsR s).1.map cSign)) (mlistSign_s 13 (by decide) (by decide)) hs rfl rfl ⟨⟨rfl, rfl⟩, trivial⟩ (Cos.refl _) rfl ?_
    | refine endRd (d := .list 2 ((signsR s).1.map cSign)) (.inr rfl) rfl ⟨⟨rfl, rfl⟩, trivial⟩ rfl (.refl _) rfl rfl
theorem mtPath_s [Wd] : FnR 324 (.agg [.ptr 0 0]) [] (fun s => .int .i64 ((mNumR 0) s).1) (fun s => ((mNumR 0) s).2) := by
  intro s hs
  refine mkS 5 [] Tryz.func324 rfl (by kernel_rfl) ?_
  repeat'
    (conv => arg 2; whnf)
    first
    | refine okAsk (by kernel_rfl) ?_
    | refine okBoth ?_ ?_
    | refine okBrT ?_
    | refine okBrF ?_
    | refine okRd 0 s ((mNumR 0) s).2 (.int .i64 ((mNumR 0) s).1) (mtDigest_s 0) hs rfl rfl ⟨⟨rfl, rfl⟩, trivial⟩ (Cos.refl _) rfl ?_
    | refine endRd (d := .int .i64 ((mNumR 0) s).1) (.inr rfl) rfl ⟨⟨rfl, rfl⟩, trivial⟩ rfl (.refl _) rfl rfl
theorem mtPrepared_s [Wd]  : FnR 277 (.agg [.ptr 0 0]) [] (fun s => .agg (cPrepared (prepR s).1)) (fun s => (prepR s).2) := by
  rintro ⟨b, e⟩ hs
  replace hs : b.length ≤ 8388609 := hs
  obtain ⟨v, b0, e0, q0, l0⟩ := Rd1.get (mNumR_rd 0) (b, e)
  replace l0 : b0.length ≤ b.length := l0
  have h0 : b0.length ≤ 8388609 := by omega
  obtain ⟨n, b1, e1, q1, l1⟩ := Rd1.get (mNumR_rd 1) (b0, e0)
  replace l1 : b1.length ≤ b0.length := l1
  have h1 : b1.length ≤ 8388609 := by omega
  obtain ⟨d, b2, e2, q2, l2⟩ := Rd1.get (mNumR_rd 1) (b1, e1)
  replace l2 : b2.length ≤ b1.length := l2
  have h2 : b2.length ≤ 8388609 := by omega
  obtain ⟨f, b3, e3, q3, l3⟩ := Rd1.get signR_rd (b2, e2)
  replace l3 : b3.length ≤ b2.length := l3
  have h3 : b3.length ≤ 8388609 := by omega
  obtain ⟨g, b4, e4, q4, l4⟩ := Rd1.get signsR_rd (b3, e3)
  replace l4 : b4.length ≤ b3.length := l4
  have h4 : b4.length ≤ 8388609 := by omega
  obtain ⟨t, b5, e5, q5, l5⟩ := Rd1.get batchR_rd (b4, e4)
  replace l5 : b5.length ≤ b4.length := l5
  have h5 : b5.length ≤ 8388609 := by omega
  have eR : prepR (b, e) = (⟨v, n, d, f, g, t⟩, (b5, e5)) := by unfold prepR mapR pairR bindR; simp only [q0, q1, q2, q3, q4, q5]
  refine mkS 23 [] Tryz.func277 rfl (by kernel_rfl) ?_
  repeat'
    (conv => arg 2; whnf)
    first
    | refine okAsk (by kernel_rfl) ?_
    | refine okBoth ?_ ?_
    | refine okBrT ?_
    | refine okBrF ?_
    | refine okRd 0 (b, e) (b0, e0) (.int .i64 v) (mtNum_s 0) hs (congrArg Prod.snd q0).symm (congrArg (fun r : Int × RS => D.int .i64 r.1) q0).symm ⟨⟨rfl, rfl⟩, trivial⟩ (Cos.refl _) rfl ?_
    | refine okRd 0 (b0, e0) (b1, e1) (.int .i64 n) (mtNum_s 1) h0 (congrArg Prod.snd q1).symm (congrArg (fun r : Int × RS => D.int .i64 r.1) q1).symm ⟨⟨rfl, rfl⟩, trivial⟩ (Cos.refl _) rfl ?_
    | refine okRd 0 (b1, e1) (b2, e2) (.int .i64 d) (mtDigest_s 1) h1 (congrArg Prod.snd q2).symm (congrArg (fun r : Int × RS => D.int .i64 r.1) q2).symm ⟨⟨rfl, rfl⟩, trivial⟩ (Cos.refl _) rfl ?_
    | refine okRd 0 (b2, e2) (b3, e3) (.agg (cSign f)) mtSign_s h2 (congrArg Prod.snd q3).symm (congrArg (fun r : SignD × RS => D.agg (cSign r.1)) q3).symm ⟨⟨rfl, rfl⟩, trivial⟩ (Cos.refl _) rfl ?_
    | refine okRd 0 (b3, e3) (b4, e4) (.list 2 (g.map cSign)) mtSigns_s h3 (congrArg Prod.snd q4).symm (congrArg (fun r : List SignD × RS => D.list 2 (r.1.map cSign)) q4).symm ⟨⟨rfl, rfl⟩, trivial⟩ (Cos.refl _) rfl ?_
    | refine okRd 0 (b4, e4) (b5, e5) (.list 9 (t.map cSigned)) mtBatch_s h4 (congrArg Prod.snd q5).symm (congrArg (fun r : List SignedD × RS => D.list 9 (r.1.map cSigned)) q5).symm ⟨⟨rfl, rfl⟩, trivial⟩ (Cos.refl _) rfl ?_
    | refine endRd (d := .agg (cPrepared (⟨v, n, d, f, g, t⟩))) (.inr rfl) rfl ⟨⟨rfl, rfl⟩, trivial⟩ rfl (.refl _) (congrArg Prod.snd eR).symm (congrArg (fun r : PreparedD × RS => D.agg (cPrepared r.1)) eR).symm
set_option maxHeartbeats 1000000 in
theorem mlistPrepared_s [Wd] (most : Int) (hm0 : 0 ≤ most) (hm : most ≤ 4096) : FnR 276 (.agg [.ptr 0 0]) [.int .i64 most, .fn 277 0 []] (fun s => .list 7 ((listR prepR most s).1.map cPrepared)) (fun s => (listR prepR most s).2) := by
  intro s0 hs
  obtain ⟨N, b0, e0, en, hN0, hN, hb0⟩ := manyR_pair most hm0 s0
  have eL : listR prepR most s0 = goR prepR N.toNat (b0, e0) := by unfold listR; rw [en]
  refine mkS 29 [] Tryz.func276 rfl (by kernel_rfl) ?_
  repeat'
    (conv => arg 2; whnf)
    first
    | refine okAsk (by kernel_rfl) ?_
    | refine okRd 0 s0 (b0, e0) (.int .i64 N) (mtMany_s most) hs (congrArg Prod.snd en).symm (congrArg (fun r : Int × RS => D.int .i64 r.1) en).symm ⟨⟨rfl, rfl⟩, trivial⟩ (Cos.refl _) rfl ?_
  conv => arg 2; whnf
  refine okLoop (α := Int × RS × List PreparedD) (fun a => match a.2.2 with
    | [] => ⟨[(8, .int .i64 a.1), (7, .nils), (3, .ptr 1 0), (2, .fn 277 0 [])], [.cells 164 [.list 1 (a.2.1.1.map cByte), .int .i64 a.2.1.2, .bool true], .cells 306 [.ptr 0 0]]⟩
    | x :: l => ⟨[(8, .int .i64 a.1), (7, .row 2), (3, .ptr 1 0), (2, .fn 277 0 [])], [.cells 164 [.list 1 (a.2.1.1.map cByte), .int .i64 a.2.1.2, .bool true], .cells 306 [.ptr 0 0], .row 75 7 ((x :: l).map cPrepared)]⟩) (fun a => 0 ≤ a.1 ∧ a.1 ≤ 4096 ∧ a.2.1.1.length ≤ 8388609 ∧ a.2.2.length + a.1.toNat ≤ 4096 ∧ goR prepR N.toNat (b0, e0) = (a.2.2 ++ (goR prepR a.1.toNat a.2.1).1, (goR prepR a.1.toNat a.2.1).2)) (fun a => a.1.toNat) (N, (b0, e0), []) ⟨hN0, by omega, by show b0.length ≤ _; omega, by simp; omega, rfl⟩ (Sv.mk' [0, 1] rfl ⟨⟨rfl, rfl⟩, ⟨rfl, rfl⟩, trivial⟩ ⟨rfl, rfl, rfl, rfl, trivial⟩) ?_
  rintro ⟨n, ⟨b, e⟩, out⟩ ⟨h0, h1, hl, ho, hg⟩
  replace h0 : 0 ≤ n := h0
  replace h1 : n ≤ 4096 := h1
  replace hl : b.length ≤ 8388609 := hl
  replace ho : out.length + n.toNat ≤ 4096 := ho
  replace hg : goR prepR N.toNat (b0, e0) = (out ++ (goR prepR n.toNat (b, e)).1, (goR prepR n.toNat (b, e)).2) := hg
  obtain ⟨x, b2, e2, ep⟩ : ∃ (x : PreparedD) (b2 : List UInt8) (e2 : Int), prepR (b, e) = (x, (b2, e2)) := ⟨_, _, _, rfl⟩
  have hl2 : b2.length ≤ 8388609 := by
    have h := prepR_rd.len (b, e)
    rw [ep] at h
    exact Nat.le_trans h hl
  have hstop : (n ≤ 0 ∨ ¬ e = 0) → listR prepR most s0 = (out, (b, e)) := fun h => by
    rw [eL, hg]
    rcases h with h | h
    · rw [show n.toNat = 0 by omega]; simp [goR]
    · rw [goR_stop _ _ _ h]; simp
  have hnext : 0 < n → e = 0 → goR prepR N.toNat (b0, e0) = ((out ++ [x]) ++ (goR prepR (n - 1).toNat (b2, e2)).1, (goR prepR (n - 1).toNat (b2, e2)).2) := fun hn h => by
    rw [hg, goR_step _ hn h, ep]
    simp
  cases out with
  | nil =>
    conv => arg 2; whnf
    refine okBr (fun hn => ?_) (fun hn => ?_)
    · replace hn : 0 < n := by simpa using hn
      repeat'
        (conv => arg 2; whnf)
        first
        | refine okRd 0 (b, e) (b, e) (.int .i64 e) rdErr_s hl rfl rfl ⟨⟨rfl, rfl⟩, trivial⟩ (Cos.refl _) rfl ?_
        | refine okBoth ?_ ?_
        | refine okBrT ?_
        | refine okBrF ?_
        | refine okBr (fun h => ?_) (fun h => ?_)
        | refine okRd 0 (b, e) (b2, e2) (.agg (cPrepared x)) mtPrepared_s hl (congrArg Prod.snd ep).symm (congrArg (fun r : PreparedD × RS => D.agg (cPrepared r.1)) ep).symm ⟨⟨rfl, rfl⟩, trivial⟩ (Cos.refl _) rfl ?_
        | refine okAsk (by constructor <;> (simp only [List.length_cons, List.length_nil]; decide)) ?_
        | refine okWrap (w64 (by show _ ≤ n - 1; omega) (by show n - 1 ≤ _; omega)) ?_
        | refine okAgain (n - 1, (b2, e2), [x]) (Sv.mk' [0, 1, 4] rfl ⟨⟨rfl, rfl⟩, ⟨rfl, rfl⟩, ⟨rfl, rfl⟩, trivial⟩ ⟨rfl, rfl, rfl, rfl, trivial⟩) ⟨by show 0 ≤ n - 1; omega, by show n - 1 ≤ 4096; omega, hl2, by show ([x]).length + (n - 1).toNat ≤ 4096; simp at ho ⊢; omega, hnext hn (by simpa using h)⟩ (by show (n - 1).toNat < n.toNat; omega)
        | refine okOut ?_
        | refine endRd (d := .list 7 []) (.inr rfl) rfl ⟨⟨rfl, rfl⟩, trivial⟩ rfl (.nil _) (congrArg Prod.snd (hstop (.inr (by simpa using h)))).symm (congrArg (fun r : List PreparedD × RS => D.list 7 (r.1.map cPrepared)) (hstop (.inr (by simpa using h)))).symm
    · replace hn : n ≤ 0 := by simpa using hn
      repeat'
        (conv => arg 2; whnf)
        first
        | refine okRd 0 (b, e) (b, e) (.int .i64 e) rdErr_s hl rfl rfl ⟨⟨rfl, rfl⟩, trivial⟩ (Cos.refl _) rfl ?_
        | refine okBoth ?_ ?_
        | refine okBrT ?_
        | refine okBrF ?_
        | refine okBr (fun h => ?_) (fun h => ?_)
        | refine okOut ?_
        | refine endRd (d := .list 7 []) (.inr rfl) rfl ⟨⟨rfl, rfl⟩, trivial⟩ rfl (.nil _) (congrArg Prod.snd (hstop (.inl hn))).symm (congrArg (fun r : List PreparedD × RS => D.list 7 (r.1.map cPrepared)) (hstop (.inl hn))).symm
  | cons y out =>
    conv => arg 2; whnf
    refine okBr (fun hn => ?_) (fun hn => ?_)
    · replace hn : 0 < n := by simpa using hn
      repeat'
        (conv => arg 2; whnf)
        first
        | refine okRd 0 (b, e) (b, e) (.int .i64 e) rdErr_s hl rfl rfl ⟨⟨rfl, rfl⟩, trivial⟩ (Cos.refl _) rfl ?_
        | refine okBoth ?_ ?_
        | refine okBrT ?_
        | refine okBrF ?_
        | refine okBr (fun h => ?_) (fun h => ?_)
        | refine okRd 0 (b, e) (b2, e2) (.agg (cPrepared x)) mtPrepared_s hl (congrArg Prod.snd ep).symm (congrArg (fun r : PreparedD × RS => D.agg (cPrepared r.1)) ep).symm ⟨⟨rfl, rfl⟩, trivial⟩ (Cos.refl _) rfl ?_
        | refine okAsk (by constructor <;> (simp only [List.length_cons, List.length_nil, List.length_map, maxLen] at ho ⊢; omega)) ?_
        | refine okWrap (w64 (by show _ ≤ n - 1; omega) (by show n - 1 ≤ _; omega)) ?_
        | refine okAgain (n - 1, (b2, e2), (y :: out) ++ [x]) (Sv.mk' [0, 1, 5] rfl ⟨⟨rfl, rfl⟩, ⟨rfl, rfl⟩, ⟨rfl, by simp; rfl⟩, trivial⟩ ⟨rfl, rfl, rfl, rfl, trivial⟩) ⟨by show 0 ≤ n - 1; omega, by show n - 1 ≤ 4096; omega, hl2, by show ((y :: out) ++ [x]).length + (n - 1).toNat ≤ 4096; simp at ho ⊢; omega, hnext hn (by simpa using h)⟩ (by show (n - 1).toNat < n.toNat; omega)
        | refine okOut ?_
        | refine endRdF [2] (d := .list 7 ((y :: out).map cPrepared)) (.inr rfl) rfl ⟨⟨rfl, rfl⟩, trivial⟩ rfl (.refl _) (congrArg Prod.snd (hstop (.inr (by simpa using h)))).symm (congrArg (fun r : List PreparedD × RS => D.list 7 (r.1.map cPrepared)) (hstop (.inr (by simpa using h)))).symm
    · replace hn : n ≤ 0 := by simpa using hn
      repeat'
        (conv => arg 2; whnf)
        first
        | refine okRd 0 (b, e) (b, e) (.int .i64 e) rdErr_s hl rfl rfl ⟨⟨rfl, rfl⟩, trivial⟩ (Cos.refl _) rfl ?_
        | refine okBoth ?_ ?_
        | refine okBrT ?_
        | refine okBrF ?_
        | refine okBr (fun h => ?_) (fun h => ?_)
        | refine okOut ?_
        | refine endRdF [2] (d := .list 7 ((y :: out).map cPrepared)) (.inr rfl) rfl ⟨⟨rfl, rfl⟩, trivial⟩ rfl (.refl _) (congrArg Prod.snd (hstop (.inl hn))).symm (congrArg (fun r : List PreparedD × RS => D.list 7 (r.1.map cPrepared)) (hstop (.inl hn))).symm
theorem mtChange_s [Wd]  : FnR 237 (.agg [.ptr 0 0]) [] (fun s => .agg (cChange (chgR s).1)) (fun s => (chgR s).2) := by
  rintro ⟨b, e⟩ hs
  replace hs : b.length ≤ 8388609 := hs
  obtain ⟨v, b0, e0, q0, l0⟩ := Rd1.get (mNumR_rd 1) (b, e)
  replace l0 : b0.length ≤ b.length := l0
  have h0 : b0.length ≤ 8388609 := by omega
  obtain ⟨r, b1, e1, q1, l1⟩ := Rd1.get (nR_rd 12) (b0, e0)
  replace l1 : b1.length ≤ b0.length := l1
  have h1 : b1.length ≤ 8388609 := by omega
  obtain ⟨c, b2, e2, q2, l2⟩ := Rd1.get certR_rd (b1, e1)
  replace l2 : b2.length ≤ b1.length := l2
  have h2 : b2.length ≤ 8388609 := by omega
  obtain ⟨a, b3, e3, q3, l3⟩ := Rd1.get (listR_rd prepR_rd 8) (b2, e2)
  replace l3 : b3.length ≤ b2.length := l3
  have h3 : b3.length ≤ 8388609 := by omega
  obtain ⟨g, b4, e4, q4, l4⟩ := Rd1.get signR_rd (b3, e3)
  replace l4 : b4.length ≤ b3.length := l4
  have h4 : b4.length ≤ 8388609 := by omega
  have eR : chgR (b, e) = (⟨v, r, c, a, g⟩, (b4, e4)) := by unfold chgR mapR pairR bindR; simp only [q0, q1, q2, q3, q4]
  refine mkS 20 [] Tryz.func237 rfl (by kernel_rfl) ?_
  repeat'
    (conv => arg 2; whnf)
    first
    | refine okAsk (by kernel_rfl) ?_
    | refine okBoth ?_ ?_
    | refine okBrT ?_
    | refine okBrF ?_
    | refine okRd 0 (b, e) (b0, e0) (.int .i64 v) (mtNum_s 1) hs (congrArg Prod.snd q0).symm (congrArg (fun r : Int × RS => D.int .i64 r.1) q0).symm ⟨⟨rfl, rfl⟩, trivial⟩ (Cos.refl _) rfl ?_
    | refine okRd 0 (b0, e0) (b1, e1) (.int .i64 r) mtBroker_s h0 (congrArg Prod.snd q1).symm (congrArg (fun r : Int × RS => D.int .i64 r.1) q1).symm ⟨⟨rfl, rfl⟩, trivial⟩ (Cos.refl _) rfl ?_
    | refine okRd 0 (b1, e1) (b2, e2) (.agg (cCert c)) mtCert_s h1 (congrArg Prod.snd q2).symm (congrArg (fun r : CertD × RS => D.agg (cCert r.1)) q2).symm ⟨⟨rfl, rfl⟩, trivial⟩ (Cos.refl _) rfl ?_
    | refine okRd 0 (b2, e2) (b3, e3) (.list 7 (a.map cPrepared)) (mlistPrepared_s 8 (by decide) (by decide)) h2 (congrArg Prod.snd q3).symm (congrArg (fun r : List PreparedD × RS => D.list 7 (r.1.map cPrepared)) q3).symm ⟨⟨rfl, rfl⟩, trivial⟩ (Cos.refl _) rfl ?_
    | refine okRd 0 (b3, e3) (b4, e4) (.agg (cSign g)) mtSign_s h3 (congrArg Prod.snd q4).symm (congrArg (fun r : SignD × RS => D.agg (cSign r.1)) q4).symm ⟨⟨rfl, rfl⟩, trivial⟩ (Cos.refl _) rfl ?_
    | refine endRd (d := .agg (cChange (⟨v, r, c, a, g⟩))) (.inr rfl) rfl ⟨⟨rfl, rfl⟩, trivial⟩ rfl (.refl _) (congrArg Prod.snd eR).symm (congrArg (fun r : ChangeD × RS => D.agg (cChange r.1)) eR).symm
set_option maxHeartbeats 1000000 in
theorem mlistChange_s [Wd] (most : Int) (hm0 : 0 ≤ most) (hm : most ≤ 4096) : FnR 282 (.agg [.ptr 0 0]) [.int .i64 most, .fn 237 0 []] (fun s => .list 8 ((listR chgR most s).1.map cChange)) (fun s => (listR chgR most s).2) := by
  intro s0 hs
  obtain ⟨N, b0, e0, en, hN0, hN, hb0⟩ := manyR_pair most hm0 s0
  have eL : listR chgR most s0 = goR chgR N.toNat (b0, e0) := by unfold listR; rw [en]
  refine mkS 29 [] Tryz.func282 rfl (by kernel_rfl) ?_
  repeat'
    (conv => arg 2; whnf)
    first
    | refine okAsk (by kernel_rfl) ?_
    | refine okRd 0 s0 (b0, e0) (.int .i64 N) (mtMany_s most) hs (congrArg Prod.snd en).symm (congrArg (fun r : Int × RS => D.int .i64 r.1) en).symm ⟨⟨rfl, rfl⟩, trivial⟩ (Cos.refl _) rfl ?_
  conv => arg 2; whnf
  refine okLoop (α := Int × RS × List ChangeD) (fun a => match a.2.2 with
    | [] => ⟨[(8, .int .i64 a.1), (7, .nils), (3, .ptr 1 0), (2, .fn 237 0 [])], [.cells 164 [.list 1 (a.2.1.1.map cByte), .int .i64 a.2.1.2, .bool true], .cells 306 [.ptr 0 0]]⟩
    | x :: l => ⟨[(8, .int .i64 a.1), (7, .row 2), (3, .ptr 1 0), (2, .fn 237 0 [])], [.cells 164 [.list 1 (a.2.1.1.map cByte), .int .i64 a.2.1.2, .bool true], .cells 306 [.ptr 0 0], .row 77 8 ((x :: l).map cChange)]⟩) (fun a => 0 ≤ a.1 ∧ a.1 ≤ 4096 ∧ a.2.1.1.length ≤ 8388609 ∧ a.2.2.length + a.1.toNat ≤ 4096 ∧ goR chgR N.toNat (b0, e0) = (a.2.2 ++ (goR chgR a.1.toNat a.2.1).1, (goR chgR a.1.toNat a.2.1).2)) (fun a => a.1.toNat) (N, (b0, e0), []) ⟨hN0, by omega, by show b0.length ≤ _; omega, by simp; omega, rfl⟩ (Sv.mk' [0, 1] rfl ⟨⟨rfl, rfl⟩, ⟨rfl, rfl⟩, trivial⟩ ⟨rfl, rfl, rfl, rfl, trivial⟩) ?_
  rintro ⟨n, ⟨b, e⟩, out⟩ ⟨h0, h1, hl, ho, hg⟩
  replace h0 : 0 ≤ n := h0
  replace h1 : n ≤ 4096 := h1
  replace hl : b.length ≤ 8388609 := hl
  replace ho : out.length + n.toNat ≤ 4096 := ho
  replace hg : goR chgR N.toNat (b0, e0) = (out ++ (goR chgR n.toNat (b, e)).1, (goR chgR n.toNat (b, e)).2) := hg
  obtain ⟨x, b2, e2, ep⟩ : ∃ (x : ChangeD) (b2 : List UInt8) (e2 : Int), chgR (b, e) = (x, (b2, e2)) := ⟨_, _, _, rfl⟩
  have hl2 : b2.length ≤ 8388609 := by
    have h := chgR_rd.len (b, e)
    rw [ep] at h
    exact Nat.le_trans h hl
  have hstop : (n ≤ 0 ∨ ¬ e = 0) → listR chgR most s0 = (out, (b, e)) := fun h => by
    rw [eL, hg]
    rcases h with h | h
    · rw [show n.toNat = 0 by omega]; simp [goR]
    · rw [goR_stop _ _ _ h]; simp
  have hnext : 0 < n → e = 0 → goR chgR N.toNat (b0, e0) = ((out ++ [x]) ++ (goR chgR (n - 1).toNat (b2, e2)).1, (goR chgR (n - 1).toNat (b2, e2)).2) := fun hn h => by
    rw [hg, goR_step _ hn h, ep]
    simp
  cases out with
  | nil =>
    conv => arg 2; whnf
    refine okBr (fun hn => ?_) (fun hn => ?_)
    · replace hn : 0 < n := by simpa using hn
      repeat'
        (conv => arg 2; whnf)
        first
        | refine okRd 0 (b, e) (b, e) (.int .i64 e) rdErr_s hl rfl rfl ⟨⟨rfl, rfl⟩, trivial⟩ (Cos.refl _) rfl ?_
        | refine okBoth ?_ ?_
        | refine okBrT ?_
        | refine okBrF ?_
        | refine okBr (fun h => ?_) (fun h => ?_)
        | refine okRd 0 (b, e) (b2, e2) (.agg (cChange x)) mtChange_s hl (congrArg Prod.snd ep).symm (congrArg (fun r : ChangeD × RS => D.agg (cChange r.1)) ep).symm ⟨⟨rfl, rfl⟩, trivial⟩ (Cos.refl _) rfl ?_
        | refine okAsk (by constructor <;> (simp only [List.length_cons, List.length_nil]; decide)) ?_
        | refine okWrap (w64 (by show _ ≤ n - 1; omega) (by show n - 1 ≤ _; omega)) ?_
        | refine okAgain (n - 1, (b2, e2), [x]) (Sv.mk' [0, 1, 4] rfl ⟨⟨rfl, rfl⟩, ⟨rfl, rfl⟩, ⟨rfl, rfl⟩, trivial⟩ ⟨rfl, rfl, rfl, rfl, trivial⟩) ⟨by show 0 ≤ n - 1; omega, by show n - 1 ≤ 4096; omega, hl2, by show ([x]).length + (n - 1).toNat ≤ 4096; simp at ho ⊢; omega, hnext hn (by simpa using h)⟩ (by show (n - 1).toNat < n.toNat; omega)
        | refine okOut ?_
        | refine endRd (d := .list 8 []) (.inr rfl) rfl ⟨⟨rfl, rfl⟩, trivial⟩ rfl (.nil _) (congrArg Prod.snd (hstop (.inr (by simpa using h)))).symm (congrArg (fun r : List ChangeD × RS => D.list 8 (r.1.map cChange)) (hstop (.inr (by simpa using h)))).symm
    · replace hn : n ≤ 0 := by simpa using hn
      repeat'
        (conv => arg 2; whnf)
        first
        | refine okRd 0 (b, e) (b, e) (.int .i64 e) rdErr_s hl rfl rfl ⟨⟨rfl, rfl⟩, trivial⟩ (Cos.refl _) rfl ?_
        | refine okBoth ?_ ?_
        | refine okBrT ?_
        | refine okBrF ?_
        | refine okBr (fun h => ?_) (fun h => ?_)
        | refine okOut ?_
        | refine endRd (d := .list 8 []) (.inr rfl) rfl ⟨⟨rfl, rfl⟩, trivial⟩ rfl (.nil _) (congrArg Prod.snd (hstop (.inl hn))).symm (congrArg (fun r : List ChangeD × RS => D.list 8 (r.1.map cChange)) (hstop (.inl hn))).symm
  | cons y out =>
    conv => arg 2; whnf
    refine okBr (fun hn => ?_) (fun hn => ?_)
    · replace hn : 0 < n := by simpa using hn
      repeat'
        (conv => arg 2; whnf)
        first
        | refine okRd 0 (b, e) (b, e) (.int .i64 e) rdErr_s hl rfl rfl ⟨⟨rfl, rfl⟩, trivial⟩ (Cos.refl _) rfl ?_
        | refine okBoth ?_ ?_
        | refine okBrT ?_
        | refine okBrF ?_
        | refine okBr (fun h => ?_) (fun h => ?_)
        | refine okRd 0 (b, e) (b2, e2) (.agg (cChange x)) mtChange_s hl (congrArg Prod.snd ep).symm (congrArg (fun r : ChangeD × RS => D.agg (cChange r.1)) ep).symm ⟨⟨rfl, rfl⟩, trivial⟩ (Cos.refl _) rfl ?_
        | refine okAsk (by constructor <;> (simp only [List.length_cons, List.length_nil, List.length_map, maxLen] at ho ⊢; omega)) ?_
        | refine okWrap (w64 (by show _ ≤ n - 1; omega) (by show n - 1 ≤ _; omega)) ?_
        | refine okAgain (n - 1, (b2, e2), (y :: out) ++ [x]) (Sv.mk' [0, 1, 5] rfl ⟨⟨rfl, rfl⟩, ⟨rfl, rfl⟩, ⟨rfl, by simp; rfl⟩, trivial⟩ ⟨rfl, rfl, rfl, rfl, trivial⟩) ⟨by show 0 ≤ n - 1; omega, by show n - 1 ≤ 4096; omega, hl2, by show ((y :: out) ++ [x]).length + (n - 1).toNat ≤ 4096; simp at ho ⊢; omega, hnext hn (by simpa using h)⟩ (by show (n - 1).toNat < n.toNat; omega)
        | refine okOut ?_
        | refine endRdF [2] (d := .list 8 ((y :: out).map cChange)) (.inr rfl) rfl ⟨⟨rfl, rfl⟩, trivial⟩ rfl (.refl _) (congrArg Prod.snd (hstop (.inr (by simpa using h)))).symm (congrArg (fun r : List ChangeD × RS => D.list 8 (r.1.map cChange)) (hstop (.inr (by simpa using h)))).symm
    · replace hn : n ≤ 0 := by simpa using hn
      repeat'
        (conv => arg 2; whnf)
        first
        | refine okRd 0 (b, e) (b, e) (.int .i64 e) rdErr_s hl rfl rfl ⟨⟨rfl, rfl⟩, trivial⟩ (Cos.refl _) rfl ?_
        | refine okBoth ?_ ?_
        | refine okBrT ?_
        | refine okBrF ?_
        | refine okBr (fun h => ?_) (fun h => ?_)
        | refine okOut ?_
        | refine endRdF [2] (d := .list 8 ((y :: out).map cChange)) (.inr rfl) rfl ⟨⟨rfl, rfl⟩, trivial⟩ rfl (.refl _) (congrArg Prod.snd (hstop (.inl hn))).symm (congrArg (fun r : List ChangeD × RS => D.list 8 (r.1.map cChange)) (hstop (.inl hn))).symm
theorem mtEntry_s [Wd]  : FnR 284 (.agg [.ptr 0 0]) [] (fun s => .agg (cEntry (entryR s).1)) (fun s => (entryR s).2) := by
  rintro ⟨b, e⟩ hs
  replace hs : b.length ≤ 8388609 := hs
  obtain ⟨v, b0, e0, q0, l0⟩ := Rd1.get (mNumR_rd 0) (b, e)
  replace l0 : b0.length ≤ b.length := l0
  have h0 : b0.length ≤ 8388609 := by omega
  obtain ⟨n, b1, e1, q1, l1⟩ := Rd1.get (mNumR_rd 1) (b0, e0)
  replace l1 : b1.length ≤ b0.length := l1
  have h1 : b1.length ≤ 8388609 := by omega
  obtain ⟨t, b2, e2, q2, l2⟩ := Rd1.get batchR_rd (b1, e1)
  replace l2 : b2.length ≤ b1.length := l2
  have h2 : b2.length ≤ 8388609 := by omega
  obtain ⟨g, b3, e3, q3, l3⟩ := Rd1.get signR_rd (b2, e2)
  replace l3 : b3.length ≤ b2.length := l3
  have h3 : b3.length ≤ 8388609 := by omega
  have eR : entryR (b, e) = (⟨v, n, t, g⟩, (b3, e3)) := by unfold entryR mapR pairR bindR; simp only [q0, q1, q2, q3]
  refine mkS 17 [] Tryz.func284 rfl (by kernel_rfl) ?_
  repeat'
    (conv => arg 2; whnf)
    first
    | refine okAsk (by kernel_rfl) ?_
    | refine okBoth ?_ ?_
    | refine okBrT ?_
    | refine okBrF ?_
    | refine okRd 0 (b, e) (b0, e0) (.int .i64 v) (mtNum_s 0) hs (congrArg Prod.snd q0).symm (congrArg (fun r : Int × RS => D.int .i64 r.1) q0).symm ⟨⟨rfl, rfl⟩, trivial⟩ (Cos.refl _) rfl ?_
    | refine okRd 0 (b0, e0) (b1, e1) (.int .i64 n) (mtNum_s 1) h0 (congrArg Prod.snd q1).symm (congrArg (fun r : Int × RS => D.int .i64 r.1) q1).symm ⟨⟨rfl, rfl⟩, trivial⟩ (Cos.refl _) rfl ?_
    | refine okRd 0 (b1, e1) (b2, e2) (.list 9 (t.map cSigned)) mtBatch_s h1 (congrArg Prod.snd q2).symm (congrArg (fun r : List SignedD × RS => D.list 9 (r.1.map cSigned)) q2).symm ⟨⟨rfl, rfl⟩, trivial⟩ (Cos.refl _) rfl ?_
    | refine okRd 0 (b2, e2) (b3, e3) (.agg (cSign g)) mtSign_s h2 (congrArg Prod.snd q3).symm (congrArg (fun r : SignD × RS => D.agg (cSign r.1)) q3).symm ⟨⟨rfl, rfl⟩, trivial⟩ (Cos.refl _) rfl ?_
    | refine endRd (d := .agg (cEntry (⟨v, n, t, g⟩))) (.inr rfl) rfl ⟨⟨rfl, rfl⟩, trivial⟩ rfl (.refl _) (congrArg Prod.snd eR).symm (congrArg (fun r : EntryD × RS => D.agg (cEntry r.1)) eR).symm
set_option maxHeartbeats 1000000 in
theorem mlistEntry_s [Wd] (most : Int) (hm0 : 0 ≤ most) (hm : most ≤ 4096) : FnR 283 (.agg [.ptr 0 0]) [.int .i64 most, .fn 284 0 []] (fun s => .list 5 ((listR entryR most s).1.map cEntry)) (fun s => (listR entryR most s).2) := by
  intro s0 hs
  obtain ⟨N, b0, e0, en, hN0, hN, hb0⟩ := manyR_pair most hm0 s0
  have eL : listR entryR most s0 = goR entryR N.toNat (b0, e0) := by unfold listR; rw [en]
  refine mkS 29 [] Tryz.func283 rfl (by kernel_rfl) ?_
  repeat'
    (conv => arg 2; whnf)
    first
    | refine okAsk (by kernel_rfl) ?_
    | refine okRd 0 s0 (b0, e0) (.int .i64 N) (mtMany_s most) hs (congrArg Prod.snd en).symm (congrArg (fun r : Int × RS => D.int .i64 r.1) en).symm ⟨⟨rfl, rfl⟩, trivial⟩ (Cos.refl _) rfl ?_
  conv => arg 2; whnf
  refine okLoop (α := Int × RS × List EntryD) (fun a => match a.2.2 with
    | [] => ⟨[(8, .int .i64 a.1), (7, .nils), (3, .ptr 1 0), (2, .fn 284 0 [])], [.cells 164 [.list 1 (a.2.1.1.map cByte), .int .i64 a.2.1.2, .bool true], .cells 306 [.ptr 0 0]]⟩
    | x :: l => ⟨[(8, .int .i64 a.1), (7, .row 2), (3, .ptr 1 0), (2, .fn 284 0 [])], [.cells 164 [.list 1 (a.2.1.1.map cByte), .int .i64 a.2.1.2, .bool true], .cells 306 [.ptr 0 0], .row 225 5 ((x :: l).map cEntry)]⟩) (fun a => 0 ≤ a.1 ∧ a.1 ≤ 4096 ∧ a.2.1.1.length ≤ 8388609 ∧ a.2.2.length + a.1.toNat ≤ 4096 ∧ goR entryR N.toNat (b0, e0) = (a.2.2 ++ (goR entryR a.1.toNat a.2.1).1, (goR entryR a.1.toNat a.2.1).2)) (fun a => a.1.toNat) (N, (b0, e0), []) ⟨hN0, by omega, by show b0.length ≤ _; omega, by simp; omega, rfl⟩ (Sv.mk' [0, 1] rfl ⟨⟨rfl, rfl⟩, ⟨rfl, rfl⟩, trivial⟩ ⟨rfl, rfl, rfl, rfl, trivial⟩) ?_
  rintro ⟨n, ⟨b, e⟩, out⟩ ⟨h0, h1, hl, ho, hg⟩
  replace h0 : 0 ≤ n := h0
  replace h1 : n ≤ 4096 := h1
  replace hl : b.length ≤ 8388609 := hl
  replace ho : out.length + n.toNat ≤ 4096 := ho
  replace hg : goR entryR N.toNat (b0, e0) = (out ++ (goR entryR n.toNat (b, e)).1, (goR entryR n.toNat (b, e)).2) := hg
  obtain ⟨x, b2, e2, ep⟩ : ∃ (x : EntryD) (b2 : List UInt8) (e2 : Int), entryR (b, e) = (x, (b2, e2)) := ⟨_, _, _, rfl⟩
  have hl2 : b2.length ≤ 8388609 := by
    have h := entryR_rd.len (b, e)
    rw [ep] at h
    exact Nat.le_trans h hl
  have hstop : (n ≤ 0 ∨ ¬ e = 0) → listR entryR most s0 = (out, (b, e)) := fun h => by
    rw [eL, hg]
    rcases h with h | h
    · rw [show n.toNat = 0 by omega]; simp [goR]
    · rw [goR_stop _ _ _ h]; simp
  have hnext : 0 < n → e = 0 → goR entryR N.toNat (b0, e0) = ((out ++ [x]) ++ (goR entryR (n - 1).toNat (b2, e2)).1, (goR entryR (n - 1).toNat (b2, e2)).2) := fun hn h => by
    rw [hg, goR_step _ hn h, ep]
    simp
  cases out with
  | nil =>
    conv => arg 2; whnf
    refine okBr (fun hn => ?_) (fun hn => ?_)
    · replace hn : 0 < n := by simpa using hn
      repeat'
        (conv => arg 2; whnf)
        first
        | refine okRd 0 (b, e) (b, e) (.int .i64 e) rdErr_s hl rfl rfl ⟨⟨rfl, rfl⟩, trivial⟩ (Cos.refl _) rfl ?_
        | refine okBoth ?_ ?_
        | refine okBrT ?_
        | refine okBrF ?_
        | refine okBr (fun h => ?_) (fun h => ?_)
        | refine okRd 0 (b, e) (b2, e2) (.agg (cEntry x)) mtEntry_s hl (congrArg Prod.snd ep).symm (congrArg (fun r : EntryD × RS => D.agg (cEntry r.1)) ep).symm ⟨⟨rfl, rfl⟩, trivial⟩ (Cos.refl _) rfl ?_
        | refine okAsk (by constructor <;> (simp only [List.length_cons, List.length_nil]; decide)) ?_
        | refine okWrap (w64 (by show _ ≤ n - 1; omega) (by show n - 1 ≤ _; omega)) ?_
        | refine okAgain (n - 1, (b2, e2), [x]) (Sv.mk' [0, 1, 4] rfl ⟨⟨rfl, rfl⟩, ⟨rfl, rfl⟩, ⟨rfl, rfl⟩, trivial⟩ ⟨rfl, rfl, rfl, rfl, trivial⟩) ⟨by show 0 ≤ n - 1; omega, by show n - 1 ≤ 4096; omega, hl2, by show ([x]).length + (n - 1).toNat ≤ 4096; simp at ho ⊢; omega, hnext hn (by simpa using h)⟩ (by show (n - 1).toNat < n.toNat; omega)
        | refine okOut ?_
        | refine endRd (d := .list 5 []) (.inr rfl) rfl ⟨⟨rfl, rfl⟩, trivial⟩ rfl (.nil _) (congrArg Prod.snd (hstop (.inr (by simpa using h)))).symm (congrArg (fun r : List EntryD × RS => D.list 5 (r.1.map cEntry)) (hstop (.inr (by simpa using h)))).symm
    · replace hn : n ≤ 0 := by simpa using hn
      repeat'
        (conv => arg 2; whnf)
        first
        | refine okRd 0 (b, e) (b, e) (.int .i64 e) rdErr_s hl rfl rfl ⟨⟨rfl, rfl⟩, trivial⟩ (Cos.refl _) rfl ?_
        | refine okBoth ?_ ?_
        | refine okBrT ?_
        | refine okBrF ?_
        | refine okBr (fun h => ?_) (fun h => ?_)
        | refine okOut ?_
        | refine endRd (d := .list 5 []) (.inr rfl) rfl ⟨⟨rfl, rfl⟩, trivial⟩ rfl (.nil _) (congrArg Prod.snd (hstop (.inl hn))).symm (congrArg (fun r : List EntryD × RS => D.list 5 (r.1.map cEntry)) (hstop (.inl hn))).symm
  | cons y out =>
    conv => arg 2; whnf
    refine okBr (fun hn => ?_) (fun hn => ?_)
    · replace hn : 0 < n := by simpa using hn
      repeat'
        (conv => arg 2; whnf)
        first
        | refine okRd 0 (b, e) (b, e) (.int .i64 e) rdErr_s hl rfl rfl ⟨⟨rfl, rfl⟩, trivial⟩ (Cos.refl _) rfl ?_
        | refine okBoth ?_ ?_
        | refine okBrT ?_
        | refine okBrF ?_
        | refine okBr (fun h => ?_) (fun h => ?_)
        | refine okRd 0 (b, e) (b2, e2) (.agg (cEntry x)) mtEntry_s hl (congrArg Prod.snd ep).symm (congrArg (fun r : EntryD × RS => D.agg (cEntry r.1)) ep).symm ⟨⟨rfl, rfl⟩, trivial⟩ (Cos.refl _) rfl ?_
        | refine okAsk (by constructor <;> (simp only [List.length_cons, List.length_nil, List.length_map, maxLen] at ho ⊢; omega)) ?_
        | refine okWrap (w64 (by show _ ≤ n - 1; omega) (by show n - 1 ≤ _; omega)) ?_
        | refine okAgain (n - 1, (b2, e2), (y :: out) ++ [x]) (Sv.mk' [0, 1, 5] rfl ⟨⟨rfl, rfl⟩, ⟨rfl, rfl⟩, ⟨rfl, by simp; rfl⟩, trivial⟩ ⟨rfl, rfl, rfl, rfl, trivial⟩) ⟨by show 0 ≤ n - 1; omega, by show n - 1 ≤ 4096; omega, hl2, by show ((y :: out) ++ [x]).length + (n - 1).toNat ≤ 4096; simp at ho ⊢; omega, hnext hn (by simpa using h)⟩ (by show (n - 1).toNat < n.toNat; omega)
        | refine okOut ?_
        | refine endRdF [2] (d := .list 5 ((y :: out).map cEntry)) (.inr rfl) rfl ⟨⟨rfl, rfl⟩, trivial⟩ rfl (.refl _) (congrArg Prod.snd (hstop (.inr (by simpa using h)))).symm (congrArg (fun r : List EntryD × RS => D.list 5 (r.1.map cEntry)) (hstop (.inr (by simpa using h)))).symm
    · replace hn : n ≤ 0 := by simpa using hn
      repeat'
        (conv => arg 2; whnf)
        first
        | refine okRd 0 (b, e) (b, e) (.int .i64 e) rdErr_s hl rfl rfl ⟨⟨rfl, rfl⟩, trivial⟩ (Cos.refl _) rfl ?_
        | refine okBoth ?_ ?_
        | refine okBrT ?_
        | refine okBrF ?_
        | refine okBr (fun h => ?_) (fun h => ?_)
        | refine okOut ?_
        | refine endRdF [2] (d := .list 5 ((y :: out).map cEntry)) (.inr rfl) rfl ⟨⟨rfl, rfl⟩, trivial⟩ rfl (.refl _) (congrArg Prod.snd (hstop (.inl hn))).symm (congrArg (fun r : List EntryD × RS => D.list 5 (r.1.map cEntry)) (hstop (.inl hn))).symm
theorem mtHeader_s [Wd]  : FnR 322 (.agg [.ptr 0 0]) [] (fun s => .agg (cHeader (headR s).1)) (fun s => (headR s).2) := by
  rintro ⟨b, e⟩ hs
  replace hs : b.length ≤ 8388609 := hs
  obtain ⟨v, b0, e0, q0, l0⟩ := Rd1.get (mNumR_rd 1) (b, e)
  replace l0 : b0.length ≤ b.length := l0
  have h0 : b0.length ≤ 8388609 := by omega
  obtain ⟨p, b1, e1, q1, l1⟩ := Rd1.get (mNumR_rd 0) (b0, e0)
  replace l1 : b1.length ≤ b0.length := l1
  have h1 : b1.length ≤ 8388609 := by omega
  obtain ⟨t, b2, e2, q2, l2⟩ := Rd1.get (mNumR_rd 0) (b1, e1)
  replace l2 : b2.length ≤ b1.length := l2
  have h2 : b2.length ≤ 8388609 := by omega
  obtain ⟨r, b3, e3, q3, l3⟩ := Rd1.get (mNumR_rd 0) (b2, e2)
  replace l3 : b3.length ≤ b2.length := l3
  have h3 : b3.length ≤ 8388609 := by omega
  obtain ⟨u, b4, e4, q4, l4⟩ := Rd1.get (mNumR_rd 0) (b3, e3)
  replace l4 : b4.length ≤ b3.length := l4
  have h4 : b4.length ≤ 8388609 := by omega
  have eR : headR (b, e) = (⟨v, p, t, r, u⟩, (b4, e4)) := by unfold headR mapR pairR bindR; simp only [q0, q1, q2, q3, q4]
  refine mkS 20 [] Tryz.func322 rfl (by kernel_rfl) ?_
  repeat'
    (conv => arg 2; whnf)
    first
    | refine okAsk (by kernel_rfl) ?_
    | refine okBoth ?_ ?_
    | refine okBrT ?_
    | refine okBrF ?_
    | refine okRd 0 (b, e) (b0, e0) (.int .i64 v) (mtNum_s 1) hs (congrArg Prod.snd q0).symm (congrArg (fun r : Int × RS => D.int .i64 r.1) q0).symm ⟨⟨rfl, rfl⟩, trivial⟩ (Cos.refl _) rfl ?_
    | refine okRd 0 (b0, e0) (b1, e1) (.int .i64 p) (mtDigest_s 0) h0 (congrArg Prod.snd q1).symm (congrArg (fun r : Int × RS => D.int .i64 r.1) q1).symm ⟨⟨rfl, rfl⟩, trivial⟩ (Cos.refl _) rfl ?_
    | refine okRd 0 (b1, e1) (b2, e2) (.int .i64 t) (mtDigest_s 0) h1 (congrArg Prod.snd q2).symm (congrArg (fun r : Int × RS => D.int .i64 r.1) q2).symm ⟨⟨rfl, rfl⟩, trivial⟩ (Cos.refl _) rfl ?_
    | refine okRd 0 (b2, e2) (b3, e3) (.int .i64 r) (mtDigest_s 0) h2 (congrArg Prod.snd q3).symm (congrArg (fun r : Int × RS => D.int .i64 r.1) q3).symm ⟨⟨rfl, rfl⟩, trivial⟩ (Cos.refl _) rfl ?_
    | refine okRd 0 (b3, e3) (b4, e4) (.int .i64 u) (mtDigest_s 0) h3 (congrArg Prod.snd q4).symm (congrArg (fun r : Int × RS => D.int .i64 r.1) q4).symm ⟨⟨rfl, rfl⟩, trivial⟩ (Cos.refl _) rfl ?_
    | refine endRd (d := .agg (cHeader (⟨v, p, t, r, u⟩))) (.inr rfl) rfl ⟨⟨rfl, rfl⟩, trivial⟩ rfl (.refl _) (congrArg Prod.snd eR).symm (congrArg (fun r : HeaderD × RS => D.agg (cHeader r.1)) eR).symm
set_option maxHeartbeats 1000000 in
theorem mlistHeader_s [Wd] (most : Int) (hm0 : 0 ≤ most) (hm : most ≤ 4096) : FnR 321 (.agg [.ptr 0 0]) [.int .i64 most, .fn 322 0 []] (fun s => .list 5 ((listR headR most s).1.map cHeader)) (fun s => (listR headR most s).2) := by
  intro s0 hs
  obtain ⟨N, b0, e0, en, hN0, hN, hb0⟩ := manyR_pair most hm0 s0
  have eL : listR headR most s0 = goR headR N.toNat (b0, e0) := by unfold listR; rw [en]
  refine mkS 29 [] Tryz.func321 rfl (by kernel_rfl) ?_
  repeat'
    (conv => arg 2; whnf)
    first
    | refine okAsk (by kernel_rfl) ?_
    | refine okRd 0 s0 (b0, e0) (.int .i64 N) (mtMany_s most) hs (congrArg Prod.snd en).symm (congrArg (fun r : Int × RS => D.int .i64 r.1) en).symm ⟨⟨rfl, rfl⟩, trivial⟩ (Cos.refl _) rfl ?_
  conv => arg 2; whnf
  refine okLoop (α := Int × RS × List HeaderD) (fun a => match a.2.2 with
    | [] => ⟨[(8, .int .i64 a.1), (7, .nils), (3, .ptr 1 0), (2, .fn 322 0 [])], [.cells 164 [.list 1 (a.2.1.1.map cByte), .int .i64 a.2.1.2, .bool true], .cells 306 [.ptr 0 0]]⟩
    | x :: l => ⟨[(8, .int .i64 a.1), (7, .row 2), (3, .ptr 1 0), (2, .fn 322 0 [])], [.cells 164 [.list 1 (a.2.1.1.map cByte), .int .i64 a.2.1.2, .bool true], .cells 306 [.ptr 0 0], .row 24 5 ((x :: l).map cHeader)]⟩) (fun a => 0 ≤ a.1 ∧ a.1 ≤ 4096 ∧ a.2.1.1.length ≤ 8388609 ∧ a.2.2.length + a.1.toNat ≤ 4096 ∧ goR headR N.toNat (b0, e0) = (a.2.2 ++ (goR headR a.1.toNat a.2.1).1, (goR headR a.1.toNat a.2.1).2)) (fun a => a.1.toNat) (N, (b0, e0), []) ⟨hN0, by omega, by show b0.length ≤ _; omega, by simp; omega, rfl⟩ (Sv.mk' [0, 1] rfl ⟨⟨rfl, rfl⟩, ⟨rfl, rfl⟩, trivial⟩ ⟨rfl, rfl, rfl, rfl, trivial⟩) ?_
  rintro ⟨n, ⟨b, e⟩, out⟩ ⟨h0, h1, hl, ho, hg⟩
  replace h0 : 0 ≤ n := h0
  replace h1 : n ≤ 4096 := h1
  replace hl : b.length ≤ 8388609 := hl
  replace ho : out.length + n.toNat ≤ 4096 := ho
  replace hg : goR headR N.toNat (b0, e0) = (out ++ (goR headR n.toNat (b, e)).1, (goR headR n.toNat (b, e)).2) := hg
  obtain ⟨x, b2, e2, ep⟩ : ∃ (x : HeaderD) (b2 : List UInt8) (e2 : Int), headR (b, e) = (x, (b2, e2)) := ⟨_, _, _, rfl⟩
  have hl2 : b2.length ≤ 8388609 := by
    have h := headR_rd.len (b, e)
    rw [ep] at h
    exact Nat.le_trans h hl
  have hstop : (n ≤ 0 ∨ ¬ e = 0) → listR headR most s0 = (out, (b, e)) := fun h => by
    rw [eL, hg]
    rcases h with h | h
    · rw [show n.toNat = 0 by omega]; simp [goR]
    · rw [goR_stop _ _ _ h]; simp
  have hnext : 0 < n → e = 0 → goR headR N.toNat (b0, e0) = ((out ++ [x]) ++ (goR headR (n - 1).toNat (b2, e2)).1, (goR headR (n - 1).toNat (b2, e2)).2) := fun hn h => by
    rw [hg, goR_step _ hn h, ep]
    simp
  cases out with
  | nil =>
    conv => arg 2; whnf
    refine okBr (fun hn => ?_) (fun hn => ?_)
    · replace hn : 0 < n := by simpa using hn
      repeat'
        (conv => arg 2; whnf)
        first
        | refine okRd 0 (b, e) (b, e) (.int .i64 e) rdErr_s hl rfl rfl ⟨⟨rfl, rfl⟩, trivial⟩ (Cos.refl _) rfl ?_
        | refine okBoth ?_ ?_
        | refine okBrT ?_
        | refine okBrF ?_
        | refine okBr (fun h => ?_) (fun h => ?_)
        | refine okRd 0 (b, e) (b2, e2) (.agg (cHeader x)) mtHeader_s hl (congrArg Prod.snd ep).symm (congrArg (fun r : HeaderD × RS => D.agg (cHeader r.1)) ep).symm ⟨⟨rfl, rfl⟩, trivial⟩ (Cos.refl _) rfl ?_
        | refine okAsk (by constructor <;> (simp only [List.length_cons, List.length_nil]; decide)) ?_
        | refine okWrap (w64 (by show _ ≤ n - 1; omega) (by show n - 1 ≤ _; omega)) ?_
        | refine okAgain (n - 1, (b2, e2), [x]) (Sv.mk' [0, 1, 4] rfl ⟨⟨rfl, rfl⟩, ⟨rfl, rfl⟩, ⟨rfl, rfl⟩, trivial⟩ ⟨rfl, rfl, rfl, rfl, trivial⟩) ⟨by show 0 ≤ n - 1; omega, by show n - 1 ≤ 4096; omega, hl2, by show ([x]).length + (n - 1).toNat ≤ 4096; simp at ho ⊢; omega, hnext hn (by simpa using h)⟩ (by show (n - 1).toNat < n.toNat; omega)
        | refine okOut ?_
        | refine endRd (d := .list 5 []) (.inr rfl) rfl ⟨⟨rfl, rfl⟩, trivial⟩ rfl (.nil _) (congrArg Prod.snd (hstop (.inr (by simpa using h)))).symm (congrArg (fun r : List HeaderD × RS => D.list 5 (r.1.map cHeader)) (hstop (.inr (by simpa using h)))).symm
    · replace hn : n ≤ 0 := by simpa using hn
      repeat'
        (conv => arg 2; whnf)
        first
        | refine okRd 0 (b, e) (b, e) (.int .i64 e) rdErr_s hl rfl rfl ⟨⟨rfl, rfl⟩, trivial⟩ (Cos.refl _) rfl ?_
        | refine okBoth ?_ ?_
        | refine okBrT ?_
        | refine okBrF ?_
        | refine okBr (fun h => ?_) (fun h => ?_)
        | refine okOut ?_
        | refine endRd (d := .list 5 []) (.inr rfl) rfl ⟨⟨rfl, rfl⟩, trivial⟩ rfl (.nil _) (congrArg Prod.snd (hstop (.inl hn))).symm (congrArg (fun r : List HeaderD × RS => D.list 5 (r.1.map cHeader)) (hstop (.inl hn))).symm
  | cons y out =>
    conv => arg 2; whnf
    refine okBr (fun hn => ?_) (fun hn => ?_)
    · replace hn : 0 < n := by simpa using hn
      repeat'
        (conv => arg 2; whnf)
        first
        | refine okRd 0 (b, e) (b, e) (.int .i64 e) rdErr_s hl rfl rfl ⟨⟨rfl, rfl⟩, trivial⟩ (Cos.refl _) rfl ?_
        | refine okBoth ?_ ?_
        | refine okBrT ?_
        | refine okBrF ?_
        | refine okBr (fun h => ?_) (fun h => ?_)
        | refine okRd 0 (b, e) (b2, e2) (.agg (cHeader x)) mtHeader_s hl (congrArg Prod.snd ep).symm (congrArg (fun r : HeaderD × RS => D.agg (cHeader r.1)) ep).symm ⟨⟨rfl, rfl⟩, trivial⟩ (Cos.refl _) rfl ?_
        | refine okAsk (by constructor <;> (simp only [List.length_cons, List.length_nil, List.length_map, maxLen] at ho ⊢; omega)) ?_
        | refine okWrap (w64 (by show _ ≤ n - 1; omega) (by show n - 1 ≤ _; omega)) ?_
        | refine okAgain (n - 1, (b2, e2), (y :: out) ++ [x]) (Sv.mk' [0, 1, 5] rfl ⟨⟨rfl, rfl⟩, ⟨rfl, rfl⟩, ⟨rfl, by simp; rfl⟩, trivial⟩ ⟨rfl, rfl, rfl, rfl, trivial⟩) ⟨by show 0 ≤ n - 1; omega, by show n - 1 ≤ 4096; omega, hl2, by show ((y :: out) ++ [x]).length + (n - 1).toNat ≤ 4096; simp at ho ⊢; omega, hnext hn (by simpa using h)⟩ (by show (n - 1).toNat < n.toNat; omega)
        | refine okOut ?_
        | refine endRdF [2] (d := .list 5 ((y :: out).map cHeader)) (.inr rfl) rfl ⟨⟨rfl, rfl⟩, trivial⟩ rfl (.refl _) (congrArg Prod.snd (hstop (.inr (by simpa using h)))).symm (congrArg (fun r : List HeaderD × RS => D.list 5 (r.1.map cHeader)) (hstop (.inr (by simpa using h)))).symm
    · replace hn : n ≤ 0 := by simpa using hn
      repeat'
        (conv => arg 2; whnf)
        first
        | refine okRd 0 (b, e) (b, e) (.int .i64 e) rdErr_s hl rfl rfl ⟨⟨rfl, rfl⟩, trivial⟩ (Cos.refl _) rfl ?_
        | refine okBoth ?_ ?_
        | refine okBrT ?_
        | refine okBrF ?_
        | refine okBr (fun h => ?_) (fun h => ?_)
        | refine okOut ?_
        | refine endRdF [2] (d := .list 5 ((y :: out).map cHeader)) (.inr rfl) rfl ⟨⟨rfl, rfl⟩, trivial⟩ rfl (.refl _) (congrArg Prod.snd (hstop (.inl hn))).symm (congrArg (fun r : List HeaderD × RS => D.list 5 (r.1.map cHeader)) (hstop (.inl hn))).symm
set_option maxHeartbeats 1000000 in
theorem mlistDigest_s [Wd] (most : Int) (hm0 : 0 ≤ most) (hm : most ≤ 4096) : FnR 323 (.agg [.ptr 0 0]) [.int .i64 most, .fn 324 0 []] (fun s => .list 1 ((listR (mNumR 0) most s).1.map cNum)) (fun s => (listR (mNumR 0) most s).2) := by
  intro s0 hs
  obtain ⟨N, b0, e0, en, hN0, hN, hb0⟩ := manyR_pair most hm0 s0
  have eL : listR (mNumR 0) most s0 = goR (mNumR 0) N.toNat (b0, e0) := by unfold listR; rw [en]
  refine mkS 29 [] Tryz.func323 rfl (by kernel_rfl) ?_
  repeat'
    (conv => arg 2; whnf)
    first
    | refine okAsk (by kernel_rfl) ?_
    | refine okRd 0 s0 (b0, e0) (.int .i64 N) (mtMany_s most) hs (congrArg Prod.snd en).symm (congrArg (fun r : Int × RS => D.int .i64 r.1) en).symm ⟨⟨rfl, rfl⟩, trivial⟩ (Cos.refl _) rfl ?_
  conv => arg 2; whnf
  refine okLoop (α := Int × RS × List Int) (fun a => match a.2.2 with
    | [] => ⟨[(8, .int .i64 a.1), (7, .nils), (3, .ptr 1 0), (2, .fn 324 0 [])], [.cells 164 [.list 1 (a.2.1.1.map cByte), .int .i64 a.2.1.2, .bool true], .cells 306 [.ptr 0 0]]⟩
    | x :: l => ⟨[(8, .int .i64 a.1), (7, .row 2), (3, .ptr 1 0), (2, .fn 324 0 [])], [.cells 164 [.list 1 (a.2.1.1.map cByte), .int .i64 a.2.1.2, .bool true], .cells 306 [.ptr 0 0], .row 22 1 ((x :: l).map cNum)]⟩) (fun a => 0 ≤ a.1 ∧ a.1 ≤ 4096 ∧ a.2.1.1.length ≤ 8388609 ∧ a.2.2.length + a.1.toNat ≤ 4096 ∧ goR (mNumR 0) N.toNat (b0, e0) = (a.2.2 ++ (goR (mNumR 0) a.1.toNat a.2.1).1, (goR (mNumR 0) a.1.toNat a.2.1).2)) (fun a => a.1.toNat) (N, (b0, e0), []) ⟨hN0, by omega, by show b0.length ≤ _; omega, by simp; omega, rfl⟩ (Sv.mk' [0, 1] rfl ⟨⟨rfl, rfl⟩, ⟨rfl, rfl⟩, trivial⟩ ⟨rfl, rfl, rfl, rfl, trivial⟩) ?_
  rintro ⟨n, ⟨b, e⟩, out⟩ ⟨h0, h1, hl, ho, hg⟩
  replace h0 : 0 ≤ n := h0
  replace h1 : n ≤ 4096 := h1
  replace hl : b.length ≤ 8388609 := hl
  replace ho : out.length + n.toNat ≤ 4096 := ho
  replace hg : goR (mNumR 0) N.toNat (b0, e0) = (out ++ (goR (mNumR 0) n.toNat (b, e)).1, (goR (mNumR 0) n.toNat (b, e)).2) := hg
  obtain ⟨x, b2, e2, ep⟩ : ∃ (x : Int) (b2 : List UInt8) (e2 : Int), (mNumR 0) (b, e) = (x, (b2, e2)) := ⟨_, _, _, rfl⟩
  have hl2 : b2.length ≤ 8388609 := by
    have h := (mNumR_rd 0).len (b, e)
    rw [ep] at h
    exact Nat.le_trans h hl
  have hstop : (n ≤ 0 ∨ ¬ e = 0) → listR (mNumR 0) most s0 = (out, (b, e)) := fun h => by
    rw [eL, hg]
    rcases h with h | h
    · rw [show n.toNat = 0 by omega]; simp [goR]
    · rw [goR_stop _ _ _ h]; simp
  have hnext : 0 < n → e = 0 → goR (mNumR 0) N.toNat (b0, e0) = ((out ++ [x]) ++ (goR (mNumR 0) (n - 1).toNat (b2, e2)).1, (goR (mNumR 0) (n - 1).toNat (b2, e2)).2) := fun hn h => by
    rw [hg, goR_step _ hn h, ep]
    simp
  cases out with
  | nil =>
    conv => arg 2; whnf
    refine okBr (fun hn => ?_) (fun hn => ?_)
    · replace hn : 0 < n := by simpa using hn
      repeat'
        (conv => arg 2; whnf)
        first
        | refine okRd 0 (b, e) (b, e) (.int .i64 e) rdErr_s hl rfl rfl ⟨⟨rfl, rfl⟩, trivial⟩ (Cos.refl _) rfl ?_
        | refine okBoth ?_ ?_
        | refine okBrT ?_
        | refine okBrF ?_
        | refine okBr (fun h => ?_) (fun h => ?_)
        | refine okRd 0 (b, e) (b2, e2) (.int .i64 x) mtPath_s hl (congrArg Prod.snd ep).symm (congrArg (fun r : Int × RS => D.int .i64 r.1) ep).symm ⟨⟨rfl, rfl⟩, trivial⟩ (Cos.refl _) rfl ?_
        | refine okAsk (by constructor <;> (simp only [List.length_cons, List.length_nil]; decide)) ?_
        | refine okWrap (w64 (by show _ ≤ n - 1; omega) (by show n - 1 ≤ _; omega)) ?_
        | refine okAgain (n - 1, (b2, e2), [x]) (Sv.mk' [0, 1, 4] rfl ⟨⟨rfl, rfl⟩, ⟨rfl, rfl⟩, ⟨rfl, rfl⟩, trivial⟩ ⟨rfl, rfl, rfl, rfl, trivial⟩) ⟨by show 0 ≤ n - 1; omega, by show n - 1 ≤ 4096; omega, hl2, by show ([x]).length + (n - 1).toNat ≤ 4096; simp at ho ⊢; omega, hnext hn (by simpa using h)⟩ (by show (n - 1).toNat < n.toNat; omega)
        | refine okOut ?_
        | refine endRd (d := .list 1 []) (.inr rfl) rfl ⟨⟨rfl, rfl⟩, trivial⟩ rfl (.nil _) (congrArg Prod.snd (hstop (.inr (by simpa using h)))).symm (congrArg (fun r : List Int × RS => D.list 1 (r.1.map cNum)) (hstop (.inr (by simpa using h)))).symm
    · replace hn : n ≤ 0 := by simpa using hn
      repeat'
        (conv => arg 2; whnf)
        first
        | refine okRd 0 (b, e) (b, e) (.int .i64 e) rdErr_s hl rfl rfl ⟨⟨rfl, rfl⟩, trivial⟩ (Cos.refl _) rfl ?_
        | refine okBoth ?_ ?_
        | refine okBrT ?_
        | refine okBrF ?_
        | refine okBr (fun h => ?_) (fun h => ?_)
        | refine okOut ?_
        | refine endRd (d := .list 1 []) (.inr rfl) rfl ⟨⟨rfl, rfl⟩, trivial⟩ rfl (.nil _) (congrArg Prod.snd (hstop (.inl hn))).symm (congrArg (fun r : List Int × RS => D.list 1 (r.1.map cNum)) (hstop (.inl hn))).symm
  | cons y out =>
    conv => arg 2; whnf
    refine okBr (fun hn => ?_) (fun hn => ?_)
    · replace hn : 0 < n := by simpa using hn
      repeat'
        (conv => arg 2; whnf)
        first
        | refine okRd 0 (b, e) (b, e) (.int .i64 e) rdErr_s hl rfl rfl ⟨⟨rfl, rfl⟩, trivial⟩ (Cos.refl _) rfl ?_
        | refine okBoth ?_ ?_
        | refine okBrT ?_
        | refine okBrF ?_
        | refine okBr (fun h => ?_) (fun h => ?_)
        | refine okRd 0 (b, e) (b2, e2) (.int .i64 x) mtPath_s hl (congrArg Prod.snd ep).symm (congrArg (fun r : Int × RS => D.int .i64 r.1) ep).symm ⟨⟨rfl, rfl⟩, trivial⟩ (Cos.refl _) rfl ?_
        | refine okAsk (by constructor <;> (simp only [List.length_cons, List.length_nil, List.length_map, maxLen] at ho ⊢; omega)) ?_
        | refine okWrap (w64 (by show _ ≤ n - 1; omega) (by show n - 1 ≤ _; omega)) ?_
        | refine okAgain (n - 1, (b2, e2), (y :: out) ++ [x]) (Sv.mk' [0, 1, 5] rfl ⟨⟨rfl, rfl⟩, ⟨rfl, rfl⟩, ⟨rfl, by simp; rfl⟩, trivial⟩ ⟨rfl, rfl, rfl, rfl, trivial⟩) ⟨by show 0 ≤ n - 1; omega, by show n - 1 ≤ 4096; omega, hl2, by show ((y :: out) ++ [x]).length + (n - 1).toNat ≤ 4096; simp at ho ⊢; omega, hnext hn (by simpa using h)⟩ (by show (n - 1).toNat < n.toNat; omega)
        | refine okOut ?_
        | refine endRdF [2] (d := .list 1 ((y :: out).map cNum)) (.inr rfl) rfl ⟨⟨rfl, rfl⟩, trivial⟩ rfl (.refl _) (congrArg Prod.snd (hstop (.inr (by simpa using h)))).symm (congrArg (fun r : List Int × RS => D.list 1 (r.1.map cNum)) (hstop (.inr (by simpa using h)))).symm
    · replace hn : n ≤ 0 := by simpa using hn
      repeat'
        (conv => arg 2; whnf)
        first
        | refine okRd 0 (b, e) (b, e) (.int .i64 e) rdErr_s hl rfl rfl ⟨⟨rfl, rfl⟩, trivial⟩ (Cos.refl _) rfl ?_
        | refine okBoth ?_ ?_
        | refine okBrT ?_
        | refine okBrF ?_
        | refine okBr (fun h => ?_) (fun h => ?_)
        | refine okOut ?_
        | refine endRdF [2] (d := .list 1 ((y :: out).map cNum)) (.inr rfl) rfl ⟨⟨rfl, rfl⟩, trivial⟩ rfl (.refl _) (congrArg Prod.snd (hstop (.inl hn))).symm (congrArg (fun r : List Int × RS => D.list 1 (r.1.map cNum)) (hstop (.inl hn))).symm
end Go.Proofs.YteaggenihhaajaaGreat

/- Package message's taker: names, proofs, votes, over data (printed by gen_wp.py). -/
namespace Go.Proofs.YteaggenihhaajaaGreat
open Go.RowKit
set_option linter.unusedVariables false
set_option maxRecDepth 20000

theorem okBrZt [Wd] {P : Program} {Q : Exit → S → Prop} {e : Int} {t f : T} (h1 : e = 0 → t.ok P Q) (h2 : ¬ e = 0 → f.ok P Q) : (T.br ((e == 0) == true) t f).ok P Q := ⟨fun h => h1 (by simpa using h), fun h => h2 (by simpa using h)⟩
theorem mtName_s [Wd] : FnR 285 (.agg [.ptr 0 0]) [] (fun s => .str (nameR s).1) (fun s => (nameR s).2) := by
  rintro ⟨b, e⟩ hs
  replace hs : b.length ≤ 8388609 := hs
  obtain ⟨x, b0, e0, q0, l0⟩ := Rd1.get (bytesR_rd 64) (b, e)
  replace l0 : b0.length ≤ b.length := l0
  have h0 : b0.length ≤ 8388609 := by omega
  have hx := bytes_in q0
  have eR : nameR (b, e) = (x, failR (nameE x) (b0, e0)) := by unfold nameR guardR; simp only [q0]
  have gC : ¬ e0 = 0 → nameR (b, e) = (x, (b0, e0)) := fun h => by rw [eR, failR_no _ h]
  cases hn : nameF x
  · have qn : FnP Tryz.prog 320 [.str x] (.bool false) := by
      have := name_s x (by omega)
      rwa [hn] at this
    have gA : e0 = 0 → nameR (b, e) = (x, (b0, 61)) := fun h => by
      rw [eR, h]
      unfold nameE
      rw [hn]
      rfl
    refine mkS 21 [] Tryz.func285 rfl (by kernel_rfl) ?_
    repeat'
      (conv => arg 2; whnf)
      first
      | refine okAsk (by kernel_rfl) ?_
      | refine okBoth ?_ ?_
      | refine okBrT ?_
      | refine okBrF ?_
      | refine okBrZt (fun h => ?_) (fun hz => ?_)
      | refine okBrZ (fun h => ?_) (fun hz => ?_)
      | refine okByts _ rfl ?_
      | refine okAsk (by omega) ?_
      | refine okRd 0 (b, e) (b0, e0) (.list 1 (x.map cByte)) bytes64_s hs (congrArg Prod.snd q0).symm (congrArg (fun r : List UInt8 × RS => D.list 1 (r.1.map cByte)) q0).symm ⟨⟨rfl, rfl⟩, trivial⟩ (Cos.refl _) rfl ?_
      | refine okRd 0 (b0, e0) (b0, e0) (.int .i64 e0) rdErr_s h0 rfl rfl ⟨⟨rfl, rfl⟩, trivial⟩ (Cos.refl _) rfl ?_
      | refine okFn qn rfl (Cos.refl _) ?_
      | refine okRd 0 (b0, e0) (b0, 61) (.tup []) (rdFail_s 61) h0 (by rw [h]; rfl) rfl ⟨⟨rfl, rfl⟩, trivial⟩ (Cos.refl _) rfl ?_
      | refine endRd (x := b0) (y := 61) (d := .str x) (.inr rfl) rfl ⟨⟨rfl, rfl⟩, trivial⟩ rfl (.refl _) (congrArg Prod.snd (gA h)).symm (congrArg (fun r : List UInt8 × RS => D.str r.1) (gA h)).symm
      | (subst h; refine endRd (x := b0) (y := 0) (d := .str x) (.inr rfl) rfl ⟨⟨rfl, rfl⟩, trivial⟩ rfl (.refl _) (congrArg Prod.snd (gA rfl)).symm (congrArg (fun r : List UInt8 × RS => D.str r.1) (gA rfl)).symm)
      | refine endRd (x := b0) (y := e0) (d := .str x) (.inr rfl) rfl ⟨⟨rfl, rfl⟩, trivial⟩ rfl (.refl _) (congrArg Prod.snd (gC hz)).symm (congrArg (fun r : List UInt8 × RS => D.str r.1) (gC hz)).symm
      | fail
  · have qn : FnP Tryz.prog 320 [.str x] (.bool true) := by
      have := name_s x (by omega)
      rwa [hn] at this
    have gA : e0 = 0 → nameR (b, e) = (x, (b0, 0)) := fun h => by
      rw [eR, h]
      unfold nameE
      rw [hn]
      rfl
    refine mkS 21 [] Tryz.func285 rfl (by kernel_rfl) ?_
    repeat'
      (conv => arg 2; whnf)
      first
      | refine okAsk (by kernel_rfl) ?_
      | refine okBoth ?_ ?_
      | refine okBrT ?_
      | refine okBrF ?_
      | refine okBrZt (fun h => ?_) (fun hz => ?_)
      | refine okBrZ (fun h => ?_) (fun hz => ?_)
      | refine okByts _ rfl ?_
      | refine okAsk (by omega) ?_
      | refine okRd 0 (b, e) (b0, e0) (.list 1 (x.map cByte)) bytes64_s hs (congrArg Prod.snd q0).symm (congrArg (fun r : List UInt8 × RS => D.list 1 (r.1.map cByte)) q0).symm ⟨⟨rfl, rfl⟩, trivial⟩ (Cos.refl _) rfl ?_
      | refine okRd 0 (b0, e0) (b0, e0) (.int .i64 e0) rdErr_s h0 rfl rfl ⟨⟨rfl, rfl⟩, trivial⟩ (Cos.refl _) rfl ?_
      | refine okFn qn rfl (Cos.refl _) ?_
      | refine okRd 0 (b0, e0) (b0, 61) (.tup []) (rdFail_s 61) h0 (by rw [h]; rfl) rfl ⟨⟨rfl, rfl⟩, trivial⟩ (Cos.refl _) rfl ?_
      | refine endRd (x := b0) (y := 61) (d := .str x) (.inr rfl) rfl ⟨⟨rfl, rfl⟩, trivial⟩ rfl (.refl _) (congrArg Prod.snd (gA h)).symm (congrArg (fun r : List UInt8 × RS => D.str r.1) (gA h)).symm
      | (subst h; refine endRd (x := b0) (y := 0) (d := .str x) (.inr rfl) rfl ⟨⟨rfl, rfl⟩, trivial⟩ rfl (.refl _) (congrArg Prod.snd (gA rfl)).symm (congrArg (fun r : List UInt8 × RS => D.str r.1) (gA rfl)).symm)
      | refine endRd (x := b0) (y := e0) (d := .str x) (.inr rfl) rfl ⟨⟨rfl, rfl⟩, trivial⟩ rfl (.refl _) (congrArg Prod.snd (gC hz)).symm (congrArg (fun r : List UInt8 × RS => D.str r.1) (gC hz)).symm
      | fail
theorem mtProof_s [Wd] : FnR 286 (.agg [.ptr 0 0]) [] (fun s => .agg (cProof (proofR s).1)) (fun s => (proofR s).2) := by
  rintro ⟨b, e⟩ hs
  replace hs : b.length ≤ 8388609 := hs
  obtain ⟨t, b0, e0, q0, l0⟩ := Rd1.get nameR_rd (b, e)
  replace l0 : b0.length ≤ b.length := l0
  have h0 : b0.length ≤ 8388609 := by omega
  obtain ⟨f, b1, e1, q1, l1⟩ := Rd1.get (mNumR_rd 0) (b0, e0)
  replace l1 : b1.length ≤ b0.length := l1
  have h1 : b1.length ≤ 8388609 := by omega
  obtain ⟨c, b2, e2, q2, l2⟩ := Rd1.get (bytesR_rd 64) (b1, e1)
  replace l2 : b2.length ≤ b1.length := l2
  have h2 : b2.length ≤ 8388609 := by omega
  obtain ⟨hd, b3, e3, q3, l3⟩ := Rd1.get (listR_rd headR_rd 64) (b2, e2)
  replace l3 : b3.length ≤ b2.length := l3
  have h3 : b3.length ≤ 8388609 := by omega
  obtain ⟨i, b4, e4, q4, l4⟩ := Rd1.get (mNumR_rd 0) (b3, e3)
  replace l4 : b4.length ≤ b3.length := l4
  have h4 : b4.length ≤ 8388609 := by omega
  obtain ⟨n, b5, e5, q5, l5⟩ := Rd1.get (manyR_rd 16) (b4, e4)
  replace l5 : b5.length ≤ b4.length := l5
  have h5 : b5.length ≤ 8388609 := by omega
  obtain ⟨em, hem⟩ : ∃ em : Int, mustR (decide (i < n)) (b5, e5) = (b5, em) := ⟨(mustR (decide (i < n)) (b5, e5)).2, Prod.ext (mustR_len _ _) rfl⟩
  obtain ⟨l, b6, e6, q6, l6⟩ := Rd1.get (listR_rd (mNumR_rd 0) 8) (b5, em)
  replace l6 : b6.length ≤ b5.length := l6
  have h6 : b6.length ≤ 8388609 := by omega
  obtain ⟨k, b7, e7, q7, l7⟩ := Rd1.get certR_rd (b6, e6)
  replace l7 : b7.length ≤ b6.length := l7
  have h7 : b7.length ≤ 8388609 := by omega
  have hem' : failR (if i < n then 0 else 100) (b5, e5) = (b5, em) := by
    rw [← hem, mustR_eq]
    congr 1
    by_cases h : i < n <;> simp [h]
  have eR : proofR (b, e) = (⟨t, f, c, hd, i, n, l, k⟩, (b7, e7)) := by unfold proofR mapR pairR bindR guardR; simp only [q0, q1, q2, q3, q4, q5, hem', q6, q7]
  refine mkS 37 [] Tryz.func286 rfl (by kernel_rfl) ?_
  repeat'
    (conv => arg 2; whnf)
    first
    | refine okAsk (by kernel_rfl) ?_
    | refine okBoth ?_ ?_
    | refine okBrT ?_
    | refine okBrF ?_
    | refine okWrap (w64 (by omega) (by omega)) ?_
    | refine okRd 0 (b, e) (b0, e0) (.str t) mtName_s hs (congrArg Prod.snd q0).symm (congrArg (fun r : List UInt8 × RS => D.str r.1) q0).symm ⟨⟨rfl, rfl⟩, trivial⟩ (Cos.refl _) rfl ?_
    | refine okRd 0 (b0, e0) (b1, e1) (.int .i64 f) (mtNum_s 0) h0 (congrArg Prod.snd q1).symm (congrArg (fun r : Int × RS => D.int .i64 r.1) q1).symm ⟨⟨rfl, rfl⟩, trivial⟩ (Cos.refl _) rfl ?_
    | refine okRd 0 (b1, e1) (b2, e2) (.list 1 (c.map cByte)) bytes64_s h1 (congrArg Prod.snd q2).symm (congrArg (fun r : List UInt8 × RS => D.list 1 (r.1.map cByte)) q2).symm ⟨⟨rfl, rfl⟩, trivial⟩ (Cos.refl _) rfl ?_
    | refine okRd 0 (b2, e2) (b3, e3) (.list 5 (hd.map cHeader)) (mlistHeader_s 64 (by decide) (by decide)) h2 (congrArg Prod.snd q3).symm (congrArg (fun r : List HeaderD × RS => D.list 5 (r.1.map cHeader)) q3).symm ⟨⟨rfl, rfl⟩, trivial⟩ (Cos.refl _) rfl ?_
    | refine okRd 0 (b3, e3) (b4, e4) (.int .i64 i) (mtNum_s 0) h3 (congrArg Prod.snd q4).symm (congrArg (fun r : Int × RS => D.int .i64 r.1) q4).symm ⟨⟨rfl, rfl⟩, trivial⟩ (Cos.refl _) rfl ?_
    | refine okRd 0 (b4, e4) (b5, e5) (.int .i64 n) (mtMany_s 16) h4 (congrArg Prod.snd q5).symm (congrArg (fun r : Int × RS => D.int .i64 r.1) q5).symm ⟨⟨rfl, rfl⟩, trivial⟩ (Cos.refl _) rfl ?_
    | refine okRd 0 (b5, e5) (b5, em) (.tup []) (mtMust_s (decide (i < n))) h5 hem.symm rfl ⟨⟨rfl, rfl⟩, trivial⟩ (Cos.refl _) rfl ?_
    | refine okRd 0 (b5, em) (b6, e6) (.list 1 (l.map cNum)) (mlistDigest_s 8 (by decide) (by decide)) h5 (congrArg Prod.snd q6).symm (congrArg (fun r : List Int × RS => D.list 1 (r.1.map cNum)) q6).symm ⟨⟨rfl, rfl⟩, trivial⟩ (Cos.refl _) rfl ?_
    | refine okRd 0 (b6, e6) (b7, e7) (.agg (cCert k)) mtCert_s h6 (congrArg Prod.snd q7).symm (congrArg (fun r : CertD × RS => D.agg (cCert r.1)) q7).symm ⟨⟨rfl, rfl⟩, trivial⟩ (Cos.refl _) rfl ?_
    | refine endRd (d := .agg (cProof (⟨t, f, c, hd, i, n, l, k⟩))) (.inr rfl) rfl ⟨⟨rfl, rfl⟩, trivial⟩ rfl (.refl _) (congrArg Prod.snd eR).symm (congrArg (fun r : ProofD × RS => D.agg (cProof r.1)) eR).symm
theorem mtVote_s [Wd] (kd : Int) (b : List UInt8) (e : Int) (hs : b.length ≤ 8388609) {r v n d : Int} {b3 : List UInt8} {e3 : Int} (q : voteR4 (b, e) = ((r, v, n, d), (b3, e3))) : FnS Tryz.prog 279 [.agg [.ptr 0 0], .ptr 1 0] [.cells 164 [.list 1 (b.map cByte), .int .i64 e, .bool true], .cells 122 [.int .i64 kd, .int .i64 0, .int .i64 0, .int .i64 0, .int .i64 0, .int .i64 0, .int .i64 0, .int .i64 0, .int .i64 0, .nils, .int .i64 0, .int .i64 0, .nils, .nils, .nils, .nils, .str [], .int .i64 0, .str [], .int .i64 0, .nils, .nils, .int .i64 0, .int .i64 0, .nils, .int .i64 0, .int .i64 0, .nils, .int .i64 0, .int .i64 0]] (fun r' h => r' = .tup [] ∧ h = [.cells 164 [.list 1 (b3.map cByte), .int .i64 e3, .bool true], .cells 122 [.int .i64 kd, .int .i64 r, .int .i64 v, .int .i64 n, .int .i64 d, .int .i64 0, .int .i64 0, .int .i64 0, .int .i64 0, .nils, .int .i64 0, .int .i64 0, .nils, .nils, .nils, .nils, .str [], .int .i64 0, .str [], .int .i64 0, .nils, .nils, .int .i64 0, .int .i64 0, .nils, .int .i64 0, .int .i64 0, .nils, .int .i64 0, .int .i64 0]]) := by
  obtain ⟨r', c0, e0, q0, l0⟩ := Rd1.get (nR_rd 12) (b, e)
  replace l0 : c0.length ≤ b.length := l0
  have h0 : c0.length ≤ 8388609 := by omega
  obtain ⟨v', c1, e1, q1, l1⟩ := Rd1.get (mNumR_rd 0) (c0, e0)
  replace l1 : c1.length ≤ c0.length := l1
  have h1 : c1.length ≤ 8388609 := by omega
  obtain ⟨n', c2, e2, q2, l2⟩ := Rd1.get (mNumR_rd 1) (c1, e1)
  replace l2 : c2.length ≤ c1.length := l2
  have h2 : c2.length ≤ 8388609 := by omega
  obtain ⟨d', c3, e3, q3, l3⟩ := Rd1.get (mNumR_rd 1) (c2, e2)
  replace l3 : c3.length ≤ c2.length := l3
  have h3 : c3.length ≤ 8388609 := by omega
  unfold voteR4 pairR bindR at q
  simp only [q0, q1, q2, q3] at q
  cases q
  refine mkS 24 [] Tryz.func279 rfl (by kernel_rfl) ?_
  repeat'
    (conv => arg 2; whnf)
    first
    | refine okAsk (by kernel_rfl) ?_
    | refine okBoth ?_ ?_
    | refine okBrT ?_
    | refine okBrF ?_
    | refine okRd 0 (b, e) (c0, e0) (.int .i64 r) mtBroker_s hs (congrArg Prod.snd q0).symm (congrArg (fun r : Int × RS => D.int .i64 r.1) q0).symm ⟨⟨rfl, rfl⟩, trivial⟩ (Cos.refl _) rfl ?_
    | refine okRd 0 (c0, e0) (c1, e1) (.int .i64 v) (mtNum_s 0) h0 (congrArg Prod.snd q1).symm (congrArg (fun r : Int × RS => D.int .i64 r.1) q1).symm ⟨⟨rfl, rfl⟩, trivial⟩ (Cos.refl _) rfl ?_
    | refine okRd 0 (c1, e1) (c2, e2) (.int .i64 n) (mtNum_s 1) h1 (congrArg Prod.snd q2).symm (congrArg (fun r : Int × RS => D.int .i64 r.1) q2).symm ⟨⟨rfl, rfl⟩, trivial⟩ (Cos.refl _) rfl ?_
    | refine okRd 0 (c2, e2) (b3, e3) (.int .i64 d) (mtDigest_s 1) h2 (congrArg Prod.snd q3).symm (congrArg (fun r : Int × RS => D.int .i64 r.1) q3).symm ⟨⟨rfl, rfl⟩, trivial⟩ (Cos.refl _) rfl ?_
    | refine endObj [0, 1] (.inl rfl) rfl rfl ⟨⟨rfl, rfl⟩, ⟨rfl, rfl⟩, trivial⟩ ⟨⟨rfl, rfl⟩, ⟨rfl, rfl⟩, trivial⟩ (.refl _)
end Go.Proofs.YteaggenihhaajaaGreat

/- Package message's taker: messages, a kind at a time, over data (printed by gen_wq.py). -/
namespace Go.Proofs.YteaggenihhaajaaGreat
open Go.RowKit
set_option linter.unusedVariables false
set_option maxRecDepth 20000

set_option maxHeartbeats 2000000 in
theorem mtMsg1_s [Wd] (b : List UInt8) (e : Int) (hs : b.length ≤ 8388609) {b0 : List UInt8} {e0 : Int} (q0 : nR MX (b, e) = (1, (b0, e0))) (h0 : b0.length ≤ 8388609) : FnS Tryz.prog 239 [.agg [.ptr 0 0]] (oRd (b, e)) (fun r h => r = .agg (cMsg (msgR (b, e)).1) ∧ h = oRd (msgR (b, e)).2) := by
  obtain ⟨l, b1, e1, q1, l1⟩ := Rd1.get batchR_rd (b0, e0)
  replace l1 : b1.length ≤ b0.length := l1
  have h1 : b1.length ≤ 8388609 := by omega
  obtain ⟨em, hem⟩ : ∃ em : Int, mustR ((((l.map cSigned).length : Nat) : Int) == 1) (b1, e1) = (b1, em) := ⟨(mustR ((((l.map cSigned).length : Nat) : Int) == 1) (b1, e1)).2, Prod.ext (mustR_len _ _) rfl⟩
  have hem' : failR (if l.length = 1 then 0 else 100) (b1, e1) = (b1, em) := by
    rw [← hem, mustR_eq, List.length_map]
    congr 1
    by_cases h : l.length = 1
    · simp [h]
    · rw [if_neg h, if_neg (by simp; omega)]
  have eB : mBodyR 1 (b0, e0) = ({ zMsg with kind := 1, batch := l }, (b1, em)) := by
    show mapR (fun l => { zMsg with kind := 1, batch := l }) (guardR batchR fun l => if l.length = 1 then 0 else 100) (b0, e0) = _
    unfold mapR guardR
    simp only [q1, hem']
  have eS : ownSR 1 (b1, em) = (zSign, (b1, em)) := rfl
  have eR : msgR (b, e) = ({ zMsg with kind := 1, batch := l, sign := zSign }, (b1, em)) := by
    unfold msgR mapR bindR pairR bindR
    simp only [q0, eB, eS]
  have qs : FnP Tryz.prog 228 [.int .i64 1] (.bool false) := signed_s 1
  refine mkS 140 [] Tryz.func239 rfl (by kernel_rfl) ?_
  repeat'
    (conv => arg 2; whnf)
    first
    | refine okAsk (by kernel_rfl) ?_
    | refine okBoth ?_ ?_
    | refine okBrT ?_
    | refine okBrF ?_
    | refine okBr1 (by decide) ?_
    | refine okBr0 (by decide) ?_
    | refine okWrap (w64 (by decide) (by decide)) ?_
    | refine okRd 0 (b, e) (b0, e0) (.int .u64 1) (rdNum_s MX) hs (congrArg Prod.snd q0).symm (congrArg (fun r : Int × RS => D.int .u64 r.1) q0).symm ⟨⟨rfl, rfl⟩, trivial⟩ (Cos.refl _) rfl ?_
    | refine okRd 0 (b0, e0) (b1, e1) (.list 9 (l.map cSigned)) mtBatch_s h0 (congrArg Prod.snd q1).symm (congrArg (fun r : List SignedD × RS => D.list 9 (r.1.map cSigned)) q1).symm ⟨⟨rfl, rfl⟩, trivial⟩ (Cos.refl _) rfl ?_
    | refine okRd 0 (b1, e1) (b1, em) (.tup []) (mtMust_s ((((l.map cSigned).length : Nat) : Int) == 1)) h1 hem.symm rfl ⟨⟨rfl, rfl⟩, trivial⟩ (Cos.refl _) rfl ?_
    | refine okFn qs rfl (Cos.refl _) ?_
    | refine endRd (d := .agg (cMsg ({ zMsg with kind := 1, batch := l, sign := zSign }))) (.inr rfl) rfl ⟨⟨rfl, rfl⟩, trivial⟩ rfl (Cos.mkAgg (by repeat' first | exact Cos.nil | refine Cos.cons (.refl _) ?_ | refine Cos.cons (.nil _) ?_)) (congrArg Prod.snd eR).symm (congrArg (fun r : MsgD × RS => D.agg (cMsg r.1)) eR).symm
    | fail
set_option maxHeartbeats 2000000 in
theorem mtMsg2_s [Wd] (b : List UInt8) (e : Int) (hs : b.length ≤ 8388609) {b0 : List UInt8} {e0 : Int} (q0 : nR MX (b, e) = (2, (b0, e0))) (h0 : b0.length ≤ 8388609) : FnS Tryz.prog 239 [.agg [.ptr 0 0]] (oRd (b, e)) (fun r h => r = .agg (cMsg (msgR (b, e)).1) ∧ h = oRd (msgR (b, e)).2) := by
  obtain ⟨⟨r, v, n, d⟩, b1, e1, q1, l1⟩ := Rd1.get voteR4_rd (b0, e0)
  replace l1 : b1.length ≤ b0.length := l1
  have h1 : b1.length ≤ 8388609 := by omega
  obtain ⟨l, b2, e2, q2, l2⟩ := Rd1.get batchR_rd (b1, e1)
  replace l2 : b2.length ≤ b1.length := l2
  have h2 : b2.length ≤ 8388609 := by omega
  have eB : mBodyR 2 (b0, e0) = ({ zMsg with kind := 2, src := r, view := v, seq := n, digest := d, batch := l }, (b2, e2)) := by
    show mapR (fun z => { zMsg with kind := 2, src := z.1.1, view := z.1.2.1, seq := z.1.2.2.1, digest := z.1.2.2.2, batch := z.2 }) (pairR voteR4 batchR) (b0, e0) = _
    unfold mapR pairR bindR
    simp only [q1, q2]
  obtain ⟨g, b3, e3, q3, l3⟩ := Rd1.get signR_rd (b2, e2)
  replace l3 : b3.length ≤ b2.length := l3
  have h3 : b3.length ≤ 8388609 := by omega
  have eS : ownSR 2 (b2, e2) = (g, (b3, e3)) := q3
  have eR : msgR (b, e) = ({ zMsg with kind := 2, src := r, view := v, seq := n, digest := d, batch := l, sign := g }, (b3, e3)) := by
    unfold msgR mapR bindR pairR bindR
    simp only [q0, eB, eS]
  have qs : FnP Tryz.prog 228 [.int .i64 2] (.bool true) := signed_s 2
  refine mkS 140 [] Tryz.func239 rfl (by kernel_rfl) ?_
  repeat'
    (conv => arg 2; whnf)
    first
    | refine okAsk (by kernel_rfl) ?_
    | refine okBoth ?_ ?_
    | refine okBrT ?_
    | refine okBrF ?_
    | refine okBr1 (by decide) ?_
    | refine okBr0 (by decide) ?_
    | refine okWrap (w64 (by decide) (by decide)) ?_
    | refine okRd 0 (b, e) (b0, e0) (.int .u64 2) (rdNum_s MX) hs (congrArg Prod.snd q0).symm (congrArg (fun r : Int × RS => D.int .u64 r.1) q0).symm ⟨⟨rfl, rfl⟩, trivial⟩ (Cos.refl _) rfl ?_
    | refine okCall [0, 4] (mtVote_s 2 b0 e0 h0 q1) (.mk' rfl ⟨⟨rfl, rfl⟩, ⟨rfl, rfl⟩, trivial⟩) (Cos.refl _) rfl ?_
    | refine okRd 0 (b1, e1) (b2, e2) (.list 9 (l.map cSigned)) mtBatch_s h1 (congrArg Prod.snd q2).symm (congrArg (fun r : List SignedD × RS => D.list 9 (r.1.map cSigned)) q2).symm ⟨⟨rfl, rfl⟩, trivial⟩ (Cos.refl _) rfl ?_
    | refine okRd 0 (b2, e2) (b3, e3) (.agg (cSign g)) mtSign_s h2 (congrArg Prod.snd q3).symm (congrArg (fun r : SignD × RS => D.agg (cSign r.1)) q3).symm ⟨⟨rfl, rfl⟩, trivial⟩ (Cos.refl _) rfl ?_
    | refine okFn qs rfl (Cos.refl _) ?_
    | refine endRd (d := .agg (cMsg ({ zMsg with kind := 2, src := r, view := v, seq := n, digest := d, batch := l, sign := g }))) (.inr rfl) rfl ⟨⟨rfl, rfl⟩, trivial⟩ rfl (Cos.mkAgg (by repeat' first | exact Cos.nil | refine Cos.cons (.refl _) ?_ | refine Cos.cons (.nil _) ?_)) (congrArg Prod.snd eR).symm (congrArg (fun r : MsgD × RS => D.agg (cMsg r.1)) eR).symm
    | fail
set_option maxHeartbeats 2000000 in
theorem mtMsg3_s [Wd] (b : List UInt8) (e : Int) (hs : b.length ≤ 8388609) {b0 : List UInt8} {e0 : Int} (q0 : nR MX (b, e) = (3, (b0, e0))) (h0 : b0.length ≤ 8388609) : FnS Tryz.prog 239 [.agg [.ptr 0 0]] (oRd (b, e)) (fun r h => r = .agg (cMsg (msgR (b, e)).1) ∧ h = oRd (msgR (b, e)).2) := by
  obtain ⟨⟨r, v, n, d⟩, b1, e1, q1, l1⟩ := Rd1.get voteR4_rd (b0, e0)
  replace l1 : b1.length ≤ b0.length := l1
  have h1 : b1.length ≤ 8388609 := by omega
  have eB : mBodyR 3 (b0, e0) = ({ zMsg with kind := 3, src := r, view := v, seq := n, digest := d }, (b1, e1)) := by
    show mapR (fun z => { zMsg with kind := 3, src := z.1, view := z.2.1, seq := z.2.2.1, digest := z.2.2.2 }) voteR4 (b0, e0) = _
    unfold mapR
    simp only [q1]
  obtain ⟨g, b2, e2, q2, l2⟩ := Rd1.get signR_rd (b1, e1)
  replace l2 : b2.length ≤ b1.length := l2
  have h2 : b2.length ≤ 8388609 := by omega
  have eS : ownSR 3 (b1, e1) = (g, (b2, e2)) := q2
  have eR : msgR (b, e) = ({ zMsg with kind := 3, src := r, view := v, seq := n, digest := d, sign := g }, (b2, e2)) := by
    unfold msgR mapR bindR pairR bindR
    simp only [q0, eB, eS]
  have qs : FnP Tryz.prog 228 [.int .i64 3] (.bool true) := signed_s 3
  refine mkS 140 [] Tryz.func239 rfl (by kernel_rfl) ?_
  repeat'
    (conv => arg 2; whnf)
    first
    | refine okAsk (by kernel_rfl) ?_
    | refine okBoth ?_ ?_
    | refine okBrT ?_
    | refine okBrF ?_
    | refine okBr1 (by decide) ?_
    | refine okBr0 (by decide) ?_
    | refine okWrap (w64 (by decide) (by decide)) ?_
    | refine okRd 0 (b, e) (b0, e0) (.int .u64 3) (rdNum_s MX) hs (congrArg Prod.snd q0).symm (congrArg (fun r : Int × RS => D.int .u64 r.1) q0).symm ⟨⟨rfl, rfl⟩, trivial⟩ (Cos.refl _) rfl ?_
    | refine okCall [0, 4] (mtVote_s 3 b0 e0 h0 q1) (.mk' rfl ⟨⟨rfl, rfl⟩, ⟨rfl, rfl⟩, trivial⟩) (Cos.refl _) rfl ?_
    | refine okRd 0 (b1, e1) (b2, e2) (.agg (cSign g)) mtSign_s h1 (congrArg Prod.snd q2).symm (congrArg (fun r : SignD × RS => D.agg (cSign r.1)) q2).symm ⟨⟨rfl, rfl⟩, trivial⟩ (Cos.refl _) rfl ?_
    | refine okFn qs rfl (Cos.refl _) ?_
    | refine endRd (d := .agg (cMsg ({ zMsg with kind := 3, src := r, view := v, seq := n, digest := d, sign := g }))) (.inr rfl) rfl ⟨⟨rfl, rfl⟩, trivial⟩ rfl (Cos.mkAgg (by repeat' first | exact Cos.nil | refine Cos.cons (.refl _) ?_ | refine Cos.cons (.nil _) ?_)) (congrArg Prod.snd eR).symm (congrArg (fun r : MsgD × RS => D.agg (cMsg r.1)) eR).symm
    | fail
set_option maxHeartbeats 2000000 in
theorem mtMsg4_s [Wd] (b : List UInt8) (e : Int) (hs : b.length ≤ 8388609) {b0 : List UInt8} {e0 : Int} (q0 : nR MX (b, e) = (4, (b0, e0))) (h0 : b0.length ≤ 8388609) : FnS Tryz.prog 239 [.agg [.ptr 0 0]] (oRd (b, e)) (fun r h => r = .agg (cMsg (msgR (b, e)).1) ∧ h = oRd (msgR (b, e)).2) := by
  obtain ⟨⟨r, v, n, d⟩, b1, e1, q1, l1⟩ := Rd1.get voteR4_rd (b0, e0)
  replace l1 : b1.length ≤ b0.length := l1
  have h1 : b1.length ≤ 8388609 := by omega
  have eB : mBodyR 4 (b0, e0) = ({ zMsg with kind := 4, src := r, view := v, seq := n, digest := d }, (b1, e1)) := by
    show mapR (fun z => { zMsg with kind := 4, src := z.1, view := z.2.1, seq := z.2.2.1, digest := z.2.2.2 }) voteR4 (b0, e0) = _
    unfold mapR
    simp only [q1]
  obtain ⟨g, b2, e2, q2, l2⟩ := Rd1.get signR_rd (b1, e1)
  replace l2 : b2.length ≤ b1.length := l2
  have h2 : b2.length ≤ 8388609 := by omega
  have eS : ownSR 4 (b1, e1) = (g, (b2, e2)) := q2
  have eR : msgR (b, e) = ({ zMsg with kind := 4, src := r, view := v, seq := n, digest := d, sign := g }, (b2, e2)) := by
    unfold msgR mapR bindR pairR bindR
    simp only [q0, eB, eS]
  have qs : FnP Tryz.prog 228 [.int .i64 4] (.bool true) := signed_s 4
  refine mkS 140 [] Tryz.func239 rfl (by kernel_rfl) ?_
  repeat'
    (conv => arg 2; whnf)
    first
    | refine okAsk (by kernel_rfl) ?_
    | refine okBoth ?_ ?_
    | refine okBrT ?_
    | refine okBrF ?_
    | refine okBr1 (by decide) ?_
    | refine okBr0 (by decide) ?_
    | refine okWrap (w64 (by decide) (by decide)) ?_
    | refine okRd 0 (b, e) (b0, e0) (.int .u64 4) (rdNum_s MX) hs (congrArg Prod.snd q0).symm (congrArg (fun r : Int × RS => D.int .u64 r.1) q0).symm ⟨⟨rfl, rfl⟩, trivial⟩ (Cos.refl _) rfl ?_
    | refine okCall [0, 4] (mtVote_s 4 b0 e0 h0 q1) (.mk' rfl ⟨⟨rfl, rfl⟩, ⟨rfl, rfl⟩, trivial⟩) (Cos.refl _) rfl ?_
    | refine okRd 0 (b1, e1) (b2, e2) (.agg (cSign g)) mtSign_s h1 (congrArg Prod.snd q2).symm (congrArg (fun r : SignD × RS => D.agg (cSign r.1)) q2).symm ⟨⟨rfl, rfl⟩, trivial⟩ (Cos.refl _) rfl ?_
    | refine okFn qs rfl (Cos.refl _) ?_
    | refine endRd (d := .agg (cMsg ({ zMsg with kind := 4, src := r, view := v, seq := n, digest := d, sign := g }))) (.inr rfl) rfl ⟨⟨rfl, rfl⟩, trivial⟩ rfl (Cos.mkAgg (by repeat' first | exact Cos.nil | refine Cos.cons (.refl _) ?_ | refine Cos.cons (.nil _) ?_)) (congrArg Prod.snd eR).symm (congrArg (fun r : MsgD × RS => D.agg (cMsg r.1)) eR).symm
    | fail
set_option maxHeartbeats 2000000 in
theorem mtMsg5_s [Wd] (b : List UInt8) (e : Int) (hs : b.length ≤ 8388609) {b0 : List UInt8} {e0 : Int} (q0 : nR MX (b, e) = (5, (b0, e0))) (h0 : b0.length ≤ 8388609) : FnS Tryz.prog 239 [.agg [.ptr 0 0]] (oRd (b, e)) (fun r h => r = .agg (cMsg (msgR (b, e)).1) ∧ h = oRd (msgR (b, e)).2) := by
  obtain ⟨r, b1, e1, q1, l1⟩ := Rd1.get (nR_rd 12) (b0, e0)
  replace l1 : b1.length ≤ b0.length := l1
  have h1 : b1.length ≤ 8388609 := by omega
  obtain ⟨v, b2, e2, q2, l2⟩ := Rd1.get (mNumR_rd 0) (b1, e1)
  replace l2 : b2.length ≤ b1.length := l2
  have h2 : b2.length ≤ 8388609 := by omega
  obtain ⟨y, b3, e3, q3, l3⟩ := Rd1.get (nR_rd 7) (b2, e2)
  replace l3 : b3.length ≤ b2.length := l3
  have h3 : b3.length ≤ 8388609 := by omega
  obtain ⟨u, b4, e4, q4, l4⟩ := Rd1.get (mNumR_rd 0) (b3, e3)
  replace l4 : b4.length ≤ b3.length := l4
  have h4 : b4.length ≤ 8388609 := by omega
  obtain ⟨rs, b5, e5, q5, l5⟩ := Rd1.get resultR_rd (b4, e4)
  replace l5 : b5.length ≤ b4.length := l5
  have h5 : b5.length ≤ 8388609 := by omega
  have eB : mBodyR 5 (b0, e0) = ({ zMsg with kind := 5, src := r, view := v, client := y, time := u, result := rs }, (b5, e5)) := by
    show mapR (fun z => { zMsg with kind := 5, src := z.1, view := z.2.1, client := z.2.2.1, time := z.2.2.2.1, result := z.2.2.2.2 }) (pairR (nR 12) (pairR (mNumR 0) (pairR (nR 7) (pairR (mNumR 0) resultR)))) (b0, e0) = _
    unfold mapR pairR bindR
    simp only [q1, q2, q3, q4, q5]
  obtain ⟨g, b6, e6, q6, l6⟩ := Rd1.get signR_rd (b5, e5)
  replace l6 : b6.length ≤ b5.length := l6
  have h6 : b6.length ≤ 8388609 := by omega
  have eS : ownSR 5 (b5, e5) = (g, (b6, e6)) := q6
  have eR : msgR (b, e) = ({ zMsg with kind := 5, src := r, view := v, client := y, time := u, result := rs, sign := g }, (b6, e6)) := by
    unfold msgR mapR bindR pairR bindR
    simp only [q0, eB, eS]
  have qs : FnP Tryz.prog 228 [.int .i64 5] (.bool true) := signed_s 5
  refine mkS 140 [] Tryz.func239 rfl (by kernel_rfl) ?_
  repeat'
    (conv => arg 2; whnf)
    first
    | refine okAsk (by kernel_rfl) ?_
    | refine okBoth ?_ ?_
    | refine okBrT ?_
    | refine okBrF ?_
    | refine okBr1 (by decide) ?_
    | refine okBr0 (by decide) ?_
    | refine okWrap (w64 (by decide) (by decide)) ?_
    | refine okRd 0 (b, e) (b0, e0) (.int .u64 5) (rdNum_s MX) hs (congrArg Prod.snd q0).symm (congrArg (fun r : Int × RS => D.int .u64 r.1) q0).symm ⟨⟨rfl, rfl⟩, trivial⟩ (Cos.refl _) rfl ?_
    | refine okRd 0 (b0, e0) (b1, e1) (.int .i64 r) mtBroker_s h0 (congrArg Prod.snd q1).symm (congrArg (fun r : Int × RS => D.int .i64 r.1) q1).symm ⟨⟨rfl, rfl⟩, trivial⟩ (Cos.refl _) rfl ?_
    | refine okRd 0 (b1, e1) (b2, e2) (.int .i64 v) (mtNum_s 0) h1 (congrArg Prod.snd q2).symm (congrArg (fun r : Int × RS => D.int .i64 r.1) q2).symm ⟨⟨rfl, rfl⟩, trivial⟩ (Cos.refl _) rfl ?_
    | refine okRd 0 (b2, e2) (b3, e3) (.int .i64 y) mtClient_s h2 (congrArg Prod.snd q3).symm (congrArg (fun r : Int × RS => D.int .i64 r.1) q3).symm ⟨⟨rfl, rfl⟩, trivial⟩ (Cos.refl _) rfl ?_
    | refine okRd 0 (b3, e3) (b4, e4) (.int .i64 u) (mtNum_s 0) h3 (congrArg Prod.snd q4).symm (congrArg (fun r : Int × RS => D.int .i64 r.1) q4).symm ⟨⟨rfl, rfl⟩, trivial⟩ (Cos.refl _) rfl ?_
    | refine okRd 0 (b4, e4) (b5, e5) (.agg (cResult rs)) oTakeResult_s h4 (congrArg Prod.snd q5).symm (congrArg (fun r : ResultD × RS => D.agg (cResult r.1)) q5).symm ⟨⟨rfl, rfl⟩, trivial⟩ (Cos.refl _) rfl ?_
    | refine okRd 0 (b5, e5) (b6, e6) (.agg (cSign g)) mtSign_s h5 (congrArg Prod.snd q6).symm (congrArg (fun r : SignD × RS => D.agg (cSign r.1)) q6).symm ⟨⟨rfl, rfl⟩, trivial⟩ (Cos.refl _) rfl ?_
    | refine okFn qs rfl (Cos.refl _) ?_
    | refine endRd (d := .agg (cMsg ({ zMsg with kind := 5, src := r, view := v, client := y, time := u, result := rs, sign := g }))) (.inr rfl) rfl ⟨⟨rfl, rfl⟩, trivial⟩ rfl (Cos.mkAgg (by repeat' first | exact Cos.nil | refine Cos.cons (.refl _) ?_ | refine Cos.cons (.nil _) ?_)) (congrArg Prod.snd eR).symm (congrArg (fun r : MsgD × RS => D.agg (cMsg r.1)) eR).symm
    | fail
set_option maxHeartbeats 2000000 in
theorem mtMsg6_s [Wd] (b : List UInt8) (e : Int) (hs : b.length ≤ 8388609) {b0 : List UInt8} {e0 : Int} (q0 : nR MX (b, e) = (6, (b0, e0))) (h0 : b0.length ≤ 8388609) : FnS Tryz.prog 239 [.agg [.ptr 0 0]] (oRd (b, e)) (fun r h => r = .agg (cMsg (msgR (b, e)).1) ∧ h = oRd (msgR (b, e)).2) := by
  obtain ⟨r, b1, e1, q1, l1⟩ := Rd1.get (nR_rd 12) (b0, e0)
  replace l1 : b1.length ≤ b0.length := l1
  have h1 : b1.length ≤ 8388609 := by omega
  obtain ⟨n, b2, e2, q2, l2⟩ := Rd1.get (mNumR_rd 1) (b1, e1)
  replace l2 : b2.length ≤ b1.length := l2
  have h2 : b2.length ≤ 8388609 := by omega
  obtain ⟨d, b3, e3, q3, l3⟩ := Rd1.get (mNumR_rd 1) (b2, e2)
  replace l3 : b3.length ≤ b2.length := l3
  have h3 : b3.length ≤ 8388609 := by omega
  have eB : mBodyR 6 (b0, e0) = ({ zMsg with kind := 6, src := r, seq := n, digest := d }, (b3, e3)) := by
    show mapR (fun z => { zMsg with kind := 6, src := z.1, seq := z.2.1, digest := z.2.2 }) (pairR (nR 12) (pairR (mNumR 1) (mNumR 1))) (b0, e0) = _
    unfold mapR pairR bindR
    simp only [q1, q2, q3]
  obtain ⟨g, b4, e4, q4, l4⟩ := Rd1.get signR_rd (b3, e3)
  replace l4 : b4.length ≤ b3.length := l4
  have h4 : b4.length ≤ 8388609 := by omega
  have eS : ownSR 6 (b3, e3) = (g, (b4, e4)) := q4
  have eR : msgR (b, e) = ({ zMsg with kind := 6, src := r, seq := n, digest := d, sign := g }, (b4, e4)) := by
    unfold msgR mapR bindR pairR bindR
    simp only [q0, eB, eS]
  have qs : FnP Tryz.prog 228 [.int .i64 6] (.bool true) := signed_s 6
  refine mkS 140 [] Tryz.func239 rfl (by kernel_rfl) ?_
  repeat'
    (conv => arg 2; whnf)
    first
    | refine okAsk (by kernel_rfl) ?_
    | refine okBoth ?_ ?_
    | refine okBrT ?_
    | refine okBrF ?_
    | refine okBr1 (by decide) ?_
    | refine okBr0 (by decide) ?_
    | refine okWrap (w64 (by decide) (by decide)) ?_
    | refine okRd 0 (b, e) (b0, e0) (.int .u64 6) (rdNum_s MX) hs (congrArg Prod.snd q0).symm (congrArg (fun r : Int × RS => D.int .u64 r.1) q0).symm ⟨⟨rfl, rfl⟩, trivial⟩ (Cos.refl _) rfl ?_
    | refine okRd 0 (b0, e0) (b1, e1) (.int .i64 r) mtBroker_s h0 (congrArg Prod.snd q1).symm (congrArg (fun r : Int × RS => D.int .i64 r.1) q1).symm ⟨⟨rfl, rfl⟩, trivial⟩ (Cos.refl _) rfl ?_
    | refine okRd 0 (b1, e1) (b2, e2) (.int .i64 n) (mtNum_s 1) h1 (congrArg Prod.snd q2).symm (congrArg (fun r : Int × RS => D.int .i64 r.1) q2).symm ⟨⟨rfl, rfl⟩, trivial⟩ (Cos.refl _) rfl ?_
    | refine okRd 0 (b2, e2) (b3, e3) (.int .i64 d) (mtDigest_s 1) h2 (congrArg Prod.snd q3).symm (congrArg (fun r : Int × RS => D.int .i64 r.1) q3).symm ⟨⟨rfl, rfl⟩, trivial⟩ (Cos.refl _) rfl ?_
    | refine okRd 0 (b3, e3) (b4, e4) (.agg (cSign g)) mtSign_s h3 (congrArg Prod.snd q4).symm (congrArg (fun r : SignD × RS => D.agg (cSign r.1)) q4).symm ⟨⟨rfl, rfl⟩, trivial⟩ (Cos.refl _) rfl ?_
    | refine okFn qs rfl (Cos.refl _) ?_
    | refine endRd (d := .agg (cMsg ({ zMsg with kind := 6, src := r, seq := n, digest := d, sign := g }))) (.inr rfl) rfl ⟨⟨rfl, rfl⟩, trivial⟩ rfl (Cos.mkAgg (by repeat' first | exact Cos.nil | refine Cos.cons (.refl _) ?_ | refine Cos.cons (.nil _) ?_)) (congrArg Prod.snd eR).symm (congrArg (fun r : MsgD × RS => D.agg (cMsg r.1)) eR).symm
    | fail
set_option maxHeartbeats 2000000 in
theorem mtMsg7_s [Wd] (b : List UInt8) (e : Int) (hs : b.length ≤ 8388609) {b0 : List UInt8} {e0 : Int} (q0 : nR MX (b, e) = (7, (b0, e0))) (h0 : b0.length ≤ 8388609) : FnS Tryz.prog 239 [.agg [.ptr 0 0]] (oRd (b, e)) (fun r h => r = .agg (cMsg (msgR (b, e)).1) ∧ h = oRd (msgR (b, e)).2) := by
  obtain ⟨c, b1, e1, q1, l1⟩ := Rd1.get chgR_rd (b0, e0)
  replace l1 : b1.length ≤ b0.length := l1
  have h1 : b1.length ≤ 8388609 := by omega
  have eB : mBodyR 7 (b0, e0) = ({ zMsg with kind := 7, src := c.src, view := c.view, changes := [c] }, (b1, e1)) := by
    show mapR (fun c => { zMsg with kind := 7, src := c.src, view := c.view, changes := [c] }) chgR (b0, e0) = _
    unfold mapR
    simp only [q1]
  have eS : ownSR 7 (b1, e1) = (zSign, (b1, e1)) := rfl
  have eR : msgR (b, e) = ({ zMsg with kind := 7, src := c.src, view := c.view, changes := [c], sign := zSign }, (b1, e1)) := by
    unfold msgR mapR bindR pairR bindR
    simp only [q0, eB, eS]
  have qs : FnP Tryz.prog 228 [.int .i64 7] (.bool false) := signed_s 7
  refine mkT 140 [(25, ⟨(.one 0 false (.one 1 false (.one 2 false (.one 3 false (.one 4 false (.one 6 false (.alt 5 (.one 7 true (.one 8 false (.one 9 true (.one 10 false (.one 11 true .done))))) (.one 7 true (.one 8 false (.alt 5 (.one 9 true (.one 10 false (.one 11 true .done))) (.one 9 true (.one 5 true (.one 10 false (.one 11 true .done)))))))))))))), [4]⟩)] Tryz.func239 rfl (by kernel_rfl) ?_
  repeat'
    (conv => arg 2; whnf)
    first
    | refine okAsk (by kernel_rfl) ?_
    | refine okBoth ?_ ?_
    | refine okBrT ?_
    | refine okBrF ?_
    | refine okBr1 (by decide) ?_
    | refine okBr0 (by decide) ?_
    | refine okWrap (w64 (by decide) (by decide)) ?_
    | refine okRd 0 (b, e) (b0, e0) (.int .u64 7) (rdNum_s MX) hs (congrArg Prod.snd q0).symm (congrArg (fun r : Int × RS => D.int .u64 r.1) q0).symm ⟨⟨rfl, rfl⟩, trivial⟩ (Cos.refl _) rfl ?_
    | refine okRd 0 (b0, e0) (b1, e1) (.agg (cChange c)) mtChange_s h0 (congrArg Prod.snd q1).symm (congrArg (fun r : ChangeD × RS => D.agg (cChange r.1)) q1).symm ⟨⟨rfl, rfl⟩, trivial⟩ (Cos.refl _) rfl ?_
    | refine okFn qs rfl (Cos.refl _) ?_
    | refine endRd (d := .agg (cMsg ({ zMsg with kind := 7, src := c.src, view := c.view, changes := [c], sign := zSign }))) (.inr rfl) rfl ⟨⟨rfl, rfl⟩, trivial⟩ rfl (Cos.mkAgg (by repeat' first | exact Cos.nil | refine Cos.cons (.refl _) ?_ | refine Cos.cons (.nil _) ?_)) (congrArg Prod.snd eR).symm (congrArg (fun r : MsgD × RS => D.agg (cMsg r.1)) eR).symm
    | fail
set_option maxHeartbeats 2000000 in
theorem mtMsg8_s [Wd] (b : List UInt8) (e : Int) (hs : b.length ≤ 8388609) {b0 : List UInt8} {e0 : Int} (q0 : nR MX (b, e) = (8, (b0, e0))) (h0 : b0.length ≤ 8388609) : FnS Tryz.prog 239 [.agg [.ptr 0 0]] (oRd (b, e)) (fun r h => r = .agg (cMsg (msgR (b, e)).1) ∧ h = oRd (msgR (b, e)).2) := by
  obtain ⟨r, b1, e1, q1, l1⟩ := Rd1.get (nR_rd 12) (b0, e0)
  replace l1 : b1.length ≤ b0.length := l1
  have h1 : b1.length ≤ 8388609 := by omega
  obtain ⟨v, b2, e2, q2, l2⟩ := Rd1.get (mNumR_rd 1) (b1, e1)
  replace l2 : b2.length ≤ b1.length := l2
  have h2 : b2.length ≤ 8388609 := by omega
  obtain ⟨ch, b3, e3, q3, l3⟩ := Rd1.get (listR_rd chgR_rd 13) (b2, e2)
  replace l3 : b3.length ≤ b2.length := l3
  have h3 : b3.length ≤ 8388609 := by omega
  obtain ⟨en, b4, e4, q4, l4⟩ := Rd1.get (listR_rd entryR_rd 8) (b3, e3)
  replace l4 : b4.length ≤ b3.length := l4
  have h4 : b4.length ≤ 8388609 := by omega
  have eB : mBodyR 8 (b0, e0) = ({ zMsg with kind := 8, src := r, view := v, changes := ch, entries := en }, (b4, e4)) := by
    show mapR (fun z => { zMsg with kind := 8, src := z.1, view := z.2.1, changes := z.2.2.1, entries := z.2.2.2 }) (pairR (nR 12) (pairR (mNumR 1) (pairR (listR chgR 13) (listR entryR 8)))) (b0, e0) = _
    unfold mapR pairR bindR
    simp only [q1, q2, q3, q4]
  obtain ⟨g, b5, e5, q5, l5⟩ := Rd1.get signR_rd (b4, e4)
  replace l5 : b5.length ≤ b4.length := l5
  have h5 : b5.length ≤ 8388609 := by omega
  have eS : ownSR 8 (b4, e4) = (g, (b5, e5)) := q5
  have eR : msgR (b, e) = ({ zMsg with kind := 8, src := r, view := v, changes := ch, entries := en, sign := g }, (b5, e5)) := by
    unfold msgR mapR bindR pairR bindR
    simp only [q0, eB, eS]
  have qs : FnP Tryz.prog 228 [.int .i64 8] (.bool true) := signed_s 8
  refine mkS 140 [] Tryz.func239 rfl (by kernel_rfl) ?_
  repeat'
    (conv => arg 2; whnf)
    first
    | refine okAsk (by kernel_rfl) ?_
    | refine okBoth ?_ ?_
    | refine okBrT ?_
    | refine okBrF ?_
    | refine okBr1 (by decide) ?_
    | refine okBr0 (by decide) ?_
    | refine okWrap (w64 (by decide) (by decide)) ?_
    | refine okRd 0 (b, e) (b0, e0) (.int .u64 8) (rdNum_s MX) hs (congrArg Prod.snd q0).symm (congrArg (fun r : Int × RS => D.int .u64 r.1) q0).symm ⟨⟨rfl, rfl⟩, trivial⟩ (Cos.refl _) rfl ?_
    | refine okRd 0 (b0, e0) (b1, e1) (.int .i64 r) mtBroker_s h0 (congrArg Prod.snd q1).symm (congrArg (fun r : Int × RS => D.int .i64 r.1) q1).symm ⟨⟨rfl, rfl⟩, trivial⟩ (Cos.refl _) rfl ?_
    | refine okRd 0 (b1, e1) (b2, e2) (.int .i64 v) (mtNum_s 1) h1 (congrArg Prod.snd q2).symm (congrArg (fun r : Int × RS => D.int .i64 r.1) q2).symm ⟨⟨rfl, rfl⟩, trivial⟩ (Cos.refl _) rfl ?_
    | refine okRd 0 (b2, e2) (b3, e3) (.list 8 (ch.map cChange)) (mlistChange_s 13 (by decide) (by decide)) h2 (congrArg Prod.snd q3).symm (congrArg (fun r : List ChangeD × RS => D.list 8 (r.1.map cChange)) q3).symm ⟨⟨rfl, rfl⟩, trivial⟩ (Cos.refl _) rfl ?_
    | refine okRd 0 (b3, e3) (b4, e4) (.list 5 (en.map cEntry)) (mlistEntry_s 8 (by decide) (by decide)) h3 (congrArg Prod.snd q4).symm (congrArg (fun r : List EntryD × RS => D.list 5 (r.1.map cEntry)) q4).symm ⟨⟨rfl, rfl⟩, trivial⟩ (Cos.refl _) rfl ?_
    | refine okRd 0 (b4, e4) (b5, e5) (.agg (cSign g)) mtSign_s h4 (congrArg Prod.snd q5).symm (congrArg (fun r : SignD × RS => D.agg (cSign r.1)) q5).symm ⟨⟨rfl, rfl⟩, trivial⟩ (Cos.refl _) rfl ?_
    | refine okFn qs rfl (Cos.refl _) ?_
    | refine endRd (d := .agg (cMsg ({ zMsg with kind := 8, src := r, view := v, changes := ch, entries := en, sign := g }))) (.inr rfl) rfl ⟨⟨rfl, rfl⟩, trivial⟩ rfl (Cos.mkAgg (by repeat' first | exact Cos.nil | refine Cos.cons (.refl _) ?_ | refine Cos.cons (.nil _) ?_)) (congrArg Prod.snd eR).symm (congrArg (fun r : MsgD × RS => D.agg (cMsg r.1)) eR).symm
    | fail
set_option maxHeartbeats 2000000 in
theorem mtMsg9_s [Wd] (b : List UInt8) (e : Int) (hs : b.length ≤ 8388609) {b0 : List UInt8} {e0 : Int} (q0 : nR MX (b, e) = (9, (b0, e0))) (h0 : b0.length ≤ 8388609) : FnS Tryz.prog 239 [.agg [.ptr 0 0]] (oRd (b, e)) (fun r h => r = .agg (cMsg (msgR (b, e)).1) ∧ h = oRd (msgR (b, e)).2) := by
  obtain ⟨r, b1, e1, q1, l1⟩ := Rd1.get (nR_rd 12) (b0, e0)
  replace l1 : b1.length ≤ b0.length := l1
  have h1 : b1.length ≤ 8388609 := by omega
  obtain ⟨n, b2, e2, q2, l2⟩ := Rd1.get (mNumR_rd 0) (b1, e1)
  replace l2 : b2.length ≤ b1.length := l2
  have h2 : b2.length ≤ 8388609 := by omega
  have eB : mBodyR 9 (b0, e0) = ({ zMsg with kind := 9, src := r, seq := n }, (b2, e2)) := by
    show mapR (fun z => { zMsg with kind := 9, src := z.1, seq := z.2 }) (pairR (nR 12) (mNumR 0)) (b0, e0) = _
    unfold mapR pairR bindR
    simp only [q1, q2]
  obtain ⟨g, b3, e3, q3, l3⟩ := Rd1.get signR_rd (b2, e2)
  replace l3 : b3.length ≤ b2.length := l3
  have h3 : b3.length ≤ 8388609 := by omega
  have eS : ownSR 9 (b2, e2) = (g, (b3, e3)) := q3
  have eR : msgR (b, e) = ({ zMsg with kind := 9, src := r, seq := n, sign := g }, (b3, e3)) := by
    unfold msgR mapR bindR pairR bindR
    simp only [q0, eB, eS]
  have qs : FnP Tryz.prog 228 [.int .i64 9] (.bool true) := signed_s 9
  refine mkS 140 [] Tryz.func239 rfl (by kernel_rfl) ?_
  repeat'
    (conv => arg 2; whnf)
    first
    | refine okAsk (by kernel_rfl) ?_
    | refine okBoth ?_ ?_
    | refine okBrT ?_
    | refine okBrF ?_
    | refine okBr1 (by decide) ?_
    | refine okBr0 (by decide) ?_
    | refine okWrap (w64 (by decide) (by decide)) ?_
    | refine okRd 0 (b, e) (b0, e0) (.int .u64 9) (rdNum_s MX) hs (congrArg Prod.snd q0).symm (congrArg (fun r : Int × RS => D.int .u64 r.1) q0).symm ⟨⟨rfl, rfl⟩, trivial⟩ (Cos.refl _) rfl ?_
    | refine okRd 0 (b0, e0) (b1, e1) (.int .i64 r) mtBroker_s h0 (congrArg Prod.snd q1).symm (congrArg (fun r : Int × RS => D.int .i64 r.1) q1).symm ⟨⟨rfl, rfl⟩, trivial⟩ (Cos.refl _) rfl ?_
    | refine okRd 0 (b1, e1) (b2, e2) (.int .i64 n) (mtNum_s 0) h1 (congrArg Prod.snd q2).symm (congrArg (fun r : Int × RS => D.int .i64 r.1) q2).symm ⟨⟨rfl, rfl⟩, trivial⟩ (Cos.refl _) rfl ?_
    | refine okRd 0 (b2, e2) (b3, e3) (.agg (cSign g)) mtSign_s h2 (congrArg Prod.snd q3).symm (congrArg (fun r : SignD × RS => D.agg (cSign r.1)) q3).symm ⟨⟨rfl, rfl⟩, trivial⟩ (Cos.refl _) rfl ?_
    | refine okFn qs rfl (Cos.refl _) ?_
    | refine endRd (d := .agg (cMsg ({ zMsg with kind := 9, src := r, seq := n, sign := g }))) (.inr rfl) rfl ⟨⟨rfl, rfl⟩, trivial⟩ rfl (Cos.mkAgg (by repeat' first | exact Cos.nil | refine Cos.cons (.refl _) ?_ | refine Cos.cons (.nil _) ?_)) (congrArg Prod.snd eR).symm (congrArg (fun r : MsgD × RS => D.agg (cMsg r.1)) eR).symm
    | fail
set_option maxHeartbeats 2000000 in
theorem mtMsg10_s [Wd] (b : List UInt8) (e : Int) (hs : b.length ≤ 8388609) {b0 : List UInt8} {e0 : Int} (q0 : nR MX (b, e) = (10, (b0, e0))) (h0 : b0.length ≤ 8388609) : FnS Tryz.prog 239 [.agg [.ptr 0 0]] (oRd (b, e)) (fun r h => r = .agg (cMsg (msgR (b, e)).1) ∧ h = oRd (msgR (b, e)).2) := by
  obtain ⟨r, b1, e1, q1, l1⟩ := Rd1.get (nR_rd 12) (b0, e0)
  replace l1 : b1.length ≤ b0.length := l1
  have h1 : b1.length ≤ 8388609 := by omega
  obtain ⟨k, b2, e2, q2, l2⟩ := Rd1.get certR_rd (b1, e1)
  replace l2 : b2.length ≤ b1.length := l2
  have h2 : b2.length ≤ 8388609 := by omega
  obtain ⟨c, b3, e3, q3, l3⟩ := Rd1.get (bytesR_rd 262144) (b2, e2)
  replace l3 : b3.length ≤ b2.length := l3
  have h3 : b3.length ≤ 8388609 := by omega
  have eB : mBodyR 10 (b0, e0) = ({ zMsg with kind := 10, src := r, cert := k, state := c }, (b3, e3)) := by
    show mapR (fun z => { zMsg with kind := 10, src := z.1, cert := z.2.1, state := z.2.2 }) (pairR (nR 12) (pairR certR (bytesR 262144))) (b0, e0) = _
    unfold mapR pairR bindR
    simp only [q1, q2, q3]
  have eS : ownSR 10 (b3, e3) = (zSign, (b3, e3)) := rfl
  have eR : msgR (b, e) = ({ zMsg with kind := 10, src := r, cert := k, state := c, sign := zSign }, (b3, e3)) := by
    unfold msgR mapR bindR pairR bindR
    simp only [q0, eB, eS]
  have qs : FnP Tryz.prog 228 [.int .i64 10] (.bool false) := signed_s 10
  refine mkS 140 [] Tryz.func239 rfl (by kernel_rfl) ?_
  repeat'
    (conv => arg 2; whnf)
    first
    | refine okAsk (by kernel_rfl) ?_
    | refine okBoth ?_ ?_
    | refine okBrT ?_
    | refine okBrF ?_
    | refine okBr1 (by decide) ?_
    | refine okBr0 (by decide) ?_
    | refine okWrap (w64 (by decide) (by decide)) ?_
    | refine okRd 0 (b, e) (b0, e0) (.int .u64 10) (rdNum_s MX) hs (congrArg Prod.snd q0).symm (congrArg (fun r : Int × RS => D.int .u64 r.1) q0).symm ⟨⟨rfl, rfl⟩, trivial⟩ (Cos.refl _) rfl ?_
    | refine okRd 0 (b0, e0) (b1, e1) (.int .i64 r) mtBroker_s h0 (congrArg Prod.snd q1).symm (congrArg (fun r : Int × RS => D.int .i64 r.1) q1).symm ⟨⟨rfl, rfl⟩, trivial⟩ (Cos.refl _) rfl ?_
    | refine okRd 0 (b1, e1) (b2, e2) (.agg (cCert k)) mtCert_s h1 (congrArg Prod.snd q2).symm (congrArg (fun r : CertD × RS => D.agg (cCert r.1)) q2).symm ⟨⟨rfl, rfl⟩, trivial⟩ (Cos.refl _) rfl ?_
    | refine okRd 0 (b2, e2) (b3, e3) (.list 1 (c.map cByte)) (rdBytes_s 262144 (by decide)) h2 (congrArg Prod.snd q3).symm (congrArg (fun r : List UInt8 × RS => D.list 1 (r.1.map cByte)) q3).symm ⟨⟨rfl, rfl⟩, trivial⟩ (Cos.refl _) rfl ?_
    | refine okFn qs rfl (Cos.refl _) ?_
    | refine endRd (d := .agg (cMsg ({ zMsg with kind := 10, src := r, cert := k, state := c, sign := zSign }))) (.inr rfl) rfl ⟨⟨rfl, rfl⟩, trivial⟩ rfl (Cos.mkAgg (by repeat' first | exact Cos.nil | refine Cos.cons (.refl _) ?_ | refine Cos.cons (.nil _) ?_)) (congrArg Prod.snd eR).symm (congrArg (fun r : MsgD × RS => D.agg (cMsg r.1)) eR).symm
    | fail
set_option maxHeartbeats 2000000 in
theorem mtMsg11_s [Wd] (b : List UInt8) (e : Int) (hs : b.length ≤ 8388609) {b0 : List UInt8} {e0 : Int} (q0 : nR MX (b, e) = (11, (b0, e0))) (h0 : b0.length ≤ 8388609) : FnS Tryz.prog 239 [.agg [.ptr 0 0]] (oRd (b, e)) (fun r h => r = .agg (cMsg (msgR (b, e)).1) ∧ h = oRd (msgR (b, e)).2) := by
  obtain ⟨y, b1, e1, q1, l1⟩ := Rd1.get (nR_rd 7) (b0, e0)
  replace l1 : b1.length ≤ b0.length := l1
  have h1 : b1.length ≤ 8388609 := by omega
  obtain ⟨t, b2, e2, q2, l2⟩ := Rd1.get nameR_rd (b1, e1)
  replace l2 : b2.length ≤ b1.length := l2
  have h2 : b2.length ≤ 8388609 := by omega
  obtain ⟨f, b3, e3, q3, l3⟩ := Rd1.get (mNumR_rd 0) (b2, e2)
  replace l3 : b3.length ≤ b2.length := l3
  have h3 : b3.length ≤ 8388609 := by omega
  have eB : mBodyR 11 (b0, e0) = ({ zMsg with kind := 11, client := y, topic := t, offset := f }, (b3, e3)) := by
    show mapR (fun z => { zMsg with kind := 11, client := z.1, topic := z.2.1, offset := z.2.2 }) (pairR (nR 7) (pairR nameR (mNumR 0))) (b0, e0) = _
    unfold mapR pairR bindR
    simp only [q1, q2, q3]
  have eS : ownSR 11 (b3, e3) = (zSign, (b3, e3)) := rfl
  have eR : msgR (b, e) = ({ zMsg with kind := 11, client := y, topic := t, offset := f, sign := zSign }, (b3, e3)) := by
    unfold msgR mapR bindR pairR bindR
    simp only [q0, eB, eS]
  have qs : FnP Tryz.prog 228 [.int .i64 11] (.bool false) := signed_s 11
  refine mkS 140 [] Tryz.func239 rfl (by kernel_rfl) ?_
  repeat'
    (conv => arg 2; whnf)
    first
    | refine okAsk (by kernel_rfl) ?_
    | refine okBoth ?_ ?_
    | refine okBrT ?_
    | refine okBrF ?_
    | refine okBr1 (by decide) ?_
    | refine okBr0 (by decide) ?_
    | refine okWrap (w64 (by decide) (by decide)) ?_
    | refine okRd 0 (b, e) (b0, e0) (.int .u64 11) (rdNum_s MX) hs (congrArg Prod.snd q0).symm (congrArg (fun r : Int × RS => D.int .u64 r.1) q0).symm ⟨⟨rfl, rfl⟩, trivial⟩ (Cos.refl _) rfl ?_
    | refine okRd 0 (b0, e0) (b1, e1) (.int .i64 y) mtClient_s h0 (congrArg Prod.snd q1).symm (congrArg (fun r : Int × RS => D.int .i64 r.1) q1).symm ⟨⟨rfl, rfl⟩, trivial⟩ (Cos.refl _) rfl ?_
    | refine okRd 0 (b1, e1) (b2, e2) (.str t) mtName_s h1 (congrArg Prod.snd q2).symm (congrArg (fun r : List UInt8 × RS => D.str r.1) q2).symm ⟨⟨rfl, rfl⟩, trivial⟩ (Cos.refl _) rfl ?_
    | refine okRd 0 (b2, e2) (b3, e3) (.int .i64 f) (mtNum_s 0) h2 (congrArg Prod.snd q3).symm (congrArg (fun r : Int × RS => D.int .i64 r.1) q3).symm ⟨⟨rfl, rfl⟩, trivial⟩ (Cos.refl _) rfl ?_
    | refine okFn qs rfl (Cos.refl _) ?_
    | refine endRd (d := .agg (cMsg ({ zMsg with kind := 11, client := y, topic := t, offset := f, sign := zSign }))) (.inr rfl) rfl ⟨⟨rfl, rfl⟩, trivial⟩ rfl (Cos.mkAgg (by repeat' first | exact Cos.nil | refine Cos.cons (.refl _) ?_ | refine Cos.cons (.nil _) ?_)) (congrArg Prod.snd eR).symm (congrArg (fun r : MsgD × RS => D.agg (cMsg r.1)) eR).symm
    | fail
set_option maxHeartbeats 2000000 in
theorem mtMsg12_s [Wd] (b : List UInt8) (e : Int) (hs : b.length ≤ 8388609) {b0 : List UInt8} {e0 : Int} (q0 : nR MX (b, e) = (12, (b0, e0))) (h0 : b0.length ≤ 8388609) : FnS Tryz.prog 239 [.agg [.ptr 0 0]] (oRd (b, e)) (fun r h => r = .agg (cMsg (msgR (b, e)).1) ∧ h = oRd (msgR (b, e)).2) := by
  obtain ⟨r, b1, e1, q1, l1⟩ := Rd1.get (nR_rd 12) (b0, e0)
  replace l1 : b1.length ≤ b0.length := l1
  have h1 : b1.length ≤ 8388609 := by omega
  obtain ⟨p, b2, e2, q2, l2⟩ := Rd1.get proofR_rd (b1, e1)
  replace l2 : b2.length ≤ b1.length := l2
  have h2 : b2.length ≤ 8388609 := by omega
  have eB : mBodyR 12 (b0, e0) = ({ zMsg with kind := 12, src := r, proof := p }, (b2, e2)) := by
    show mapR (fun z => { zMsg with kind := 12, src := z.1, proof := z.2 }) (pairR (nR 12) proofR) (b0, e0) = _
    unfold mapR pairR bindR
    simp only [q1, q2]
  have eS : ownSR 12 (b2, e2) = (zSign, (b2, e2)) := rfl
  have eR : msgR (b, e) = ({ zMsg with kind := 12, src := r, proof := p, sign := zSign }, (b2, e2)) := by
    unfold msgR mapR bindR pairR bindR
    simp only [q0, eB, eS]
  have qs : FnP Tryz.prog 228 [.int .i64 12] (.bool false) := signed_s 12
  refine mkS 140 [] Tryz.func239 rfl (by kernel_rfl) ?_
  repeat'
    (conv => arg 2; whnf)
    first
    | refine okAsk (by kernel_rfl) ?_
    | refine okBoth ?_ ?_
    | refine okBrT ?_
    | refine okBrF ?_
    | refine okBr1 (by decide) ?_
    | refine okBr0 (by decide) ?_
    | refine okWrap (w64 (by decide) (by decide)) ?_
    | refine okRd 0 (b, e) (b0, e0) (.int .u64 12) (rdNum_s MX) hs (congrArg Prod.snd q0).symm (congrArg (fun r : Int × RS => D.int .u64 r.1) q0).symm ⟨⟨rfl, rfl⟩, trivial⟩ (Cos.refl _) rfl ?_
    | refine okRd 0 (b0, e0) (b1, e1) (.int .i64 r) mtBroker_s h0 (congrArg Prod.snd q1).symm (congrArg (fun r : Int × RS => D.int .i64 r.1) q1).symm ⟨⟨rfl, rfl⟩, trivial⟩ (Cos.refl _) rfl ?_
    | refine okRd 0 (b1, e1) (b2, e2) (.agg (cProof p)) mtProof_s h1 (congrArg Prod.snd q2).symm (congrArg (fun r : ProofD × RS => D.agg (cProof r.1)) q2).symm ⟨⟨rfl, rfl⟩, trivial⟩ (Cos.refl _) rfl ?_
    | refine okFn qs rfl (Cos.refl _) ?_
    | refine endRd (d := .agg (cMsg ({ zMsg with kind := 12, src := r, proof := p, sign := zSign }))) (.inr rfl) rfl ⟨⟨rfl, rfl⟩, trivial⟩ rfl (Cos.mkAgg (by repeat' first | exact Cos.nil | refine Cos.cons (.refl _) ?_ | refine Cos.cons (.nil _) ?_)) (congrArg Prod.snd eR).symm (congrArg (fun r : MsgD × RS => D.agg (cMsg r.1)) eR).symm
    | fail
end Go.Proofs.YteaggenihhaajaaGreat

/- Whole messages and changes, read by packages message and state, over data (printed by gen_wr.py). -/
namespace Go.Proofs.YteaggenihhaajaaGreat
open Go.RowKit
set_option linter.unusedVariables false
set_option maxRecDepth 20000

set_option maxHeartbeats 2000000 in
theorem mtMsgX_s [Wd] (k : Int) (hk : ¬ (1 ≤ k ∧ k ≤ 12)) (b : List UInt8) (e : Int) (hs : b.length ≤ 8388609) {b0 : List UInt8} {e0 : Int} (q0 : nR MX (b, e) = (k, (b0, e0))) (h0 : b0.length ≤ 8388609) : FnS Tryz.prog 239 [.agg [.ptr 0 0]] (oRd (b, e)) (fun r h => r = .agg (cMsg (msgR (b, e)).1) ∧ h = oRd (msgR (b, e)).2) := by
  have hr := nR_in q0
  rw [MX_int] at hr
  obtain ⟨ef, hef⟩ : ∃ ef : Int, failR 100 (b0, e0) = (b0, ef) := ⟨(failR 100 (b0, e0)).2, Prod.ext (failR_len _ _) rfl⟩
  have eB : mBodyR k (b0, e0) = ({ zMsg with kind := k }, (b0, ef)) := by
    unfold mBodyR
    rw [if_neg (by omega), if_neg (by omega), if_neg (by omega), if_neg (by omega), if_neg (by omega), if_neg (by omega), if_neg (by omega), if_neg (by omega), if_neg (by omega), if_neg (by omega), if_neg (by omega), if_neg (by omega)]
    unfold guardR pureR
    simp only [hef]
  have hsk : signedK k = false := by
    unfold signedK
    simp only [Bool.or_eq_false_iff, decide_eq_false_iff_not]
    omega
  have eS : ownSR k (b0, ef) = (zSign, (b0, ef)) := by
    unfold ownSR
    rw [hsk]
    rfl
  have eR : msgR (b, e) = ({ zMsg with kind := k, sign := zSign }, (b0, ef)) := by
    unfold msgR mapR bindR pairR bindR
    simp only [q0, eB, eS]
  have qs : FnP Tryz.prog 228 [.int .i64 k] (.bool false) := by
    have := signed_s k
    rwa [hsk] at this
  have hw : IntKind.i64.wrap k = k := w64 (by omega) (by omega)
  have n1 : (k == 1) = false := by simp; omega
  have n2 : (k == 2) = false := by simp; omega
  have n3 : (k == 3) = false := by simp; omega
  have n4 : (k == 4) = false := by simp; omega
  have n5 : (k == 5) = false := by simp; omega
  have n6 : (k == 6) = false := by simp; omega
  have n7 : (k == 7) = false := by simp; omega
  have n8 : (k == 8) = false := by simp; omega
  have n9 : (k == 9) = false := by simp; omega
  have n10 : (k == 10) = false := by simp; omega
  have n11 : (k == 11) = false := by simp; omega
  have n12 : (k == 12) = false := by simp; omega
  refine mkS 140 [] Tryz.func239 rfl (by kernel_rfl) ?_
  repeat'
    (conv => arg 2; whnf)
    first
    | refine okAsk (by kernel_rfl) ?_
    | refine okBoth ?_ ?_
    | refine okBrT ?_
    | refine okBrF ?_
    | refine okBr0 n1 ?_
    | refine okBr0 (by rw [hw]; exact n1) ?_
    | refine okBr0 n2 ?_
    | refine okBr0 (by rw [hw]; exact n2) ?_
    | refine okBr0 n3 ?_
    | refine okBr0 (by rw [hw]; exact n3) ?_
    | refine okBr0 n4 ?_
    | refine okBr0 (by rw [hw]; exact n4) ?_
    | refine okBr0 n5 ?_
    | refine okBr0 (by rw [hw]; exact n5) ?_
    | refine okBr0 n6 ?_
    | refine okBr0 (by rw [hw]; exact n6) ?_
    | refine okBr0 n7 ?_
    | refine okBr0 (by rw [hw]; exact n7) ?_
    | refine okBr0 n8 ?_
    | refine okBr0 (by rw [hw]; exact n8) ?_
    | refine okBr0 n9 ?_
    | refine okBr0 (by rw [hw]; exact n9) ?_
    | refine okBr0 n10 ?_
    | refine okBr0 (by rw [hw]; exact n10) ?_
    | refine okBr0 n11 ?_
    | refine okBr0 (by rw [hw]; exact n11) ?_
    | refine okBr0 n12 ?_
    | refine okBr0 (by rw [hw]; exact n12) ?_
    | refine okWrap hw ?_
    | refine okRd 0 (b, e) (b0, e0) (.int .u64 k) (rdNum_s MX) hs (congrArg Prod.snd q0).symm (congrArg (fun r : Int × RS => D.int .u64 r.1) q0).symm ⟨⟨rfl, rfl⟩, trivial⟩ (Cos.refl _) rfl ?_
    | refine okRd 0 (b0, e0) (b0, ef) (.tup []) (rdFail_s 100) h0 hef.symm rfl ⟨⟨rfl, rfl⟩, trivial⟩ (Cos.refl _) rfl ?_
    | refine okFn qs rfl (Cos.refl _) ?_
    | refine okFn qs rfl (cosE (by rw [hw])) ?_
    | refine endRd (d := .agg (cMsg { zMsg with kind := k, sign := zSign })) (.inr rfl) rfl ⟨⟨rfl, rfl⟩, trivial⟩ rfl (Cos.mkAgg (by refine Cos.cons (Co.of_eq (show D.int .i64 (IntKind.i64.wrap k) = D.int .i64 k by rw [hw])) ?_; repeat' first | exact Cos.nil | refine Cos.cons (.refl _) ?_ | refine Cos.cons (.nil _) ?_)) (congrArg Prod.snd eR).symm (congrArg (fun r : MsgD × RS => D.agg (cMsg r.1)) eR).symm
    | fail
theorem mtMessage_s [Wd] : FnR 239 (.agg [.ptr 0 0]) [] (fun s => .agg (cMsg (msgR s).1)) (fun s => (msgR s).2) := by
  rintro ⟨b, e⟩ hs
  replace hs : b.length ≤ 8388609 := hs
  obtain ⟨k, b0, e0, q, l⟩ := Rd1.get (nR_rd MX) (b, e)
  replace l : b0.length ≤ b.length := l
  have h0 : b0.length ≤ 8388609 := by omega
  by_cases hk : 1 ≤ k ∧ k ≤ 12
  · have : k = 1 ∨ k = 2 ∨ k = 3 ∨ k = 4 ∨ k = 5 ∨ k = 6 ∨ k = 7 ∨ k = 8 ∨ k = 9 ∨ k = 10 ∨ k = 11 ∨ k = 12 := by omega
    rcases this with rfl | rfl | rfl | rfl | rfl | rfl | rfl | rfl | rfl | rfl | rfl | rfl
    · exact mtMsg1_s b e hs q h0
    · exact mtMsg2_s b e hs q h0
    · exact mtMsg3_s b e hs q h0
    · exact mtMsg4_s b e hs q h0
    · exact mtMsg5_s b e hs q h0
    · exact mtMsg6_s b e hs q h0
    · exact mtMsg7_s b e hs q h0
    · exact mtMsg8_s b e hs q h0
    · exact mtMsg9_s b e hs q h0
    · exact mtMsg10_s b e hs q h0
    · exact mtMsg11_s b e hs q h0
    · exact mtMsg12_s b e hs q h0
  · exact mtMsgX_s k hk b e hs q h0
theorem mparseChange_s [Wd] (bs : List UInt8) (hl : bs.length ≤ 4194304) : FnP Tryz.prog 236 [.list 1 (bs.map cByte), .fn 237 0 []] (.tup [.agg (cChange (parseR chgR zChg bs).1), .int .i64 (parseR chgR zChg bs).2]) := by
  obtain ⟨x, b, e, ec, hb⟩ := Rd1.get chgR_rd (bs, 0)
  replace hb : b.length ≤ bs.length := hb
  obtain ⟨d, hd⟩ : ∃ d, d = doneR (b, e) := ⟨_, rfl⟩
  have gL : 262144 < bs.length → parseR chgR zChg bs = (zChg, 3) := parse_big
  have gN : ¬ 262144 < bs.length → ¬ d = 0 → parseR chgR zChg bs = (zChg, d) := fun h k => by rw [hd] at k ⊢; exact parse_bad h ec k
  have gY : ¬ 262144 < bs.length → d = 0 → parseR chgR zChg bs = (x, 0) := fun h k => by rw [hd] at k; exact parse_ok h ec k
  have hlen : ((bs.map cByte).length : Int) = bs.length := by rw [List.length_map]
  by_cases hbig : 262144 < bs.length
  · have hz : decide (((bs.map cByte).length : Int) > 262144) = true := by rw [hlen]; simp; omega
    rw [gL hbig]
    refine mkS 28 [] Tryz.func236 rfl (by kernel_rfl) ?_
    repeat'
      (conv => arg 2; whnf)
      first
      | refine okAsk (by kernel_rfl) ?_
      | refine okBoth ?_ ?_
      | refine okBrT ?_
      | refine okBrF ?_
      | refine okBr1 hz ?_
      | refine endFn0 (.inr rfl) rfl (Cos.mkTup (Cos.cons (Cos.mkAgg (by repeat' first | exact Cos.nil | refine Cos.cons (.refl _) ?_ | refine Cos.cons (.nil _) ?_)) (Cos.cons (.refl _) .nil))) rfl
      | fail
  · have hz : decide (((bs.map cByte).length : Int) > 262144) = false := by rw [hlen]; simp; omega
    refine mkS 28 [] Tryz.func236 rfl (by kernel_rfl) ?_
    repeat'
      (conv => arg 2; whnf)
      first
      | refine okAsk (by kernel_rfl) ?_
      | refine okBoth ?_ ?_
      | refine okBrT ?_
      | refine okBrF ?_
      | refine okBr0 hz ?_
      | refine okBrNZ (fun h => ?_) (fun h => ?_)
      | refine okCall [] (rdRead_s bs (by omega)) (.mk' rfl trivial) (Cos.refl _) rfl ?_
      | refine okRd 2 (bs, 0) (b, e) (.agg (cChange x)) mtChange_s (by show bs.length ≤ _; omega) (congrArg Prod.snd ec).symm (congrArg (fun r : ChangeD × RS => D.agg (cChange r.1)) ec).symm ⟨⟨rfl, rfl⟩, trivial⟩ (Cos.refl _) rfl ?_
      | refine okRd 2 (b, e) (b, e) (.int .i64 d) rdDone_s (by show b.length ≤ _; omega) rfl (by rw [hd]) ⟨⟨rfl, rfl⟩, trivial⟩ (Cos.refl _) rfl ?_
      | (rw [gY hbig h]; refine endFn0 (.inr rfl) rfl (.refl _) rfl)
      | (rw [gN hbig h]; refine endFn0 (.inr rfl) rfl (Cos.mkTup (Cos.cons (Cos.mkAgg (by repeat' first | exact Cos.nil | refine Cos.cons (.refl _) ?_ | refine Cos.cons (.nil _) ?_)) (Cos.cons (.refl _) .nil))) rfl)
      | fail
theorem mParseChange_s [Wd] (bs : List UInt8) (hl : bs.length ≤ 4194304) : FnP Tryz.prog 180 [.list 1 (bs.map cByte)] (.tup [.agg (cChange (parseR chgR zChg bs).1), .int .i64 (parseR chgR zChg bs).2]) := by
  refine mkS 8 [] Tryz.func180 rfl (by kernel_rfl) ?_
  repeat'
    (conv => arg 2; whnf)
    first
    | refine okAsk (by kernel_rfl) ?_
    | refine okBoth ?_ ?_
    | refine okBrT ?_
    | refine okBrF ?_
    | refine okFn (mparseChange_s bs hl) rfl (Cos.refl _) ?_
    | refine endFn0 (.inr rfl) rfl (.refl _) rfl
theorem mparseMsg_s [Wd] (bs : List UInt8) (hl : bs.length ≤ 4194304) : FnP Tryz.prog 238 [.list 1 (bs.map cByte), .fn 239 0 []] (.tup [.agg (cMsg (parseR msgR zMsg bs).1), .int .i64 (parseR msgR zMsg bs).2]) := by
  obtain ⟨x, b, e, ec, hb⟩ := Rd1.get msgR_rd (bs, 0)
  replace hb : b.length ≤ bs.length := hb
  obtain ⟨d, hd⟩ : ∃ d, d = doneR (b, e) := ⟨_, rfl⟩
  have gL : 262144 < bs.length → parseR msgR zMsg bs = (zMsg, 3) := parse_big
  have gN : ¬ 262144 < bs.length → ¬ d = 0 → parseR msgR zMsg bs = (zMsg, d) := fun h k => by rw [hd] at k ⊢; exact parse_bad h ec k
  have gY : ¬ 262144 < bs.length → d = 0 → parseR msgR zMsg bs = (x, 0) := fun h k => by rw [hd] at k; exact parse_ok h ec k
  have hlen : ((bs.map cByte).length : Int) = bs.length := by rw [List.length_map]
  by_cases hbig : 262144 < bs.length
  · have hz : decide (((bs.map cByte).length : Int) > 262144) = true := by rw [hlen]; simp; omega
    rw [gL hbig]
    refine mkS 28 [] Tryz.func238 rfl (by kernel_rfl) ?_
    repeat'
      (conv => arg 2; whnf)
      first
      | refine okAsk (by kernel_rfl) ?_
      | refine okBoth ?_ ?_
      | refine okBrT ?_
      | refine okBrF ?_
      | refine okBr1 hz ?_
      | refine endFn0 (.inr rfl) rfl (Cos.mkTup (Cos.cons (Cos.mkAgg (by repeat' first | exact Cos.nil | refine Cos.cons (.refl _) ?_ | refine Cos.cons (.nil _) ?_)) (Cos.cons (.refl _) .nil))) rfl
      | fail
  · have hz : decide (((bs.map cByte).length : Int) > 262144) = false := by rw [hlen]; simp; omega
    refine mkS 28 [] Tryz.func238 rfl (by kernel_rfl) ?_
    repeat'
      (conv => arg 2; whnf)
      first
      | refine okAsk (by kernel_rfl) ?_
      | refine okBoth ?_ ?_
      | refine okBrT ?_
      | refine okBrF ?_
      | refine okBr0 hz ?_
      | refine okBrNZ (fun h => ?_) (fun h => ?_)
      | refine okCall [] (rdRead_s bs (by omega)) (.mk' rfl trivial) (Cos.refl _) rfl ?_
      | refine okRd 2 (bs, 0) (b, e) (.agg (cMsg x)) mtMessage_s (by show bs.length ≤ _; omega) (congrArg Prod.snd ec).symm (congrArg (fun r : MsgD × RS => D.agg (cMsg r.1)) ec).symm ⟨⟨rfl, rfl⟩, trivial⟩ (Cos.refl _) rfl ?_
      | refine okRd 2 (b, e) (b, e) (.int .i64 d) rdDone_s (by show b.length ≤ _; omega) rfl (by rw [hd]) ⟨⟨rfl, rfl⟩, trivial⟩ (Cos.refl _) rfl ?_
      | (rw [gY hbig h]; refine endFn0 (.inr rfl) rfl (.refl _) rfl)
      | (rw [gN hbig h]; refine endFn0 (.inr rfl) rfl (Cos.mkTup (Cos.cons (Cos.mkAgg (by repeat' first | exact Cos.nil | refine Cos.cons (.refl _) ?_ | refine Cos.cons (.nil _) ?_)) (Cos.cons (.refl _) .nil))) rfl)
      | fail
theorem mParse_s [Wd] (bs : List UInt8) (hl : bs.length ≤ 4194304) : FnP Tryz.prog 183 [.list 1 (bs.map cByte)] (.tup [.agg (cMsg (parseR msgR zMsg bs).1), .int .i64 (parseR msgR zMsg bs).2]) := by
  refine mkS 8 [] Tryz.func183 rfl (by kernel_rfl) ?_
  repeat'
    (conv => arg 2; whnf)
    first
    | refine okAsk (by kernel_rfl) ?_
    | refine okBoth ?_ ?_
    | refine okBrT ?_
    | refine okBrF ?_
    | refine okFn (mparseMsg_s bs hl) rfl (Cos.refl _) ?_
    | refine endFn0 (.inr rfl) rfl (.refl _) rfl
theorem withinChange_s [Wd] : FnR 179 (.agg [.ptr 0 0]) [.fn 180 0 []] (fun s => .agg (cChange (withinR (parseR chgR zChg) zChg s).1)) (fun s => (withinR (parseR chgR zChg) zChg s).2) := by
  intro s hs
  obtain ⟨x, b, e, ex, h1, h2⟩ := bytesR_pair 4194304 s
  have hb : b.length ≤ 8388609 := by omega
  obtain ⟨v, k, ev⟩ : ∃ (v : ChangeD) (k : Int), (parseR chgR zChg) x = (v, k) := ⟨_, _, rfl⟩
  have eR : withinR (parseR chgR zChg) zChg s = if e = 0 then (v, if k = 0 then (b, e) else (b, 200)) else (zChg, (b, e)) := by unfold withinR; simp only [ex, ev]
  have hc : FnP Tryz.prog 180 [.list 1 (x.map cByte)] (.tup [.agg (cChange v), .int .i64 k]) := by
    have := mParseChange_s x h2
    rw [ev] at this
    exact this
  refine mkS 28 [] Tryz.func179 rfl (by kernel_rfl) ?_
  repeat'
    (conv => arg 2; whnf)
    first
    | refine okAsk (by kernel_rfl) ?_
    | refine okRd 0 s (b, e) (.list 1 (x.map cByte)) tkStr_s hs (congrArg Prod.snd ex).symm (congrArg (fun r : List UInt8 × RS => D.list 1 (r.1.map cByte)) ex).symm ⟨⟨rfl, rfl⟩, trivial⟩ (Cos.refl _) rfl ?_
    | refine okRd 0 (b, e) (b, e) (.int .i64 e) rdErr_s hb rfl rfl ⟨⟨rfl, rfl⟩, trivial⟩ (Cos.refl _) rfl ?_
    | refine okFn hc rfl (Cos.refl _) ?_
    | refine okBoth ?_ ?_
    | refine okBrT ?_
    | refine okBrF ?_
    | refine okBr (fun h => ?_) (fun h => ?_)
    | refine okRd 0 (b, e) (b, 200) (.tup []) (rdFail_s 200) hb (by unfold failR; rw [if_pos (by simp_all)]) rfl ⟨⟨rfl, rfl⟩, trivial⟩ (Cos.refl _) rfl ?_
    | (have g : withinR (parseR chgR zChg) zChg s = (zChg, (b, e)) := by (rw [eR]; exact if_neg (fun g => by rw [g] at h; cases h))
       refine endRd (d := .agg (cChange zChg)) (.inr rfl) rfl ⟨⟨rfl, rfl⟩, trivial⟩ rfl (Cos.mkAgg (by repeat' first | exact Cos.nil | refine Cos.cons (.refl _) ?_ | refine Cos.cons (.nil _) ?_)) (congrArg Prod.snd g).symm (congrArg (fun r : ChangeD × RS => D.agg (cChange r.1)) g).symm)
    | (have g : withinR (parseR chgR zChg) zChg s = (v, (b, 200)) := by (rw [eR, if_pos (by simp_all)]; exact congrArg (Prod.mk v) (if_neg (fun g => by rw [g] at h; cases h)))
       refine endRd (d := .agg (cChange v)) (.inr rfl) rfl ⟨⟨rfl, rfl⟩, trivial⟩ rfl (.refl _) (congrArg Prod.snd g).symm (congrArg (fun r : ChangeD × RS => D.agg (cChange r.1)) g).symm)
    | (have g : withinR (parseR chgR zChg) zChg s = (v, (b, e)) := by (rw [eR, if_pos (by simp_all)]; exact congrArg (Prod.mk v) (if_pos (by simp_all)))
       refine endRd (d := .agg (cChange v)) (.inr rfl) rfl ⟨⟨rfl, rfl⟩, trivial⟩ rfl (.refl _) (congrArg Prod.snd g).symm (congrArg (fun r : ChangeD × RS => D.agg (cChange r.1)) g).symm)
theorem tkChange_s [Wd] : FnR 97 (.agg [.ptr 0 0]) [] (fun s => .agg (cChange (withinR (parseR chgR zChg) zChg s).1)) (fun s => (withinR (parseR chgR zChg) zChg s).2) := by
  intro s hs
  refine mkS 5 [] Tryz.func97 rfl (by kernel_rfl) ?_
  repeat'
    (conv => arg 2; whnf)
    first
    | refine okAsk (by kernel_rfl) ?_
    | refine okRd 0 s (withinR (parseR chgR zChg) zChg s).2 (.agg (cChange (withinR (parseR chgR zChg) zChg s).1)) withinChange_s hs rfl rfl ⟨⟨rfl, rfl⟩, trivial⟩ (Cos.refl _) rfl ?_
    | refine endRd (d := .agg (cChange (withinR (parseR chgR zChg) zChg s).1)) (.inr rfl) rfl ⟨⟨rfl, rfl⟩, trivial⟩ rfl (.refl _) rfl rfl
theorem withinMsg_s [Wd] : FnR 182 (.agg [.ptr 0 0]) [.fn 183 0 []] (fun s => .agg (cMsg (withinR (parseR msgR zMsg) zMsg s).1)) (fun s => (withinR (parseR msgR zMsg) zMsg s).2) := by
  intro s hs
  obtain ⟨x, b, e, ex, h1, h2⟩ := bytesR_pair 4194304 s
  have hb : b.length ≤ 8388609 := by omega
  obtain ⟨v, k, ev⟩ : ∃ (v : MsgD) (k : Int), (parseR msgR zMsg) x = (v, k) := ⟨_, _, rfl⟩
  have eR : withinR (parseR msgR zMsg) zMsg s = if e = 0 then (v, if k = 0 then (b, e) else (b, 200)) else (zMsg, (b, e)) := by unfold withinR; simp only [ex, ev]
  have hc : FnP Tryz.prog 183 [.list 1 (x.map cByte)] (.tup [.agg (cMsg v), .int .i64 k]) := by
    have := mParse_s x h2
    rw [ev] at this
    exact this
  refine mkS 28 [] Tryz.func182 rfl (by kernel_rfl) ?_
  repeat'
    (conv => arg 2; whnf)
    first
    | refine okAsk (by kernel_rfl) ?_
    | refine okRd 0 s (b, e) (.list 1 (x.map cByte)) tkStr_s hs (congrArg Prod.snd ex).symm (congrArg (fun r : List UInt8 × RS => D.list 1 (r.1.map cByte)) ex).symm ⟨⟨rfl, rfl⟩, trivial⟩ (Cos.refl _) rfl ?_
    | refine okRd 0 (b, e) (b, e) (.int .i64 e) rdErr_s hb rfl rfl ⟨⟨rfl, rfl⟩, trivial⟩ (Cos.refl _) rfl ?_
    | refine okFn hc rfl (Cos.refl _) ?_
    | refine okBoth ?_ ?_
    | refine okBrT ?_
    | refine okBrF ?_
    | refine okBr (fun h => ?_) (fun h => ?_)
    | refine okRd 0 (b, e) (b, 200) (.tup []) (rdFail_s 200) hb (by unfold failR; rw [if_pos (by simp_all)]) rfl ⟨⟨rfl, rfl⟩, trivial⟩ (Cos.refl _) rfl ?_
    | (have g : withinR (parseR msgR zMsg) zMsg s = (zMsg, (b, e)) := by (rw [eR]; exact if_neg (fun g => by rw [g] at h; cases h))
       refine endRd (d := .agg (cMsg zMsg)) (.inr rfl) rfl ⟨⟨rfl, rfl⟩, trivial⟩ rfl (Cos.mkAgg (by repeat' first | exact Cos.nil | refine Cos.cons (.refl _) ?_ | refine Cos.cons (.nil _) ?_)) (congrArg Prod.snd g).symm (congrArg (fun r : MsgD × RS => D.agg (cMsg r.1)) g).symm)
    | (have g : withinR (parseR msgR zMsg) zMsg s = (v, (b, 200)) := by (rw [eR, if_pos (by simp_all)]; exact congrArg (Prod.mk v) (if_neg (fun g => by rw [g] at h; cases h)))
       refine endRd (d := .agg (cMsg v)) (.inr rfl) rfl ⟨⟨rfl, rfl⟩, trivial⟩ rfl (.refl _) (congrArg Prod.snd g).symm (congrArg (fun r : MsgD × RS => D.agg (cMsg r.1)) g).symm)
    | (have g : withinR (parseR msgR zMsg) zMsg s = (v, (b, e)) := by (rw [eR, if_pos (by simp_all)]; exact congrArg (Prod.mk v) (if_pos (by simp_all)))
       refine endRd (d := .agg (cMsg v)) (.inr rfl) rfl ⟨⟨rfl, rfl⟩, trivial⟩ rfl (.refl _) (congrArg Prod.snd g).symm (congrArg (fun r : MsgD × RS => D.agg (cMsg r.1)) g).symm)
theorem tkMessage_s [Wd] : FnR 101 (.agg [.ptr 0 0]) [] (fun s => .agg (cMsg (withinR (parseR msgR zMsg) zMsg s).1)) (fun s => (withinR (parseR msgR zMsg) zMsg s).2) := by
  intro s hs
  refine mkS 5 [] Tryz.func101 rfl (by kernel_rfl) ?_
  repeat'
    (conv => arg 2; whnf)
    first
    | refine okAsk (by kernel_rfl) ?_
    | refine okRd 0 s (withinR (parseR msgR zMsg) zMsg s).2 (.agg (cMsg (withinR (parseR msgR zMsg) zMsg s).1)) withinMsg_s hs rfl rfl ⟨⟨rfl, rfl⟩, trivial⟩ (Cos.refl _) rfl ?_
    | refine endRd (d := .agg (cMsg (withinR (parseR msgR zMsg) zMsg s).1)) (.inr rfl) rfl ⟨⟨rfl, rfl⟩, trivial⟩ rfl (.refl _) rfl rfl
end Go.Proofs.YteaggenihhaajaaGreat
