/- Lemmas and contracts, part 20. -/
import Derived.Test.YteaggenihhaajaaGreatZk19
/- Package state's taker: all but whole cores; its lists, over data (printed by gen_ws.py). -/
namespace Go.Proofs.YteaggenihhaajaaGreat
open Go.RowKit
set_option linter.unusedVariables false
set_option maxRecDepth 20000

theorem tHdR_rd : Rd1 tHdR := withinR_rd _ _
theorem tCertR_rd : Rd1 tCertR := withinR_rd _ _
theorem tChgR_rd : Rd1 tChgR := withinR_rd _ _
theorem tMsgR_rd : Rd1 tMsgR := withinR_rd _ _
theorem tkBatch_s [Wd] : FnR 168 (.agg [.ptr 0 0]) [] (fun s => .list 9 ((batchR s).1.map cSigned)) (fun s => (batchR s).2) := by
  intro s hs
  refine mkS 6 [] Tryz.func168 rfl (by kernel_rfl) ?_
  repeat'
    (conv => arg 2; whnf)
    first
    | refine okAsk (by kernel_rfl) ?_
    | refine okBoth ?_ ?_
    | refine okBrT ?_
    | refine okBrF ?_
    | refine okRd 0 s (batchR s).2 (.list 9 ((batchR s).1.map cSigned)) qTakeBatch_s hs rfl rfl ⟨⟨rfl, rfl⟩, trivial⟩ (Cos.refl _) rfl ?_
    | refine endRd (d := .list 9 ((batchR s).1.map cSigned)) (.inr rfl) rfl ⟨⟨rfl, rfl⟩, trivial⟩ rfl (.refl _) rfl rfl
theorem tkSign_s [Wd] : FnR 175 (.agg [.ptr 0 0]) [] (fun s => .agg (cSign (signR s).1)) (fun s => (signR s).2) := by
  intro s hs
  refine mkS 6 [] Tryz.func175 rfl (by kernel_rfl) ?_
  repeat'
    (conv => arg 2; whnf)
    first
    | refine okAsk (by kernel_rfl) ?_
    | refine okBoth ?_ ?_
    | refine okBrT ?_
    | refine okBrF ?_
    | refine okRd 0 s (signR s).2 (.agg (cSign (signR s).1)) qTakeSign_s hs rfl rfl ⟨⟨rfl, rfl⟩, trivial⟩ (Cos.refl _) rfl ?_
    | refine endRd (d := .agg (cSign (signR s).1)) (.inr rfl) rfl ⟨⟨rfl, rfl⟩, trivial⟩ rfl (.refl _) rfl rfl
set_option maxHeartbeats 1000000 in
theorem takesSign_s [Wd] : FnR 178 (.agg [.ptr 0 0]) [.fn 175 0 []] (fun s => .list 2 ((takesR signR s).1.map cSign)) (fun s => (takesR signR s).2) := by
  intro s0 hs
  obtain ⟨N0, b0, e0, en, hN1, hb0⟩ := numR_pair 4096 s0
  obtain ⟨N, hNN⟩ : ∃ N : Int, N = (N0 : Int) := ⟨_, rfl⟩
  have hN0 : 0 ≤ N := by omega
  have hN : N ≤ 4096 := by omega
  have eL : takesR signR s0 = goR signR N.toNat (b0, e0) := by unfold takesR; rw [en, hNN, Int.toNat_natCast]
  refine mkS 27 [] Tryz.func178 rfl (by kernel_rfl) ?_
  repeat'
    (conv => arg 2; whnf)
    first
    | refine okAsk (by kernel_rfl) ?_
    | refine okRd 0 s0 (b0, e0) (.int .u64 N) (rdNum_s 4096) hs (congrArg Prod.snd en).symm (by rw [hNN]; exact (congrArg (fun r : Nat × RS => D.int .u64 (r.1 : Int)) en).symm) ⟨⟨rfl, rfl⟩, trivial⟩ (Cos.refl _) rfl ?_
  conv => arg 2; whnf
  refine okLoop (α := Int × RS × List SignD) (fun a => match a.2.2 with
    | [] => ⟨[(6, .int .u64 a.1), (5, .nils), (2, .ptr 1 0), (1, .fn 175 0 [])], [.cells 164 [.list 1 (a.2.1.1.map cByte), .int .i64 a.2.1.2, .bool true], .cells 94 [.ptr 0 0]]⟩
    | x :: l => ⟨[(6, .int .u64 a.1), (5, .row 2), (2, .ptr 1 0), (1, .fn 175 0 [])], [.cells 164 [.list 1 (a.2.1.1.map cByte), .int .i64 a.2.1.2, .bool true], .cells 94 [.ptr 0 0], .row 59 2 ((x :: l).map cSign)]⟩) (fun a => 0 ≤ a.1 ∧ a.1 ≤ 4096 ∧ a.2.1.1.length ≤ 8388609 ∧ a.2.2.length + a.1.toNat ≤ 4096 ∧ goR signR N.toNat (b0, e0) = (a.2.2 ++ (goR signR a.1.toNat a.2.1).1, (goR signR a.1.toNat a.2.1).2)) (fun a => a.1.toNat) (N, (b0, e0), []) ⟨hN0, by omega, by show b0.length ≤ _; omega, by simp; omega, rfl⟩ (Sv.mk' [0, 1] rfl ⟨⟨rfl, rfl⟩, ⟨rfl, rfl⟩, trivial⟩ ⟨rfl, rfl, rfl, rfl, trivial⟩) ?_
  rintro ⟨n, ⟨b, e⟩, out⟩ ⟨h0, h1, hl, ho, hg⟩
  replace h0 : 0 ≤ n := h0
  replace h1 : n ≤ 4096 := h1
  replace hl : b.length ≤ 8388609 := hl
  replace ho : out.length + n.toNat ≤ 4096 := ho
  replace hg : goR signR N.toNat (b0, e0) = (out ++ (goR signR n.toNat (b, e)).1, (goR signR n.toNat (b, e)).2) := hg
  obtain ⟨x, b2, e2, ep⟩ : ∃ (x : SignD) (b2 : List UInt8) (e2 : Int), signR (b, e) = (x, (b2, e2)) := ⟨_, _, _, rfl⟩
  have hl2 : b2.length ≤ 8388609 := by
    have h := signR_rd.len (b, e)
    rw [ep] at h
    exact Nat.le_trans h hl
  have hstop : (n ≤ 0 ∨ ¬ e = 0) → takesR signR s0 = (out, (b, e)) := fun h => by
    rw [eL, hg]
    rcases h with h | h
    · rw [show n.toNat = 0 by omega]; simp [goR]
    · rw [goR_stop _ _ _ h]; simp
  have hnext : 0 < n → e = 0 → goR signR N.toNat (b0, e0) = ((out ++ [x]) ++ (goR signR (n - 1).toNat (b2, e2)).1, (goR signR (n - 1).toNat (b2, e2)).2) := fun hn h => by
    rw [hg, goR_step _ hn h, ep]
    simp
  cases out with
  | nil =>
    conv => arg 2; whnf
    refine okBr (fun hn => ?_) (fun hn => ?_)
    · replace hn : 0 < n := by simpa using hn
      repeat'
        (conv => arg 2; whnf)
        first
        | refine okRd 0 (b, e) (b, e) (.int .i64 e) rdErr_s hl rfl rfl ⟨⟨rfl, rfl⟩, trivial⟩ (Cos.refl _) rfl ?_
        | refine okBoth ?_ ?_
        | refine okBrT ?_
        | refine okBrF ?_
        | refine okBr (fun h => ?_) (fun h => ?_)
        | refine okRd 0 (b, e) (b2, e2) (.agg (cSign x)) tkSign_s hl (congrArg Prod.snd ep).symm (congrArg (fun r : SignD × RS => D.agg (cSign r.1)) ep).symm ⟨⟨rfl, rfl⟩, trivial⟩ (Cos.refl _) rfl ?_
        | refine okAsk (by constructor <;> (simp only [List.length_cons, List.length_nil]; decide)) ?_
        | refine okWrap (u64i (by show 0 ≤ n - 1; omega) (by show n - 1 < _; omega)) ?_
        | refine okAgain (n - 1, (b2, e2), [x]) (Sv.mk' [0, 1, 4] rfl ⟨⟨rfl, rfl⟩, ⟨rfl, rfl⟩, ⟨rfl, rfl⟩, trivial⟩ ⟨rfl, rfl, rfl, rfl, trivial⟩) ⟨by show 0 ≤ n - 1; omega, by show n - 1 ≤ 4096; omega, hl2, by show ([x]).length + (n - 1).toNat ≤ 4096; simp at ho ⊢; omega, hnext hn (by simpa using h)⟩ (by show (n - 1).toNat < n.toNat; omega)
        | refine okOut ?_
        | refine endRd (d := .list 2 []) (.inr rfl) rfl ⟨⟨rfl, rfl⟩, trivial⟩ rfl (.nil _) (congrArg Prod.snd (hstop (.inr (by simpa using h)))).symm (congrArg (fun r : List SignD × RS => D.list 2 (r.1.map cSign)) (hstop (.inr (by simpa using h)))).symm
    · replace hn : n ≤ 0 := by simpa using hn
      repeat'
        (conv => arg 2; whnf)
        first
        | refine okRd 0 (b, e) (b, e) (.int .i64 e) rdErr_s hl rfl rfl ⟨⟨rfl, rfl⟩, trivial⟩ (Cos.refl _) rfl ?_
        | refine okBoth ?_ ?_
        | refine okBrT ?_
        | refine okBrF ?_
        | refine okBr (fun h => ?_) (fun h => ?_)
        | refine okOut ?_
        | refine endRd (d := .list 2 []) (.inr rfl) rfl ⟨⟨rfl, rfl⟩, trivial⟩ rfl (.nil _) (congrArg Prod.snd (hstop (.inl hn))).symm (congrArg (fun r : List SignD × RS => D.list 2 (r.1.map cSign)) (hstop (.inl hn))).symm
  | cons y out =>
    conv => arg 2; whnf
    refine okBr (fun hn => ?_) (fun hn => ?_)
    · replace hn : 0 < n := by simpa using hn
      repeat'
        (conv => arg 2; whnf)
        first
        | refine okRd 0 (b, e) (b, e) (.int .i64 e) rdErr_s hl rfl rfl ⟨⟨rfl, rfl⟩, trivial⟩ (Cos.refl _) rfl ?_
        | refine okBoth ?_ ?_
        | refine okBrT ?_
        | refine okBrF ?_
        | refine okBr (fun h => ?_) (fun h => ?_)
        | refine okRd 0 (b, e) (b2, e2) (.agg (cSign x)) tkSign_s hl (congrArg Prod.snd ep).symm (congrArg (fun r : SignD × RS => D.agg (cSign r.1)) ep).symm ⟨⟨rfl, rfl⟩, trivial⟩ (Cos.refl _) rfl ?_
        | refine okAsk (by constructor <;> (simp only [List.length_cons, List.length_nil, List.length_map, maxLen] at ho ⊢; omega)) ?_
        | refine okWrap (u64i (by show 0 ≤ n - 1; omega) (by show n - 1 < _; omega)) ?_
        | refine okAgain (n - 1, (b2, e2), (y :: out) ++ [x]) (Sv.mk' [0, 1, 5] rfl ⟨⟨rfl, rfl⟩, ⟨rfl, rfl⟩, ⟨rfl, by simp; rfl⟩, trivial⟩ ⟨rfl, rfl, rfl, rfl, trivial⟩) ⟨by show 0 ≤ n - 1; omega, by show n - 1 ≤ 4096; omega, hl2, by show ((y :: out) ++ [x]).length + (n - 1).toNat ≤ 4096; simp at ho ⊢; omega, hnext hn (by simpa using h)⟩ (by show (n - 1).toNat < n.toNat; omega)
        | refine okOut ?_
        | refine endRdF [2] (d := .list 2 ((y :: out).map cSign)) (.inr rfl) rfl ⟨⟨rfl, rfl⟩, trivial⟩ rfl (.refl _) (congrArg Prod.snd (hstop (.inr (by simpa using h)))).symm (congrArg (fun r : List SignD × RS => D.list 2 (r.1.map cSign)) (hstop (.inr (by simpa using h)))).symm
    · replace hn : n ≤ 0 := by simpa using hn
      repeat'
        (conv => arg 2; whnf)
        first
        | refine okRd 0 (b, e) (b, e) (.int .i64 e) rdErr_s hl rfl rfl ⟨⟨rfl, rfl⟩, trivial⟩ (Cos.refl _) rfl ?_
        | refine okBoth ?_ ?_
        | refine okBrT ?_
        | refine okBrF ?_
        | refine okBr (fun h => ?_) (fun h => ?_)
        | refine okOut ?_
        | refine endRdF [2] (d := .list 2 ((y :: out).map cSign)) (.inr rfl) rfl ⟨⟨rfl, rfl⟩, trivial⟩ rfl (.refl _) (congrArg Prod.snd (hstop (.inl hn))).symm (congrArg (fun r : List SignD × RS => D.list 2 (r.1.map cSign)) (hstop (.inl hn))).symm
set_option maxHeartbeats 1000000 in
theorem takesCert_s [Wd] : FnR 89 (.agg [.ptr 0 0]) [.fn 86 0 []] (fun s => .list 3 ((takesR tCertR s).1.map cCert)) (fun s => (takesR tCertR s).2) := by
  intro s0 hs
  obtain ⟨N0, b0, e0, en, hN1, hb0⟩ := numR_pair 4096 s0
  obtain ⟨N, hNN⟩ : ∃ N : Int, N = (N0 : Int) := ⟨_, rfl⟩
  have hN0 : 0 ≤ N := by omega
  have hN : N ≤ 4096 := by omega
  have eL : takesR tCertR s0 = goR tCertR N.toNat (b0, e0) := by unfold takesR; rw [en, hNN, Int.toNat_natCast]
  refine mkS 27 [] Tryz.func89 rfl (by kernel_rfl) ?_
  repeat'
    (conv => arg 2; whnf)
    first
    | refine okAsk (by kernel_rfl) ?_
    | refine okRd 0 s0 (b0, e0) (.int .u64 N) (rdNum_s 4096) hs (congrArg Prod.snd en).symm (by rw [hNN]; exact (congrArg (fun r : Nat × RS => D.int .u64 (r.1 : Int)) en).symm) ⟨⟨rfl, rfl⟩, trivial⟩ (Cos.refl _) rfl ?_
  conv => arg 2; whnf
  refine okLoop (α := Int × RS × List CertD) (fun a => match a.2.2 with
    | [] => ⟨[(6, .int .u64 a.1), (5, .nils), (2, .ptr 1 0), (1, .fn 86 0 [])], [.cells 164 [.list 1 (a.2.1.1.map cByte), .int .i64 a.2.1.2, .bool true], .cells 94 [.ptr 0 0]]⟩
    | x :: l => ⟨[(6, .int .u64 a.1), (5, .row 2), (2, .ptr 1 0), (1, .fn 86 0 [])], [.cells 164 [.list 1 (a.2.1.1.map cByte), .int .i64 a.2.1.2, .bool true], .cells 94 [.ptr 0 0], .row 29 3 ((x :: l).map cCert)]⟩) (fun a => 0 ≤ a.1 ∧ a.1 ≤ 4096 ∧ a.2.1.1.length ≤ 8388609 ∧ a.2.2.length + a.1.toNat ≤ 4096 ∧ goR tCertR N.toNat (b0, e0) = (a.2.2 ++ (goR tCertR a.1.toNat a.2.1).1, (goR tCertR a.1.toNat a.2.1).2)) (fun a => a.1.toNat) (N, (b0, e0), []) ⟨hN0, by omega, by show b0.length ≤ _; omega, by simp; omega, rfl⟩ (Sv.mk' [0, 1] rfl ⟨⟨rfl, rfl⟩, ⟨rfl, rfl⟩, trivial⟩ ⟨rfl, rfl, rfl, rfl, trivial⟩) ?_
  rintro ⟨n, ⟨b, e⟩, out⟩ ⟨h0, h1, hl, ho, hg⟩
  replace h0 : 0 ≤ n := h0
  replace h1 : n ≤ 4096 := h1
  replace hl : b.length ≤ 8388609 := hl
  replace ho : out.length + n.toNat ≤ 4096 := ho
  replace hg : goR tCertR N.toNat (b0, e0) = (out ++ (goR tCertR n.toNat (b, e)).1, (goR tCertR n.toNat (b, e)).2) := hg
  obtain ⟨x, b2, e2, ep⟩ : ∃ (x : CertD) (b2 : List UInt8) (e2 : Int), tCertR (b, e) = (x, (b2, e2)) := ⟨_, _, _, rfl⟩
  have hl2 : b2.length ≤ 8388609 := by
    have h := tCertR_rd.len (b, e)
    rw [ep] at h
    exact Nat.le_trans h hl
  have hstop : (n ≤ 0 ∨ ¬ e = 0) → takesR tCertR s0 = (out, (b, e)) := fun h => by
    rw [eL, hg]
    rcases h with h | h
    · rw [show n.toNat = 0 by omega]; simp [goR]
    · rw [goR_stop _ _ _ h]; simp
  have hnext : 0 < n → e = 0 → goR tCertR N.toNat (b0, e0) = ((out ++ [x]) ++ (goR tCertR (n - 1).toNat (b2, e2)).1, (goR tCertR (n - 1).toNat (b2, e2)).2) := fun hn h => by
    rw [hg, goR_step _ hn h, ep]
    simp
  cases out with
  | nil =>
    conv => arg 2; whnf
    refine okBr (fun hn => ?_) (fun hn => ?_)
    · replace hn : 0 < n := by simpa using hn
      repeat'
        (conv => arg 2; whnf)
        first
        | refine okRd 0 (b, e) (b, e) (.int .i64 e) rdErr_s hl rfl rfl ⟨⟨rfl, rfl⟩, trivial⟩ (Cos.refl _) rfl ?_
        | refine okBoth ?_ ?_
        | refine okBrT ?_
        | refine okBrF ?_
        | refine okBr (fun h => ?_) (fun h => ?_)
        | refine okRd 0 (b, e) (b2, e2) (.agg (cCert x)) tkCert_s hl (congrArg Prod.snd ep).symm (congrArg (fun r : CertD × RS => D.agg (cCert r.1)) ep).symm ⟨⟨rfl, rfl⟩, trivial⟩ (Cos.refl _) rfl ?_
        | refine okAsk (by constructor <;> (simp only [List.length_cons, List.length_nil]; decide)) ?_
        | refine okWrap (u64i (by show 0 ≤ n - 1; omega) (by show n - 1 < _; omega)) ?_
        | refine okAgain (n - 1, (b2, e2), [x]) (Sv.mk' [0, 1, 4] rfl ⟨⟨rfl, rfl⟩, ⟨rfl, rfl⟩, ⟨rfl, rfl⟩, trivial⟩ ⟨rfl, rfl, rfl, rfl, trivial⟩) ⟨by show 0 ≤ n - 1; omega, by show n - 1 ≤ 4096; omega, hl2, by show ([x]).length + (n - 1).toNat ≤ 4096; simp at ho ⊢; omega, hnext hn (by simpa using h)⟩ (by show (n - 1).toNat < n.toNat; omega)
        | refine okOut ?_
        | refine endRd (d := .list 3 []) (.inr rfl) rfl ⟨⟨rfl, rfl⟩, trivial⟩ rfl (.nil _) (congrArg Prod.snd (hstop (.inr (by simpa using h)))).symm (congrArg (fun r : List CertD × RS => D.list 3 (r.1.map cCert)) (hstop (.inr (by simpa using h)))).symm
    · replace hn : n ≤ 0 := by simpa using hn
      repeat'
        (conv => arg 2; whnf)
        first
        | refine okRd 0 (b, e) (b, e) (.int .i64 e) rdErr_s hl rfl rfl ⟨⟨rfl, rfl⟩, trivial⟩ (Cos.refl _) rfl ?_
        | refine okBoth ?_ ?_
        | refine okBrT ?_
        | refine okBrF ?_
        | refine okBr (fun h => ?_) (fun h => ?_)
        | refine okOut ?_
        | refine endRd (d := .list 3 []) (.inr rfl) rfl ⟨⟨rfl, rfl⟩, trivial⟩ rfl (.nil _) (congrArg Prod.snd (hstop (.inl hn))).symm (congrArg (fun r : List CertD × RS => D.list 3 (r.1.map cCert)) (hstop (.inl hn))).symm
  | cons y out =>
    conv => arg 2; whnf
    refine okBr (fun hn => ?_) (fun hn => ?_)
    · replace hn : 0 < n := by simpa using hn
      repeat'
        (conv => arg 2; whnf)
        first
        | refine okRd 0 (b, e) (b, e) (.int .i64 e) rdErr_s hl rfl rfl ⟨⟨rfl, rfl⟩, trivial⟩ (Cos.refl _) rfl ?_
        | refine okBoth ?_ ?_
        | refine okBrT ?_
        | refine okBrF ?_
        | refine okBr (fun h => ?_) (fun h => ?_)
        | refine okRd 0 (b, e) (b2, e2) (.agg (cCert x)) tkCert_s hl (congrArg Prod.snd ep).symm (congrArg (fun r : CertD × RS => D.agg (cCert r.1)) ep).symm ⟨⟨rfl, rfl⟩, trivial⟩ (Cos.refl _) rfl ?_
        | refine okAsk (by constructor <;> (simp only [List.length_cons, List.length_nil, List.length_map, maxLen] at ho ⊢; omega)) ?_
        | refine okWrap (u64i (by show 0 ≤ n - 1; omega) (by show n - 1 < _; omega)) ?_
        | refine okAgain (n - 1, (b2, e2), (y :: out) ++ [x]) (Sv.mk' [0, 1, 5] rfl ⟨⟨rfl, rfl⟩, ⟨rfl, rfl⟩, ⟨rfl, by simp; rfl⟩, trivial⟩ ⟨rfl, rfl, rfl, rfl, trivial⟩) ⟨by show 0 ≤ n - 1; omega, by show n - 1 ≤ 4096; omega, hl2, by show ((y :: out) ++ [x]).length + (n - 1).toNat ≤ 4096; simp at ho ⊢; omega, hnext hn (by simpa using h)⟩ (by show (n - 1).toNat < n.toNat; omega)
        | refine okOut ?_
        | refine endRdF [2] (d := .list 3 ((y :: out).map cCert)) (.inr rfl) rfl ⟨⟨rfl, rfl⟩, trivial⟩ rfl (.refl _) (congrArg Prod.snd (hstop (.inr (by simpa using h)))).symm (congrArg (fun r : List CertD × RS => D.list 3 (r.1.map cCert)) (hstop (.inr (by simpa using h)))).symm
    · replace hn : n ≤ 0 := by simpa using hn
      repeat'
        (conv => arg 2; whnf)
        first
        | refine okRd 0 (b, e) (b, e) (.int .i64 e) rdErr_s hl rfl rfl ⟨⟨rfl, rfl⟩, trivial⟩ (Cos.refl _) rfl ?_
        | refine okBoth ?_ ?_
        | refine okBrT ?_
        | refine okBrF ?_
        | refine okBr (fun h => ?_) (fun h => ?_)
        | refine okOut ?_
        | refine endRdF [2] (d := .list 3 ((y :: out).map cCert)) (.inr rfl) rfl ⟨⟨rfl, rfl⟩, trivial⟩ rfl (.refl _) (congrArg Prod.snd (hstop (.inl hn))).symm (congrArg (fun r : List CertD × RS => D.list 3 (r.1.map cCert)) (hstop (.inl hn))).symm
set_option maxHeartbeats 1000000 in
theorem takesChange_s [Wd] : FnR 96 (.agg [.ptr 0 0]) [.fn 97 0 []] (fun s => .list 8 ((takesR tChgR s).1.map cChange)) (fun s => (takesR tChgR s).2) := by
  intro s0 hs
  obtain ⟨N0, b0, e0, en, hN1, hb0⟩ := numR_pair 4096 s0
  obtain ⟨N, hNN⟩ : ∃ N : Int, N = (N0 : Int) := ⟨_, rfl⟩
  have hN0 : 0 ≤ N := by omega
  have hN : N ≤ 4096 := by omega
  have eL : takesR tChgR s0 = goR tChgR N.toNat (b0, e0) := by unfold takesR; rw [en, hNN, Int.toNat_natCast]
  refine mkS 27 [] Tryz.func96 rfl (by kernel_rfl) ?_
  repeat'
    (conv => arg 2; whnf)
    first
    | refine okAsk (by kernel_rfl) ?_
    | refine okRd 0 s0 (b0, e0) (.int .u64 N) (rdNum_s 4096) hs (congrArg Prod.snd en).symm (by rw [hNN]; exact (congrArg (fun r : Nat × RS => D.int .u64 (r.1 : Int)) en).symm) ⟨⟨rfl, rfl⟩, trivial⟩ (Cos.refl _) rfl ?_
  conv => arg 2; whnf
  refine okLoop (α := Int × RS × List ChangeD) (fun a => match a.2.2 with
    | [] => ⟨[(6, .int .u64 a.1), (5, .nils), (2, .ptr 1 0), (1, .fn 97 0 [])], [.cells 164 [.list 1 (a.2.1.1.map cByte), .int .i64 a.2.1.2, .bool true], .cells 94 [.ptr 0 0]]⟩
    | x :: l => ⟨[(6, .int .u64 a.1), (5, .row 2), (2, .ptr 1 0), (1, .fn 97 0 [])], [.cells 164 [.list 1 (a.2.1.1.map cByte), .int .i64 a.2.1.2, .bool true], .cells 94 [.ptr 0 0], .row 77 8 ((x :: l).map cChange)]⟩) (fun a => 0 ≤ a.1 ∧ a.1 ≤ 4096 ∧ a.2.1.1.length ≤ 8388609 ∧ a.2.2.length + a.1.toNat ≤ 4096 ∧ goR tChgR N.toNat (b0, e0) = (a.2.2 ++ (goR tChgR a.1.toNat a.2.1).1, (goR tChgR a.1.toNat a.2.1).2)) (fun a => a.1.toNat) (N, (b0, e0), []) ⟨hN0, by omega, by show b0.length ≤ _; omega, by simp; omega, rfl⟩ (Sv.mk' [0, 1] rfl ⟨⟨rfl, rfl⟩, ⟨rfl, rfl⟩, trivial⟩ ⟨rfl, rfl, rfl, rfl, trivial⟩) ?_
  rintro ⟨n, ⟨b, e⟩, out⟩ ⟨h0, h1, hl, ho, hg⟩
  replace h0 : 0 ≤ n := h0
  replace h1 : n ≤ 4096 := h1
  replace hl : b.length ≤ 8388609 := hl
  replace ho : out.length + n.toNat ≤ 4096 := ho
  replace hg : goR tChgR N.toNat (b0, e0) = (out ++ (goR tChgR n.toNat (b, e)).1, (goR tChgR n.toNat (b, e)).2) := hg
  obtain ⟨x, b2, e2, ep⟩ : ∃ (x : ChangeD) (b2 : List UInt8) (e2 : Int), tChgR (b, e) = (x, (b2, e2)) := ⟨_, _, _, rfl⟩
  have hl2 : b2.length ≤ 8388609 := by
    have h := tChgR_rd.len (b, e)
    rw [ep] at h
    exact Nat.le_trans h hl
  have hstop : (n ≤ 0 ∨ ¬ e = 0) → takesR tChgR s0 = (out, (b, e)) := fun h => by
    rw [eL, hg]
    rcases h with h | h
    · rw [show n.toNat = 0 by omega]; simp [goR]
    · rw [goR_stop _ _ _ h]; simp
  have hnext : 0 < n → e = 0 → goR tChgR N.toNat (b0, e0) = ((out ++ [x]) ++ (goR tChgR (n - 1).toNat (b2, e2)).1, (goR tChgR (n - 1).toNat (b2, e2)).2) := fun hn h => by
    rw [hg, goR_step _ hn h, ep]
    simp
  cases out with
  | nil =>
    conv => arg 2; whnf
    refine okBr (fun hn => ?_) (fun hn => ?_)
    · replace hn : 0 < n := by simpa using hn
      repeat'
        (conv => arg 2; whnf)
        first
        | refine okRd 0 (b, e) (b, e) (.int .i64 e) rdErr_s hl rfl rfl ⟨⟨rfl, rfl⟩, trivial⟩ (Cos.refl _) rfl ?_
        | refine okBoth ?_ ?_
        | refine okBrT ?_
        | refine okBrF ?_
        | refine okBr (fun h => ?_) (fun h => ?_)
        | refine okRd 0 (b, e) (b2, e2) (.agg (cChange x)) tkChange_s hl (congrArg Prod.snd ep).symm (congrArg (fun r : ChangeD × RS => D.agg (cChange r.1)) ep).symm ⟨⟨rfl, rfl⟩, trivial⟩ (Cos.refl _) rfl ?_
        | refine okAsk (by constructor <;> (simp only [List.length_cons, List.length_nil]; decide)) ?_
        | refine okWrap (u64i (by show 0 ≤ n - 1; omega) (by show n - 1 < _; omega)) ?_
        | refine okAgain (n - 1, (b2, e2), [x]) (Sv.mk' [0, 1, 4] rfl ⟨⟨rfl, rfl⟩, ⟨rfl, rfl⟩, ⟨rfl, rfl⟩, trivial⟩ ⟨rfl, rfl, rfl, rfl, trivial⟩) ⟨by show 0 ≤ n - 1; omega, by show n - 1 ≤ 4096; omega, hl2, by show ([x]).length + (n - 1).toNat ≤ 4096; simp at ho ⊢; omega, hnext hn (by simpa using h)⟩ (by show (n - 1).toNat < n.toNat; omega)
        | refine okOut ?_
        | refine endRd (d := .list 8 []) (.inr rfl) rfl ⟨⟨rfl, rfl⟩, trivial⟩ rfl (.nil _) (congrArg Prod.snd (hstop (.inr (by simpa using h)))).symm (congrArg (fun r : List ChangeD × RS => D.list 8 (r.1.map cChange)) (hstop (.inr (by simpa using h)))).symm
    · replace hn : n ≤ 0 := by simpa using hn
      repeat'
        (conv => arg 2; whnf)
        first
        | refine okRd 0 (b, e) (b, e) (.int .i64 e) rdErr_s hl rfl rfl ⟨⟨rfl, rfl⟩, trivial⟩ (Cos.refl _) rfl ?_
        | refine okBoth ?_ ?_
        | refine okBrT ?_
        | refine okBrF ?_
        | refine okBr (fun h => ?_) (fun h => ?_)
        | refine okOut ?_
        | refine endRd (d := .list 8 []) (.inr rfl) rfl ⟨⟨rfl, rfl⟩, trivial⟩ rfl (.nil _) (congrArg Prod.snd (hstop (.inl hn))).symm (congrArg (fun r : List ChangeD × RS => D.list 8 (r.1.map cChange)) (hstop (.inl hn))).symm
  | cons y out =>
    conv => arg 2; whnf
    refine okBr (fun hn => ?_) (fun hn => ?_)
    · replace hn : 0 < n := by simpa using hn
      repeat'
        (conv => arg 2; whnf)
        first
        | refine okRd 0 (b, e) (b, e) (.int .i64 e) rdErr_s hl rfl rfl ⟨⟨rfl, rfl⟩, trivial⟩ (Cos.refl _) rfl ?_
        | refine okBoth ?_ ?_
        | refine okBrT ?_
        | refine okBrF ?_
        | refine okBr (fun h => ?_) (fun h => ?_)
        | refine okRd 0 (b, e) (b2, e2) (.agg (cChange x)) tkChange_s hl (congrArg Prod.snd ep).symm (congrArg (fun r : ChangeD × RS => D.agg (cChange r.1)) ep).symm ⟨⟨rfl, rfl⟩, trivial⟩ (Cos.refl _) rfl ?_
        | refine okAsk (by constructor <;> (simp only [List.length_cons, List.length_nil, List.length_map, maxLen] at ho ⊢; omega)) ?_
        | refine okWrap (u64i (by show 0 ≤ n - 1; omega) (by show n - 1 < _; omega)) ?_
        | refine okAgain (n - 1, (b2, e2), (y :: out) ++ [x]) (Sv.mk' [0, 1, 5] rfl ⟨⟨rfl, rfl⟩, ⟨rfl, rfl⟩, ⟨rfl, by simp; rfl⟩, trivial⟩ ⟨rfl, rfl, rfl, rfl, trivial⟩) ⟨by show 0 ≤ n - 1; omega, by show n - 1 ≤ 4096; omega, hl2, by show ((y :: out) ++ [x]).length + (n - 1).toNat ≤ 4096; simp at ho ⊢; omega, hnext hn (by simpa using h)⟩ (by show (n - 1).toNat < n.toNat; omega)
        | refine okOut ?_
        | refine endRdF [2] (d := .list 8 ((y :: out).map cChange)) (.inr rfl) rfl ⟨⟨rfl, rfl⟩, trivial⟩ rfl (.refl _) (congrArg Prod.snd (hstop (.inr (by simpa using h)))).symm (congrArg (fun r : List ChangeD × RS => D.list 8 (r.1.map cChange)) (hstop (.inr (by simpa using h)))).symm
    · replace hn : n ≤ 0 := by simpa using hn
      repeat'
        (conv => arg 2; whnf)
        first
        | refine okRd 0 (b, e) (b, e) (.int .i64 e) rdErr_s hl rfl rfl ⟨⟨rfl, rfl⟩, trivial⟩ (Cos.refl _) rfl ?_
        | refine okBoth ?_ ?_
        | refine okBrT ?_
        | refine okBrF ?_
        | refine okBr (fun h => ?_) (fun h => ?_)
        | refine okOut ?_
        | refine endRdF [2] (d := .list 8 ((y :: out).map cChange)) (.inr rfl) rfl ⟨⟨rfl, rfl⟩, trivial⟩ rfl (.refl _) (congrArg Prod.snd (hstop (.inl hn))).symm (congrArg (fun r : List ChangeD × RS => D.list 8 (r.1.map cChange)) (hstop (.inl hn))).symm
set_option maxHeartbeats 1000000 in
theorem takesMsg_s [Wd] : FnR 100 (.agg [.ptr 0 0]) [.fn 101 0 []] (fun s => .list 30 ((takesR tMsgR s).1.map cMsg)) (fun s => (takesR tMsgR s).2) := by
  intro s0 hs
  obtain ⟨N0, b0, e0, en, hN1, hb0⟩ := numR_pair 4096 s0
  obtain ⟨N, hNN⟩ : ∃ N : Int, N = (N0 : Int) := ⟨_, rfl⟩
  have hN0 : 0 ≤ N := by omega
  have hN : N ≤ 4096 := by omega
  have eL : takesR tMsgR s0 = goR tMsgR N.toNat (b0, e0) := by unfold takesR; rw [en, hNN, Int.toNat_natCast]
  refine mkS 27 [] Tryz.func100 rfl (by kernel_rfl) ?_
  repeat'
    (conv => arg 2; whnf)
    first
    | refine okAsk (by kernel_rfl) ?_
    | refine okRd 0 s0 (b0, e0) (.int .u64 N) (rdNum_s 4096) hs (congrArg Prod.snd en).symm (by rw [hNN]; exact (congrArg (fun r : Nat × RS => D.int .u64 (r.1 : Int)) en).symm) ⟨⟨rfl, rfl⟩, trivial⟩ (Cos.refl _) rfl ?_
  conv => arg 2; whnf
  refine okLoop (α := Int × RS × List MsgD) (fun a => match a.2.2 with
    | [] => ⟨[(6, .int .u64 a.1), (5, .nils), (2, .ptr 1 0), (1, .fn 101 0 [])], [.cells 164 [.list 1 (a.2.1.1.map cByte), .int .i64 a.2.1.2, .bool true], .cells 94 [.ptr 0 0]]⟩
    | x :: l => ⟨[(6, .int .u64 a.1), (5, .row 2), (2, .ptr 1 0), (1, .fn 101 0 [])], [.cells 164 [.list 1 (a.2.1.1.map cByte), .int .i64 a.2.1.2, .bool true], .cells 94 [.ptr 0 0], .row 122 30 ((x :: l).map cMsg)]⟩) (fun a => 0 ≤ a.1 ∧ a.1 ≤ 4096 ∧ a.2.1.1.length ≤ 8388609 ∧ a.2.2.length + a.1.toNat ≤ 4096 ∧ goR tMsgR N.toNat (b0, e0) = (a.2.2 ++ (goR tMsgR a.1.toNat a.2.1).1, (goR tMsgR a.1.toNat a.2.1).2)) (fun a => a.1.toNat) (N, (b0, e0), []) ⟨hN0, by omega, by show b0.length ≤ _; omega, by simp; omega, rfl⟩ (Sv.mk' [0, 1] rfl ⟨⟨rfl, rfl⟩, ⟨rfl, rfl⟩, trivial⟩ ⟨rfl, rfl, rfl, rfl, trivial⟩) ?_
  rintro ⟨n, ⟨b, e⟩, out⟩ ⟨h0, h1, hl, ho, hg⟩
  replace h0 : 0 ≤ n := h0
  replace h1 : n ≤ 4096 := h1
  replace hl : b.length ≤ 8388609 := hl
  replace ho : out.length + n.toNat ≤ 4096 := ho
  replace hg : goR tMsgR N.toNat (b0, e0) = (out ++ (goR tMsgR n.toNat (b, e)).1, (goR tMsgR n.toNat (b, e)).2) := hg
  obtain ⟨x, b2, e2, ep⟩ : ∃ (x : MsgD) (b2 : List UInt8) (e2 : Int), tMsgR (b, e) = (x, (b2, e2)) := ⟨_, _, _, rfl⟩
  have hl2 : b2.length ≤ 8388609 := by
    have h := tMsgR_rd.len (b, e)
    rw [ep] at h
    exact Nat.le_trans h hl
  have hstop : (n ≤ 0 ∨ ¬ e = 0) → takesR tMsgR s0 = (out, (b, e)) := fun h => by
    rw [eL, hg]
    rcases h with h | h
    · rw [show n.toNat = 0 by omega]; simp [goR]
    · rw [goR_stop _ _ _ h]; simp
  have hnext : 0 < n → e = 0 → goR tMsgR N.toNat (b0, e0) = ((out ++ [x]) ++ (goR tMsgR (n - 1).toNat (b2, e2)).1, (goR tMsgR (n - 1).toNat (b2, e2)).2) := fun hn h => by
    rw [hg, goR_step _ hn h, ep]
    simp
  cases out with
  | nil =>
    conv => arg 2; whnf
    refine okBr (fun hn => ?_) (fun hn => ?_)
    · replace hn : 0 < n := by simpa using hn
      repeat'
        (conv => arg 2; whnf)
        first
        | refine okRd 0 (b, e) (b, e) (.int .i64 e) rdErr_s hl rfl rfl ⟨⟨rfl, rfl⟩, trivial⟩ (Cos.refl _) rfl ?_
        | refine okBoth ?_ ?_
        | refine okBrT ?_
        | refine okBrF ?_
        | refine okBr (fun h => ?_) (fun h => ?_)
        | refine okRd 0 (b, e) (b2, e2) (.agg (cMsg x)) tkMessage_s hl (congrArg Prod.snd ep).symm (congrArg (fun r : MsgD × RS => D.agg (cMsg r.1)) ep).symm ⟨⟨rfl, rfl⟩, trivial⟩ (Cos.refl _) rfl ?_
        | refine okAsk (by constructor <;> (simp only [List.length_cons, List.length_nil]; decide)) ?_
        | refine okWrap (u64i (by show 0 ≤ n - 1; omega) (by show n - 1 < _; omega)) ?_
        | refine okAgain (n - 1, (b2, e2), [x]) (Sv.mk' [0, 1, 4] rfl ⟨⟨rfl, rfl⟩, ⟨rfl, rfl⟩, ⟨rfl, rfl⟩, trivial⟩ ⟨rfl, rfl, rfl, rfl, trivial⟩) ⟨by show 0 ≤ n - 1; omega, by show n - 1 ≤ 4096; omega, hl2, by show ([x]).length + (n - 1).toNat ≤ 4096; simp at ho ⊢; omega, hnext hn (by simpa using h)⟩ (by show (n - 1).toNat < n.toNat; omega)
        | refine okOut ?_
        | refine endRd (d := .list 30 []) (.inr rfl) rfl ⟨⟨rfl, rfl⟩, trivial⟩ rfl (.nil _) (congrArg Prod.snd (hstop (.inr (by simpa using h)))).symm (congrArg (fun r : List MsgD × RS => D.list 30 (r.1.map cMsg)) (hstop (.inr (by simpa using h)))).symm
    · replace hn : n ≤ 0 := by simpa using hn
      repeat'
        (conv => arg 2; whnf)
        first
        | refine okRd 0 (b, e) (b, e) (.int .i64 e) rdErr_s hl rfl rfl ⟨⟨rfl, rfl⟩, trivial⟩ (Cos.refl _) rfl ?_
        | refine okBoth ?_ ?_
        | refine okBrT ?_
        | refine okBrF ?_
        | refine okBr (fun h => ?_) (fun h => ?_)
        | refine okOut ?_
        | refine endRd (d := .list 30 []) (.inr rfl) rfl ⟨⟨rfl, rfl⟩, trivial⟩ rfl (.nil _) (congrArg Prod.snd (hstop (.inl hn))).symm (congrArg (fun r : List MsgD × RS => D.list 30 (r.1.map cMsg)) (hstop (.inl hn))).symm
  | cons y out =>
    conv => arg 2; whnf
    refine okBr (fun hn => ?_) (fun hn => ?_)
    · replace hn : 0 < n := by simpa using hn
      repeat'
        (conv => arg 2; whnf)
        first
        | refine okRd 0 (b, e) (b, e) (.int .i64 e) rdErr_s hl rfl rfl ⟨⟨rfl, rfl⟩, trivial⟩ (Cos.refl _) rfl ?_
        | refine okBoth ?_ ?_
        | refine okBrT ?_
        | refine okBrF ?_
        | refine okBr (fun h => ?_) (fun h => ?_)
        | refine okRd 0 (b, e) (b2, e2) (.agg (cMsg x)) tkMessage_s hl (congrArg Prod.snd ep).symm (congrArg (fun r : MsgD × RS => D.agg (cMsg r.1)) ep).symm ⟨⟨rfl, rfl⟩, trivial⟩ (Cos.refl _) rfl ?_
        | refine okAsk (by constructor <;> (simp only [List.length_cons, List.length_nil, List.length_map, maxLen] at ho ⊢; omega)) ?_
        | refine okWrap (u64i (by show 0 ≤ n - 1; omega) (by show n - 1 < _; omega)) ?_
        | refine okAgain (n - 1, (b2, e2), (y :: out) ++ [x]) (Sv.mk' [0, 1, 5] rfl ⟨⟨rfl, rfl⟩, ⟨rfl, rfl⟩, ⟨rfl, by simp; rfl⟩, trivial⟩ ⟨rfl, rfl, rfl, rfl, trivial⟩) ⟨by show 0 ≤ n - 1; omega, by show n - 1 ≤ 4096; omega, hl2, by show ((y :: out) ++ [x]).length + (n - 1).toNat ≤ 4096; simp at ho ⊢; omega, hnext hn (by simpa using h)⟩ (by show (n - 1).toNat < n.toNat; omega)
        | refine okOut ?_
        | refine endRdF [2] (d := .list 30 ((y :: out).map cMsg)) (.inr rfl) rfl ⟨⟨rfl, rfl⟩, trivial⟩ rfl (.refl _) (congrArg Prod.snd (hstop (.inr (by simpa using h)))).symm (congrArg (fun r : List MsgD × RS => D.list 30 (r.1.map cMsg)) (hstop (.inr (by simpa using h)))).symm
    · replace hn : n ≤ 0 := by simpa using hn
      repeat'
        (conv => arg 2; whnf)
        first
        | refine okRd 0 (b, e) (b, e) (.int .i64 e) rdErr_s hl rfl rfl ⟨⟨rfl, rfl⟩, trivial⟩ (Cos.refl _) rfl ?_
        | refine okBoth ?_ ?_
        | refine okBrT ?_
        | refine okBrF ?_
        | refine okBr (fun h => ?_) (fun h => ?_)
        | refine okOut ?_
        | refine endRdF [2] (d := .list 30 ((y :: out).map cMsg)) (.inr rfl) rfl ⟨⟨rfl, rfl⟩, trivial⟩ rfl (.refl _) (congrArg Prod.snd (hstop (.inl hn))).symm (congrArg (fun r : List MsgD × RS => D.list 30 (r.1.map cMsg)) (hstop (.inl hn))).symm
theorem tkPlaced_s [Wd]  : FnR 170 (.agg [.ptr 0 0]) [] (fun s => .agg (cPlaced (placedR s).1)) (fun s => (placedR s).2) := by
  rintro ⟨b, e⟩ hs
  replace hs : b.length ≤ 8388609 := hs
  obtain ⟨t, b0, e0, q0, l0⟩ := Rd1.get (bytesR_rd 4194304) (b, e)
  replace l0 : b0.length ≤ b.length := l0
  have h0 : b0.length ≤ 8388609 := by omega
  obtain ⟨f, b1, e1, q1, l1⟩ := Rd1.get (nR_rd MX) (b0, e0)
  replace l1 : b1.length ≤ b0.length := l1
  have h1 : b1.length ≤ 8388609 := by omega
  obtain ⟨c, b2, e2, q2, l2⟩ := Rd1.get (bytesR_rd 4194304) (b1, e1)
  replace l2 : b2.length ≤ b1.length := l2
  have h2 : b2.length ≤ 8388609 := by omega
  have hb0 := bytes_in q0
  have eR : placedR (b, e) = (⟨t, f, c⟩, (b2, e2)) := by unfold placedR mapR pairR bindR; simp only [q0, q1, q2]
  refine mkS 15 [] Tryz.func170 rfl (by kernel_rfl) ?_
  repeat'
    (conv => arg 2; whnf)
    first
    | refine okAsk (by kernel_rfl) ?_
    | refine okBoth ?_ ?_
    | refine okBrT ?_
    | refine okBrF ?_
    | refine okRd 0 (b, e) (b0, e0) (.list 1 (t.map cByte)) tkStr_s hs (congrArg Prod.snd q0).symm (congrArg (fun r : List UInt8 × RS => D.list 1 (r.1.map cByte)) q0).symm ⟨⟨rfl, rfl⟩, trivial⟩ (Cos.refl _) rfl ?_
    | refine okRd 0 (b0, e0) (b1, e1) (.int .i64 f) tkNum_s h0 (congrArg Prod.snd q1).symm (congrArg (fun r : Int × RS => D.int .i64 r.1) q1).symm ⟨⟨rfl, rfl⟩, trivial⟩ (Cos.refl _) rfl ?_
    | refine okRd 0 (b1, e1) (b2, e2) (.list 1 (c.map cByte)) tkStr_s h1 (congrArg Prod.snd q2).symm (congrArg (fun r : List UInt8 × RS => D.list 1 (r.1.map cByte)) q2).symm ⟨⟨rfl, rfl⟩, trivial⟩ (Cos.refl _) rfl ?_
    | refine okByts _ rfl ?_
    | refine okAsk (by omega) ?_
    | refine endRd (d := .agg (cPlaced (⟨t, f, c⟩))) (.inr rfl) rfl ⟨⟨rfl, rfl⟩, trivial⟩ rfl (.refl _) (congrArg Prod.snd eR).symm (congrArg (fun r : PlacedD × RS => D.agg (cPlaced r.1)) eR).symm
set_option maxHeartbeats 1000000 in
theorem takesPlaced_s [Wd] : FnR 169 (.agg [.ptr 0 0]) [.fn 170 0 []] (fun s => .list 3 ((takesR placedR s).1.map cPlaced)) (fun s => (takesR placedR s).2) := by
  intro s0 hs
  obtain ⟨N0, b0, e0, en, hN1, hb0⟩ := numR_pair 4096 s0
  obtain ⟨N, hNN⟩ : ∃ N : Int, N = (N0 : Int) := ⟨_, rfl⟩
  have hN0 : 0 ≤ N := by omega
  have hN : N ≤ 4096 := by omega
  have eL : takesR placedR s0 = goR placedR N.toNat (b0, e0) := by unfold takesR; rw [en, hNN, Int.toNat_natCast]
  refine mkS 27 [] Tryz.func169 rfl (by kernel_rfl) ?_
  repeat'
    (conv => arg 2; whnf)
    first
    | refine okAsk (by kernel_rfl) ?_
    | refine okRd 0 s0 (b0, e0) (.int .u64 N) (rdNum_s 4096) hs (congrArg Prod.snd en).symm (by rw [hNN]; exact (congrArg (fun r : Nat × RS => D.int .u64 (r.1 : Int)) en).symm) ⟨⟨rfl, rfl⟩, trivial⟩ (Cos.refl _) rfl ?_
  conv => arg 2; whnf
  refine okLoop (α := Int × RS × List PlacedD) (fun a => match a.2.2 with
    | [] => ⟨[(6, .int .u64 a.1), (5, .nils), (2, .ptr 1 0), (1, .fn 170 0 [])], [.cells 164 [.list 1 (a.2.1.1.map cByte), .int .i64 a.2.1.2, .bool true], .cells 94 [.ptr 0 0]]⟩
    | x :: l => ⟨[(6, .int .u64 a.1), (5, .row 2), (2, .ptr 1 0), (1, .fn 170 0 [])], [.cells 164 [.list 1 (a.2.1.1.map cByte), .int .i64 a.2.1.2, .bool true], .cells 94 [.ptr 0 0], .row 71 3 ((x :: l).map cPlaced)]⟩) (fun a => 0 ≤ a.1 ∧ a.1 ≤ 4096 ∧ a.2.1.1.length ≤ 8388609 ∧ a.2.2.length + a.1.toNat ≤ 4096 ∧ goR placedR N.toNat (b0, e0) = (a.2.2 ++ (goR placedR a.1.toNat a.2.1).1, (goR placedR a.1.toNat a.2.1).2)) (fun a => a.1.toNat) (N, (b0, e0), []) ⟨hN0, by omega, by show b0.length ≤ _; omega, by simp; omega, rfl⟩ (Sv.mk' [0, 1] rfl ⟨⟨rfl, rfl⟩, ⟨rfl, rfl⟩, trivial⟩ ⟨rfl, rfl, rfl, rfl, trivial⟩) ?_
  rintro ⟨n, ⟨b, e⟩, out⟩ ⟨h0, h1, hl, ho, hg⟩
  replace h0 : 0 ≤ n := h0
  replace h1 : n ≤ 4096 := h1
  replace hl : b.length ≤ 8388609 := hl
  replace ho : out.length + n.toNat ≤ 4096 := ho
  replace hg : goR placedR N.toNat (b0, e0) = (out ++ (goR placedR n.toNat (b, e)).1, (goR placedR n.toNat (b, e)).2) := hg
  obtain ⟨x, b2, e2, ep⟩ : ∃ (x : PlacedD) (b2 : List UInt8) (e2 : Int), placedR (b, e) = (x, (b2, e2)) := ⟨_, _, _, rfl⟩
  have hl2 : b2.length ≤ 8388609 := by
    have h := placedR_rd.len (b, e)
    rw [ep] at h
    exact Nat.le_trans h hl
  have hstop : (n ≤ 0 ∨ ¬ e = 0) → takesR placedR s0 = (out, (b, e)) := fun h => by
    rw [eL, hg]
    rcases h with h | h
    · rw [show n.toNat = 0 by omega]; simp [goR]
    · rw [goR_stop _ _ _ h]; simp
  have hnext : 0 < n → e = 0 → goR placedR N.toNat (b0, e0) = ((out ++ [x]) ++ (goR placedR (n - 1).toNat (b2, e2)).1, (goR placedR (n - 1).toNat (b2, e2)).2) := fun hn h => by
    rw [hg, goR_step _ hn h, ep]
    simp
  cases out with
  | nil =>
    conv => arg 2; whnf
    refine okBr (fun hn => ?_) (fun hn => ?_)
    · replace hn : 0 < n := by simpa using hn
      repeat'
        (conv => arg 2; whnf)
        first
        | refine okRd 0 (b, e) (b, e) (.int .i64 e) rdErr_s hl rfl rfl ⟨⟨rfl, rfl⟩, trivial⟩ (Cos.refl _) rfl ?_
        | refine okBoth ?_ ?_
        | refine okBrT ?_
        | refine okBrF ?_
        | refine okBr (fun h => ?_) (fun h => ?_)
        | refine okRd 0 (b, e) (b2, e2) (.agg (cPlaced x)) tkPlaced_s hl (congrArg Prod.snd ep).symm (congrArg (fun r : PlacedD × RS => D.agg (cPlaced r.1)) ep).symm ⟨⟨rfl, rfl⟩, trivial⟩ (Cos.refl _) rfl ?_
        | refine okAsk (by constructor <;> (simp only [List.length_cons, List.length_nil]; decide)) ?_
        | refine okWrap (u64i (by show 0 ≤ n - 1; omega) (by show n - 1 < _; omega)) ?_
        | refine okAgain (n - 1, (b2, e2), [x]) (Sv.mk' [0, 1, 4] rfl ⟨⟨rfl, rfl⟩, ⟨rfl, rfl⟩, ⟨rfl, rfl⟩, trivial⟩ ⟨rfl, rfl, rfl, rfl, trivial⟩) ⟨by show 0 ≤ n - 1; omega, by show n - 1 ≤ 4096; omega, hl2, by show ([x]).length + (n - 1).toNat ≤ 4096; simp at ho ⊢; omega, hnext hn (by simpa using h)⟩ (by show (n - 1).toNat < n.toNat; omega)
        | refine okOut ?_
        | refine endRd (d := .list 3 []) (.inr rfl) rfl ⟨⟨rfl, rfl⟩, trivial⟩ rfl (.nil _) (congrArg Prod.snd (hstop (.inr (by simpa using h)))).symm (congrArg (fun r : List PlacedD × RS => D.list 3 (r.1.map cPlaced)) (hstop (.inr (by simpa using h)))).symm
    · replace hn : n ≤ 0 := by simpa using hn
      repeat'
        (conv => arg 2; whnf)
        first
        | refine okRd 0 (b, e) (b, e) (.int .i64 e) rdErr_s hl rfl rfl ⟨⟨rfl, rfl⟩, trivial⟩ (Cos.refl _) rfl ?_
        | refine okBoth ?_ ?_
        | refine okBrT ?_
        | refine okBrF ?_
        | refine okBr (fun h => ?_) (fun h => ?_)
        | refine okOut ?_
        | refine endRd (d := .list 3 []) (.inr rfl) rfl ⟨⟨rfl, rfl⟩, trivial⟩ rfl (.nil _) (congrArg Prod.snd (hstop (.inl hn))).symm (congrArg (fun r : List PlacedD × RS => D.list 3 (r.1.map cPlaced)) (hstop (.inl hn))).symm
  | cons y out =>
    conv => arg 2; whnf
    refine okBr (fun hn => ?_) (fun hn => ?_)
    · replace hn : 0 < n := by simpa using hn
      repeat'
        (conv => arg 2; whnf)
        first
        | refine okRd 0 (b, e) (b, e) (.int .i64 e) rdErr_s hl rfl rfl ⟨⟨rfl, rfl⟩, trivial⟩ (Cos.refl _) rfl ?_
        | refine okBoth ?_ ?_
        | refine okBrT ?_
        | refine okBrF ?_
        | refine okBr (fun h => ?_) (fun h => ?_)
        | refine okRd 0 (b, e) (b2, e2) (.agg (cPlaced x)) tkPlaced_s hl (congrArg Prod.snd ep).symm (congrArg (fun r : PlacedD × RS => D.agg (cPlaced r.1)) ep).symm ⟨⟨rfl, rfl⟩, trivial⟩ (Cos.refl _) rfl ?_
        | refine okAsk (by constructor <;> (simp only [List.length_cons, List.length_nil, List.length_map, maxLen] at ho ⊢; omega)) ?_
        | refine okWrap (u64i (by show 0 ≤ n - 1; omega) (by show n - 1 < _; omega)) ?_
        | refine okAgain (n - 1, (b2, e2), (y :: out) ++ [x]) (Sv.mk' [0, 1, 5] rfl ⟨⟨rfl, rfl⟩, ⟨rfl, rfl⟩, ⟨rfl, by simp; rfl⟩, trivial⟩ ⟨rfl, rfl, rfl, rfl, trivial⟩) ⟨by show 0 ≤ n - 1; omega, by show n - 1 ≤ 4096; omega, hl2, by show ((y :: out) ++ [x]).length + (n - 1).toNat ≤ 4096; simp at ho ⊢; omega, hnext hn (by simpa using h)⟩ (by show (n - 1).toNat < n.toNat; omega)
        | refine okOut ?_
        | refine endRdF [2] (d := .list 3 ((y :: out).map cPlaced)) (.inr rfl) rfl ⟨⟨rfl, rfl⟩, trivial⟩ rfl (.refl _) (congrArg Prod.snd (hstop (.inr (by simpa using h)))).symm (congrArg (fun r : List PlacedD × RS => D.list 3 (r.1.map cPlaced)) (hstop (.inr (by simpa using h)))).symm
    · replace hn : n ≤ 0 := by simpa using hn
      repeat'
        (conv => arg 2; whnf)
        first
        | refine okRd 0 (b, e) (b, e) (.int .i64 e) rdErr_s hl rfl rfl ⟨⟨rfl, rfl⟩, trivial⟩ (Cos.refl _) rfl ?_
        | refine okBoth ?_ ?_
        | refine okBrT ?_
        | refine okBrF ?_
        | refine okBr (fun h => ?_) (fun h => ?_)
        | refine okOut ?_
        | refine endRdF [2] (d := .list 3 ((y :: out).map cPlaced)) (.inr rfl) rfl ⟨⟨rfl, rfl⟩, trivial⟩ rfl (.refl _) (congrArg Prod.snd (hstop (.inl hn))).symm (congrArg (fun r : List PlacedD × RS => D.list 3 (r.1.map cPlaced)) (hstop (.inl hn))).symm
theorem tkBlock_s [Wd]  : FnR 84 (.agg [.ptr 0 0]) [] (fun s => .agg (cBlock (blockR s).1)) (fun s => (blockR s).2) := by
  rintro ⟨b, e⟩ hs
  replace hs : b.length ≤ 8388609 := hs
  obtain ⟨h, b0, e0, q0, l0⟩ := Rd1.get tHdR_rd (b, e)
  replace l0 : b0.length ≤ b.length := l0
  have h0 : b0.length ≤ 8388609 := by omega
  obtain ⟨t, b1, e1, q1, l1⟩ := Rd1.get batchR_rd (b0, e0)
  replace l1 : b1.length ≤ b0.length := l1
  have h1 : b1.length ≤ 8388609 := by omega
  obtain ⟨l, b2, e2, q2, l2⟩ := Rd1.get (takesR_rd placedR_rd) (b1, e1)
  replace l2 : b2.length ≤ b1.length := l2
  have h2 : b2.length ≤ 8388609 := by omega
  have eR : blockR (b, e) = (⟨h, t, l⟩, (b2, e2)) := by unfold blockR mapR pairR bindR; simp only [q0, q1, q2]
  refine mkS 14 [] Tryz.func84 rfl (by kernel_rfl) ?_
  repeat'
    (conv => arg 2; whnf)
    first
    | refine okAsk (by kernel_rfl) ?_
    | refine okBoth ?_ ?_
    | refine okBrT ?_
    | refine okBrF ?_
    | refine okRd 0 (b, e) (b0, e0) (.agg (cHeader h)) tkHeader_s hs (congrArg Prod.snd q0).symm (congrArg (fun r : HeaderD × RS => D.agg (cHeader r.1)) q0).symm ⟨⟨rfl, rfl⟩, trivial⟩ (Cos.refl _) rfl ?_
    | refine okRd 0 (b0, e0) (b1, e1) (.list 9 (t.map cSigned)) tkBatch_s h0 (congrArg Prod.snd q1).symm (congrArg (fun r : List SignedD × RS => D.list 9 (r.1.map cSigned)) q1).symm ⟨⟨rfl, rfl⟩, trivial⟩ (Cos.refl _) rfl ?_
    | refine okRd 0 (b1, e1) (b2, e2) (.list 3 (l.map cPlaced)) takesPlaced_s h1 (congrArg Prod.snd q2).symm (congrArg (fun r : List PlacedD × RS => D.list 3 (r.1.map cPlaced)) q2).symm ⟨⟨rfl, rfl⟩, trivial⟩ (Cos.refl _) rfl ?_
    | refine endRd (d := .agg (cBlock (⟨h, t, l⟩))) (.inr rfl) rfl ⟨⟨rfl, rfl⟩, trivial⟩ rfl (.refl _) (congrArg Prod.snd eR).symm (congrArg (fun r : BlockD × RS => D.agg (cBlock r.1)) eR).symm
set_option maxHeartbeats 1000000 in
theorem takesBlock_s [Wd] : FnR 83 (.agg [.ptr 0 0]) [.fn 84 0 []] (fun s => .list 7 ((takesR blockR s).1.map cBlock)) (fun s => (takesR blockR s).2) := by
  intro s0 hs
  obtain ⟨N0, b0, e0, en, hN1, hb0⟩ := numR_pair 4096 s0
  obtain ⟨N, hNN⟩ : ∃ N : Int, N = (N0 : Int) := ⟨_, rfl⟩
  have hN0 : 0 ≤ N := by omega
  have hN : N ≤ 4096 := by omega
  have eL : takesR blockR s0 = goR blockR N.toNat (b0, e0) := by unfold takesR; rw [en, hNN, Int.toNat_natCast]
  refine mkS 27 [] Tryz.func83 rfl (by kernel_rfl) ?_
  repeat'
    (conv => arg 2; whnf)
    first
    | refine okAsk (by kernel_rfl) ?_
    | refine okRd 0 s0 (b0, e0) (.int .u64 N) (rdNum_s 4096) hs (congrArg Prod.snd en).symm (by rw [hNN]; exact (congrArg (fun r : Nat × RS => D.int .u64 (r.1 : Int)) en).symm) ⟨⟨rfl, rfl⟩, trivial⟩ (Cos.refl _) rfl ?_
  conv => arg 2; whnf
  refine okLoop (α := Int × RS × List BlockD) (fun a => match a.2.2 with
    | [] => ⟨[(6, .int .u64 a.1), (5, .nils), (2, .ptr 1 0), (1, .fn 84 0 [])], [.cells 164 [.list 1 (a.2.1.1.map cByte), .int .i64 a.2.1.2, .bool true], .cells 94 [.ptr 0 0]]⟩
    | x :: l => ⟨[(6, .int .u64 a.1), (5, .row 2), (2, .ptr 1 0), (1, .fn 84 0 [])], [.cells 164 [.list 1 (a.2.1.1.map cByte), .int .i64 a.2.1.2, .bool true], .cells 94 [.ptr 0 0], .row 68 7 ((x :: l).map cBlock)]⟩) (fun a => 0 ≤ a.1 ∧ a.1 ≤ 4096 ∧ a.2.1.1.length ≤ 8388609 ∧ a.2.2.length + a.1.toNat ≤ 4096 ∧ goR blockR N.toNat (b0, e0) = (a.2.2 ++ (goR blockR a.1.toNat a.2.1).1, (goR blockR a.1.toNat a.2.1).2)) (fun a => a.1.toNat) (N, (b0, e0), []) ⟨hN0, by omega, by show b0.length ≤ _; omega, by simp; omega, rfl⟩ (Sv.mk' [0, 1] rfl ⟨⟨rfl, rfl⟩, ⟨rfl, rfl⟩, trivial⟩ ⟨rfl, rfl, rfl, rfl, trivial⟩) ?_
  rintro ⟨n, ⟨b, e⟩, out⟩ ⟨h0, h1, hl, ho, hg⟩
  replace h0 : 0 ≤ n := h0
  replace h1 : n ≤ 4096 := h1
  replace hl : b.length ≤ 8388609 := hl
  replace ho : out.length + n.toNat ≤ 4096 := ho
  replace hg : goR blockR N.toNat (b0, e0) = (out ++ (goR blockR n.toNat (b, e)).1, (goR blockR n.toNat (b, e)).2) := hg
  obtain ⟨x, b2, e2, ep⟩ : ∃ (x : BlockD) (b2 : List UInt8) (e2 : Int), blockR (b, e) = (x, (b2, e2)) := ⟨_, _, _, rfl⟩
  have hl2 : b2.length ≤ 8388609 := by
    have h := blockR_rd.len (b, e)
    rw [ep] at h
    exact Nat.le_trans h hl
  have hstop : (n ≤ 0 ∨ ¬ e = 0) → takesR blockR s0 = (out, (b, e)) := fun h => by
    rw [eL, hg]
    rcases h with h | h
    · rw [show n.toNat = 0 by omega]; simp [goR]
    · rw [goR_stop _ _ _ h]; simp
  have hnext : 0 < n → e = 0 → goR blockR N.toNat (b0, e0) = ((out ++ [x]) ++ (goR blockR (n - 1).toNat (b2, e2)).1, (goR blockR (n - 1).toNat (b2, e2)).2) := fun hn h => by
    rw [hg, goR_step _ hn h, ep]
    simp
  cases out with
  | nil =>
    conv => arg 2; whnf
    refine okBr (fun hn => ?_) (fun hn => ?_)
    · replace hn : 0 < n := by simpa using hn
      repeat'
        (conv => arg 2; whnf)
        first
        | refine okRd 0 (b, e) (b, e) (.int .i64 e) rdErr_s hl rfl rfl ⟨⟨rfl, rfl⟩, trivial⟩ (Cos.refl _) rfl ?_
        | refine okBoth ?_ ?_
        | refine okBrT ?_
        | refine okBrF ?_
        | refine okBr (fun h => ?_) (fun h => ?_)
        | refine okRd 0 (b, e) (b2, e2) (.agg (cBlock x)) tkBlock_s hl (congrArg Prod.snd ep).symm (congrArg (fun r : BlockD × RS => D.agg (cBlock r.1)) ep).symm ⟨⟨rfl, rfl⟩, trivial⟩ (Cos.refl _) rfl ?_
        | refine okAsk (by constructor <;> (simp only [List.length_cons, List.length_nil]; decide)) ?_
        | refine okWrap (u64i (by show 0 ≤ n - 1; omega) (by show n - 1 < _; omega)) ?_
        | refine okAgain (n - 1, (b2, e2), [x]) (Sv.mk' [0, 1, 4] rfl ⟨⟨rfl, rfl⟩, ⟨rfl, rfl⟩, ⟨rfl, rfl⟩, trivial⟩ ⟨rfl, rfl, rfl, rfl, trivial⟩) ⟨by show 0 ≤ n - 1; omega, by show n - 1 ≤ 4096; omega, hl2, by show ([x]).length + (n - 1).toNat ≤ 4096; simp at ho ⊢; omega, hnext hn (by simpa using h)⟩ (by show (n - 1).toNat < n.toNat; omega)
        | refine okOut ?_
        | refine endRd (d := .list 7 []) (.inr rfl) rfl ⟨⟨rfl, rfl⟩, trivial⟩ rfl (.nil _) (congrArg Prod.snd (hstop (.inr (by simpa using h)))).symm (congrArg (fun r : List BlockD × RS => D.list 7 (r.1.map cBlock)) (hstop (.inr (by simpa using h)))).symm
    · replace hn : n ≤ 0 := by simpa using hn
      repeat'
        (conv => arg 2; whnf)
        first
        | refine okRd 0 (b, e) (b, e) (.int .i64 e) rdErr_s hl rfl rfl ⟨⟨rfl, rfl⟩, trivial⟩ (Cos.refl _) rfl ?_
        | refine okBoth ?_ ?_
        | refine okBrT ?_
        | refine okBrF ?_
        | refine okBr (fun h => ?_) (fun h => ?_)
        | refine okOut ?_
        | refine endRd (d := .list 7 []) (.inr rfl) rfl ⟨⟨rfl, rfl⟩, trivial⟩ rfl (.nil _) (congrArg Prod.snd (hstop (.inl hn))).symm (congrArg (fun r : List BlockD × RS => D.list 7 (r.1.map cBlock)) (hstop (.inl hn))).symm
  | cons y out =>
    conv => arg 2; whnf
    refine okBr (fun hn => ?_) (fun hn => ?_)
    · replace hn : 0 < n := by simpa using hn
      repeat'
        (conv => arg 2; whnf)
        first
        | refine okRd 0 (b, e) (b, e) (.int .i64 e) rdErr_s hl rfl rfl ⟨⟨rfl, rfl⟩, trivial⟩ (Cos.refl _) rfl ?_
        | refine okBoth ?_ ?_
        | refine okBrT ?_
        | refine okBrF ?_
        | refine okBr (fun h => ?_) (fun h => ?_)
        | refine okRd 0 (b, e) (b2, e2) (.agg (cBlock x)) tkBlock_s hl (congrArg Prod.snd ep).symm (congrArg (fun r : BlockD × RS => D.agg (cBlock r.1)) ep).symm ⟨⟨rfl, rfl⟩, trivial⟩ (Cos.refl _) rfl ?_
        | refine okAsk (by constructor <;> (simp only [List.length_cons, List.length_nil, List.length_map, maxLen] at ho ⊢; omega)) ?_
        | refine okWrap (u64i (by show 0 ≤ n - 1; omega) (by show n - 1 < _; omega)) ?_
        | refine okAgain (n - 1, (b2, e2), (y :: out) ++ [x]) (Sv.mk' [0, 1, 5] rfl ⟨⟨rfl, rfl⟩, ⟨rfl, rfl⟩, ⟨rfl, by simp; rfl⟩, trivial⟩ ⟨rfl, rfl, rfl, rfl, trivial⟩) ⟨by show 0 ≤ n - 1; omega, by show n - 1 ≤ 4096; omega, hl2, by show ((y :: out) ++ [x]).length + (n - 1).toNat ≤ 4096; simp at ho ⊢; omega, hnext hn (by simpa using h)⟩ (by show (n - 1).toNat < n.toNat; omega)
        | refine okOut ?_
        | refine endRdF [2] (d := .list 7 ((y :: out).map cBlock)) (.inr rfl) rfl ⟨⟨rfl, rfl⟩, trivial⟩ rfl (.refl _) (congrArg Prod.snd (hstop (.inr (by simpa using h)))).symm (congrArg (fun r : List BlockD × RS => D.list 7 (r.1.map cBlock)) (hstop (.inr (by simpa using h)))).symm
    · replace hn : n ≤ 0 := by simpa using hn
      repeat'
        (conv => arg 2; whnf)
        first
        | refine okRd 0 (b, e) (b, e) (.int .i64 e) rdErr_s hl rfl rfl ⟨⟨rfl, rfl⟩, trivial⟩ (Cos.refl _) rfl ?_
        | refine okBoth ?_ ?_
        | refine okBrT ?_
        | refine okBrF ?_
        | refine okBr (fun h => ?_) (fun h => ?_)
        | refine okOut ?_
        | refine endRdF [2] (d := .list 7 ((y :: out).map cBlock)) (.inr rfl) rfl ⟨⟨rfl, rfl⟩, trivial⟩ rfl (.refl _) (congrArg Prod.snd (hstop (.inl hn))).symm (congrArg (fun r : List BlockD × RS => D.list 7 (r.1.map cBlock)) (hstop (.inl hn))).symm
theorem tkVote_s [Wd]  : FnR 88 (.agg [.ptr 0 0]) [] (fun s => .agg (cVote (voteR s).1)) (fun s => (voteR s).2) := by
  rintro ⟨b, e⟩ hs
  replace hs : b.length ≤ 8388609 := hs
  obtain ⟨n, b0, e0, q0, l0⟩ := Rd1.get (nR_rd MX) (b, e)
  replace l0 : b0.length ≤ b.length := l0
  have h0 : b0.length ≤ 8388609 := by omega
  obtain ⟨d, b1, e1, q1, l1⟩ := Rd1.get (nR_rd MX) (b0, e0)
  replace l1 : b1.length ≤ b0.length := l1
  have h1 : b1.length ≤ 8388609 := by omega
  obtain ⟨g, b2, e2, q2, l2⟩ := Rd1.get signR_rd (b1, e1)
  replace l2 : b2.length ≤ b1.length := l2
  have h2 : b2.length ≤ 8388609 := by omega
  have eR : voteR (b, e) = (⟨n, d, g⟩, (b2, e2)) := by unfold voteR mapR pairR bindR; simp only [q0, q1, q2]
  refine mkS 14 [] Tryz.func88 rfl (by kernel_rfl) ?_
  repeat'
    (conv => arg 2; whnf)
    first
    | refine okAsk (by kernel_rfl) ?_
    | refine okBoth ?_ ?_
    | refine okBrT ?_
    | refine okBrF ?_
    | refine okRd 0 (b, e) (b0, e0) (.int .i64 n) tkNum_s hs (congrArg Prod.snd q0).symm (congrArg (fun r : Int × RS => D.int .i64 r.1) q0).symm ⟨⟨rfl, rfl⟩, trivial⟩ (Cos.refl _) rfl ?_
    | refine okRd 0 (b0, e0) (b1, e1) (.int .i64 d) tkDigest_s h0 (congrArg Prod.snd q1).symm (congrArg (fun r : Int × RS => D.int .i64 r.1) q1).symm ⟨⟨rfl, rfl⟩, trivial⟩ (Cos.refl _) rfl ?_
    | refine okRd 0 (b1, e1) (b2, e2) (.agg (cSign g)) tkSign_s h1 (congrArg Prod.snd q2).symm (congrArg (fun r : SignD × RS => D.agg (cSign r.1)) q2).symm ⟨⟨rfl, rfl⟩, trivial⟩ (Cos.refl _) rfl ?_
    | refine endRd (d := .agg (cVote (⟨n, d, g⟩))) (.inr rfl) rfl ⟨⟨rfl, rfl⟩, trivial⟩ rfl (.refl _) (congrArg Prod.snd eR).symm (congrArg (fun r : VoteD × RS => D.agg (cVote r.1)) eR).symm
set_option maxHeartbeats 1000000 in
theorem takesVote_s [Wd] : FnR 87 (.agg [.ptr 0 0]) [.fn 88 0 []] (fun s => .list 4 ((takesR voteR s).1.map cVote)) (fun s => (takesR voteR s).2) := by
  intro s0 hs
  obtain ⟨N0, b0, e0, en, hN1, hb0⟩ := numR_pair 4096 s0
  obtain ⟨N, hNN⟩ : ∃ N : Int, N = (N0 : Int) := ⟨_, rfl⟩
  have hN0 : 0 ≤ N := by omega
  have hN : N ≤ 4096 := by omega
  have eL : takesR voteR s0 = goR voteR N.toNat (b0, e0) := by unfold takesR; rw [en, hNN, Int.toNat_natCast]
  refine mkS 27 [] Tryz.func87 rfl (by kernel_rfl) ?_
  repeat'
    (conv => arg 2; whnf)
    first
    | refine okAsk (by kernel_rfl) ?_
    | refine okRd 0 s0 (b0, e0) (.int .u64 N) (rdNum_s 4096) hs (congrArg Prod.snd en).symm (by rw [hNN]; exact (congrArg (fun r : Nat × RS => D.int .u64 (r.1 : Int)) en).symm) ⟨⟨rfl, rfl⟩, trivial⟩ (Cos.refl _) rfl ?_
  conv => arg 2; whnf
  refine okLoop (α := Int × RS × List VoteD) (fun a => match a.2.2 with
    | [] => ⟨[(6, .int .u64 a.1), (5, .nils), (2, .ptr 1 0), (1, .fn 88 0 [])], [.cells 164 [.list 1 (a.2.1.1.map cByte), .int .i64 a.2.1.2, .bool true], .cells 94 [.ptr 0 0]]⟩
    | x :: l => ⟨[(6, .int .u64 a.1), (5, .row 2), (2, .ptr 1 0), (1, .fn 88 0 [])], [.cells 164 [.list 1 (a.2.1.1.map cByte), .int .i64 a.2.1.2, .bool true], .cells 94 [.ptr 0 0], .row 86 4 ((x :: l).map cVote)]⟩) (fun a => 0 ≤ a.1 ∧ a.1 ≤ 4096 ∧ a.2.1.1.length ≤ 8388609 ∧ a.2.2.length + a.1.toNat ≤ 4096 ∧ goR voteR N.toNat (b0, e0) = (a.2.2 ++ (goR voteR a.1.toNat a.2.1).1, (goR voteR a.1.toNat a.2.1).2)) (fun a => a.1.toNat) (N, (b0, e0), []) ⟨hN0, by omega, by show b0.length ≤ _; omega, by simp; omega, rfl⟩ (Sv.mk' [0, 1] rfl ⟨⟨rfl, rfl⟩, ⟨rfl, rfl⟩, trivial⟩ ⟨rfl, rfl, rfl, rfl, trivial⟩) ?_
  rintro ⟨n, ⟨b, e⟩, out⟩ ⟨h0, h1, hl, ho, hg⟩
  replace h0 : 0 ≤ n := h0
  replace h1 : n ≤ 4096 := h1
  replace hl : b.length ≤ 8388609 := hl
  replace ho : out.length + n.toNat ≤ 4096 := ho
  replace hg : goR voteR N.toNat (b0, e0) = (out ++ (goR voteR n.toNat (b, e)).1, (goR voteR n.toNat (b, e)).2) := hg
  obtain ⟨x, b2, e2, ep⟩ : ∃ (x : VoteD) (b2 : List UInt8) (e2 : Int), voteR (b, e) = (x, (b2, e2)) := ⟨_, _, _, rfl⟩
  have hl2 : b2.length ≤ 8388609 := by
    have h := voteR_rd.len (b, e)
    rw [ep] at h
    exact Nat.le_trans h hl
  have hstop : (n ≤ 0 ∨ ¬ e = 0) → takesR voteR s0 = (out, (b, e)) := fun h => by
    rw [eL, hg]
    rcases h with h | h
    · rw [show n.toNat = 0 by omega]; simp [goR]
    · rw [goR_stop _ _ _ h]; simp
  have hnext : 0 < n → e = 0 → goR voteR N.toNat (b0, e0) = ((out ++ [x]) ++ (goR voteR (n - 1).toNat (b2, e2)).1, (goR voteR (n - 1).toNat (b2, e2)).2) := fun hn h => by
    rw [hg, goR_step _ hn h, ep]
    simp
  cases out with
  | nil =>
    conv => arg 2; whnf
    refine okBr (fun hn => ?_) (fun hn => ?_)
    · replace hn : 0 < n := by simpa using hn
      repeat'
        (conv => arg 2; whnf)
        first
        | refine okRd 0 (b, e) (b, e) (.int .i64 e) rdErr_s hl rfl rfl ⟨⟨rfl, rfl⟩, trivial⟩ (Cos.refl _) rfl ?_
        | refine okBoth ?_ ?_
        | refine okBrT ?_
        | refine okBrF ?_
        | refine okBr (fun h => ?_) (fun h => ?_)
        | refine okRd 0 (b, e) (b2, e2) (.agg (cVote x)) tkVote_s hl (congrArg Prod.snd ep).symm (congrArg (fun r : VoteD × RS => D.agg (cVote r.1)) ep).symm ⟨⟨rfl, rfl⟩, trivial⟩ (Cos.refl _) rfl ?_
        | refine okAsk (by constructor <;> (simp only [List.length_cons, List.length_nil]; decide)) ?_
        | refine okWrap (u64i (by show 0 ≤ n - 1; omega) (by show n - 1 < _; omega)) ?_
        | refine okAgain (n - 1, (b2, e2), [x]) (Sv.mk' [0, 1, 4] rfl ⟨⟨rfl, rfl⟩, ⟨rfl, rfl⟩, ⟨rfl, rfl⟩, trivial⟩ ⟨rfl, rfl, rfl, rfl, trivial⟩) ⟨by show 0 ≤ n - 1; omega, by show n - 1 ≤ 4096; omega, hl2, by show ([x]).length + (n - 1).toNat ≤ 4096; simp at ho ⊢; omega, hnext hn (by simpa using h)⟩ (by show (n - 1).toNat < n.toNat; omega)
        | refine okOut ?_
        | refine endRd (d := .list 4 []) (.inr rfl) rfl ⟨⟨rfl, rfl⟩, trivial⟩ rfl (.nil _) (congrArg Prod.snd (hstop (.inr (by simpa using h)))).symm (congrArg (fun r : List VoteD × RS => D.list 4 (r.1.map cVote)) (hstop (.inr (by simpa using h)))).symm
    · replace hn : n ≤ 0 := by simpa using hn
      repeat'
        (conv => arg 2; whnf)
        first
        | refine okRd 0 (b, e) (b, e) (.int .i64 e) rdErr_s hl rfl rfl ⟨⟨rfl, rfl⟩, trivial⟩ (Cos.refl _) rfl ?_
        | refine okBoth ?_ ?_
        | refine okBrT ?_
        | refine okBrF ?_
        | refine okBr (fun h => ?_) (fun h => ?_)
        | refine okOut ?_
        | refine endRd (d := .list 4 []) (.inr rfl) rfl ⟨⟨rfl, rfl⟩, trivial⟩ rfl (.nil _) (congrArg Prod.snd (hstop (.inl hn))).symm (congrArg (fun r : List VoteD × RS => D.list 4 (r.1.map cVote)) (hstop (.inl hn))).symm
  | cons y out =>
    conv => arg 2; whnf
    refine okBr (fun hn => ?_) (fun hn => ?_)
    · replace hn : 0 < n := by simpa using hn
      repeat'
        (conv => arg 2; whnf)
        first
        | refine okRd 0 (b, e) (b, e) (.int .i64 e) rdErr_s hl rfl rfl ⟨⟨rfl, rfl⟩, trivial⟩ (Cos.refl _) rfl ?_
        | refine okBoth ?_ ?_
        | refine okBrT ?_
        | refine okBrF ?_
        | refine okBr (fun h => ?_) (fun h => ?_)
        | refine okRd 0 (b, e) (b2, e2) (.agg (cVote x)) tkVote_s hl (congrArg Prod.snd ep).symm (congrArg (fun r : VoteD × RS => D.agg (cVote r.1)) ep).symm ⟨⟨rfl, rfl⟩, trivial⟩ (Cos.refl _) rfl ?_
        | refine okAsk (by constructor <;> (simp only [List.length_cons, List.length_nil, List.length_map, maxLen] at ho ⊢; omega)) ?_
        | refine okWrap (u64i (by show 0 ≤ n - 1; omega) (by show n - 1 < _; omega)) ?_
        | refine okAgain (n - 1, (b2, e2), (y :: out) ++ [x]) (Sv.mk' [0, 1, 5] rfl ⟨⟨rfl, rfl⟩, ⟨rfl, rfl⟩, ⟨rfl, by simp; rfl⟩, trivial⟩ ⟨rfl, rfl, rfl, rfl, trivial⟩) ⟨by show 0 ≤ n - 1; omega, by show n - 1 ≤ 4096; omega, hl2, by show ((y :: out) ++ [x]).length + (n - 1).toNat ≤ 4096; simp at ho ⊢; omega, hnext hn (by simpa using h)⟩ (by show (n - 1).toNat < n.toNat; omega)
        | refine okOut ?_
        | refine endRdF [2] (d := .list 4 ((y :: out).map cVote)) (.inr rfl) rfl ⟨⟨rfl, rfl⟩, trivial⟩ rfl (.refl _) (congrArg Prod.snd (hstop (.inr (by simpa using h)))).symm (congrArg (fun r : List VoteD × RS => D.list 4 (r.1.map cVote)) (hstop (.inr (by simpa using h)))).symm
    · replace hn : n ≤ 0 := by simpa using hn
      repeat'
        (conv => arg 2; whnf)
        first
        | refine okRd 0 (b, e) (b, e) (.int .i64 e) rdErr_s hl rfl rfl ⟨⟨rfl, rfl⟩, trivial⟩ (Cos.refl _) rfl ?_
        | refine okBoth ?_ ?_
        | refine okBrT ?_
        | refine okBrF ?_
        | refine okBr (fun h => ?_) (fun h => ?_)
        | refine okOut ?_
        | refine endRdF [2] (d := .list 4 ((y :: out).map cVote)) (.inr rfl) rfl ⟨⟨rfl, rfl⟩, trivial⟩ rfl (.refl _) (congrArg Prod.snd (hstop (.inl hn))).symm (congrArg (fun r : List VoteD × RS => D.list 4 (r.1.map cVote)) (hstop (.inl hn))).symm
theorem tkVoteOf_s [Wd]  : FnR 177 (.agg [.ptr 0 0]) [] (fun s => .agg (cVoteOf (voteOfR s).1)) (fun s => (voteOfR s).2) := by
  rintro ⟨b, e⟩ hs
  replace hs : b.length ≤ 8388609 := hs
  obtain ⟨d, b0, e0, q0, l0⟩ := Rd1.get (nR_rd MX) (b, e)
  replace l0 : b0.length ≤ b.length := l0
  have h0 : b0.length ≤ 8388609 := by omega
  obtain ⟨g, b1, e1, q1, l1⟩ := Rd1.get signR_rd (b0, e0)
  replace l1 : b1.length ≤ b0.length := l1
  have h1 : b1.length ≤ 8388609 := by omega
  have eR : voteOfR (b, e) = (⟨d, g⟩, (b1, e1)) := by unfold voteOfR mapR pairR bindR; simp only [q0, q1]
  refine mkS 11 [] Tryz.func177 rfl (by kernel_rfl) ?_
  repeat'
    (conv => arg 2; whnf)
    first
    | refine okAsk (by kernel_rfl) ?_
    | refine okBoth ?_ ?_
    | refine okBrT ?_
    | refine okBrF ?_
    | refine okRd 0 (b, e) (b0, e0) (.int .i64 d) tkDigest_s hs (congrArg Prod.snd q0).symm (congrArg (fun r : Int × RS => D.int .i64 r.1) q0).symm ⟨⟨rfl, rfl⟩, trivial⟩ (Cos.refl _) rfl ?_
    | refine okRd 0 (b0, e0) (b1, e1) (.agg (cSign g)) tkSign_s h0 (congrArg Prod.snd q1).symm (congrArg (fun r : SignD × RS => D.agg (cSign r.1)) q1).symm ⟨⟨rfl, rfl⟩, trivial⟩ (Cos.refl _) rfl ?_
    | refine endRd (d := .agg (cVoteOf (⟨d, g⟩))) (.inr rfl) rfl ⟨⟨rfl, rfl⟩, trivial⟩ rfl (.refl _) (congrArg Prod.snd eR).symm (congrArg (fun r : VoteOfD × RS => D.agg (cVoteOf r.1)) eR).symm
set_option maxHeartbeats 1000000 in
theorem takesVoteOf_s [Wd] : FnR 176 (.agg [.ptr 0 0]) [.fn 177 0 []] (fun s => .list 3 ((takesR voteOfR s).1.map cVoteOf)) (fun s => (takesR voteOfR s).2) := by
  intro s0 hs
  obtain ⟨N0, b0, e0, en, hN1, hb0⟩ := numR_pair 4096 s0
  obtain ⟨N, hNN⟩ : ∃ N : Int, N = (N0 : Int) := ⟨_, rfl⟩
  have hN0 : 0 ≤ N := by omega
  have hN : N ≤ 4096 := by omega
  have eL : takesR voteOfR s0 = goR voteOfR N.toNat (b0, e0) := by unfold takesR; rw [en, hNN, Int.toNat_natCast]
  refine mkS 27 [] Tryz.func176 rfl (by kernel_rfl) ?_
  repeat'
    (conv => arg 2; whnf)
    first
    | refine okAsk (by kernel_rfl) ?_
    | refine okRd 0 s0 (b0, e0) (.int .u64 N) (rdNum_s 4096) hs (congrArg Prod.snd en).symm (by rw [hNN]; exact (congrArg (fun r : Nat × RS => D.int .u64 (r.1 : Int)) en).symm) ⟨⟨rfl, rfl⟩, trivial⟩ (Cos.refl _) rfl ?_
  conv => arg 2; whnf
  refine okLoop (α := Int × RS × List VoteOfD) (fun a => match a.2.2 with
    | [] => ⟨[(6, .int .u64 a.1), (5, .nils), (2, .ptr 1 0), (1, .fn 177 0 [])], [.cells 164 [.list 1 (a.2.1.1.map cByte), .int .i64 a.2.1.2, .bool true], .cells 94 [.ptr 0 0]]⟩
    | x :: l => ⟨[(6, .int .u64 a.1), (5, .row 2), (2, .ptr 1 0), (1, .fn 177 0 [])], [.cells 164 [.list 1 (a.2.1.1.map cByte), .int .i64 a.2.1.2, .bool true], .cells 94 [.ptr 0 0], .row 65 3 ((x :: l).map cVoteOf)]⟩) (fun a => 0 ≤ a.1 ∧ a.1 ≤ 4096 ∧ a.2.1.1.length ≤ 8388609 ∧ a.2.2.length + a.1.toNat ≤ 4096 ∧ goR voteOfR N.toNat (b0, e0) = (a.2.2 ++ (goR voteOfR a.1.toNat a.2.1).1, (goR voteOfR a.1.toNat a.2.1).2)) (fun a => a.1.toNat) (N, (b0, e0), []) ⟨hN0, by omega, by show b0.length ≤ _; omega, by simp; omega, rfl⟩ (Sv.mk' [0, 1] rfl ⟨⟨rfl, rfl⟩, ⟨rfl, rfl⟩, trivial⟩ ⟨rfl, rfl, rfl, rfl, trivial⟩) ?_
  rintro ⟨n, ⟨b, e⟩, out⟩ ⟨h0, h1, hl, ho, hg⟩
  replace h0 : 0 ≤ n := h0
  replace h1 : n ≤ 4096 := h1
  replace hl : b.length ≤ 8388609 := hl
  replace ho : out.length + n.toNat ≤ 4096 := ho
  replace hg : goR voteOfR N.toNat (b0, e0) = (out ++ (goR voteOfR n.toNat (b, e)).1, (goR voteOfR n.toNat (b, e)).2) := hg
  obtain ⟨x, b2, e2, ep⟩ : ∃ (x : VoteOfD) (b2 : List UInt8) (e2 : Int), voteOfR (b, e) = (x, (b2, e2)) := ⟨_, _, _, rfl⟩
  have hl2 : b2.length ≤ 8388609 := by
    have h := voteOfR_rd.len (b, e)
    rw [ep] at h
    exact Nat.le_trans h hl
  have hstop : (n ≤ 0 ∨ ¬ e = 0) → takesR voteOfR s0 = (out, (b, e)) := fun h => by
    rw [eL, hg]
    rcases h with h | h
    · rw [show n.toNat = 0 by omega]; simp [goR]
    · rw [goR_stop _ _ _ h]; simp
  have hnext : 0 < n → e = 0 → goR voteOfR N.toNat (b0, e0) = ((out ++ [x]) ++ (goR voteOfR (n - 1).toNat (b2, e2)).1, (goR voteOfR (n - 1).toNat (b2, e2)).2) := fun hn h => by
    rw [hg, goR_step _ hn h, ep]
    simp
  cases out with
  | nil =>
    conv => arg 2; whnf
    refine okBr (fun hn => ?_) (fun hn => ?_)
    · replace hn : 0 < n := by simpa using hn
      repeat'
        (conv => arg 2; whnf)
        first
        | refine okRd 0 (b, e) (b, e) (.int .i64 e) rdErr_s hl rfl rfl ⟨⟨rfl, rfl⟩, trivial⟩ (Cos.refl _) rfl ?_
        | refine okBoth ?_ ?_
        | refine okBrT ?_
        | refine okBrF ?_
        | refine okBr (fun h => ?_) (fun h => ?_)
        | refine okRd 0 (b, e) (b2, e2) (.agg (cVoteOf x)) tkVoteOf_s hl (congrArg Prod.snd ep).symm (congrArg (fun r : VoteOfD × RS => D.agg (cVoteOf r.1)) ep).symm ⟨⟨rfl, rfl⟩, trivial⟩ (Cos.refl _) rfl ?_
        | refine okAsk (by constructor <;> (simp only [List.length_cons, List.length_nil]; decide)) ?_
        | refine okWrap (u64i (by show 0 ≤ n - 1; omega) (by show n - 1 < _; omega)) ?_
        | refine okAgain (n - 1, (b2, e2), [x]) (Sv.mk' [0, 1, 4] rfl ⟨⟨rfl, rfl⟩, ⟨rfl, rfl⟩, ⟨rfl, rfl⟩, trivial⟩ ⟨rfl, rfl, rfl, rfl, trivial⟩) ⟨by show 0 ≤ n - 1; omega, by show n - 1 ≤ 4096; omega, hl2, by show ([x]).length + (n - 1).toNat ≤ 4096; simp at ho ⊢; omega, hnext hn (by simpa using h)⟩ (by show (n - 1).toNat < n.toNat; omega)
        | refine okOut ?_
        | refine endRd (d := .list 3 []) (.inr rfl) rfl ⟨⟨rfl, rfl⟩, trivial⟩ rfl (.nil _) (congrArg Prod.snd (hstop (.inr (by simpa using h)))).symm (congrArg (fun r : List VoteOfD × RS => D.list 3 (r.1.map cVoteOf)) (hstop (.inr (by simpa using h)))).symm
    · replace hn : n ≤ 0 := by simpa using hn
      repeat'
        (conv => arg 2; whnf)
        first
        | refine okRd 0 (b, e) (b, e) (.int .i64 e) rdErr_s hl rfl rfl ⟨⟨rfl, rfl⟩, trivial⟩ (Cos.refl _) rfl ?_
        | refine okBoth ?_ ?_
        | refine okBrT ?_
        | refine okBrF ?_
        | refine okBr (fun h => ?_) (fun h => ?_)
        | refine okOut ?_
        | refine endRd (d := .list 3 []) (.inr rfl) rfl ⟨⟨rfl, rfl⟩, trivial⟩ rfl (.nil _) (congrArg Prod.snd (hstop (.inl hn))).symm (congrArg (fun r : List VoteOfD × RS => D.list 3 (r.1.map cVoteOf)) (hstop (.inl hn))).symm
  | cons y out =>
    conv => arg 2; whnf
    refine okBr (fun hn => ?_) (fun hn => ?_)
    · replace hn : 0 < n := by simpa using hn
      repeat'
        (conv => arg 2; whnf)
        first
        | refine okRd 0 (b, e) (b, e) (.int .i64 e) rdErr_s hl rfl rfl ⟨⟨rfl, rfl⟩, trivial⟩ (Cos.refl _) rfl ?_
        | refine okBoth ?_ ?_
        | refine okBrT ?_
        | refine okBrF ?_
        | refine okBr (fun h => ?_) (fun h => ?_)
        | refine okRd 0 (b, e) (b2, e2) (.agg (cVoteOf x)) tkVoteOf_s hl (congrArg Prod.snd ep).symm (congrArg (fun r : VoteOfD × RS => D.agg (cVoteOf r.1)) ep).symm ⟨⟨rfl, rfl⟩, trivial⟩ (Cos.refl _) rfl ?_
        | refine okAsk (by constructor <;> (simp only [List.length_cons, List.length_nil, List.length_map, maxLen] at ho ⊢; omega)) ?_
        | refine okWrap (u64i (by show 0 ≤ n - 1; omega) (by show n - 1 < _; omega)) ?_
        | refine okAgain (n - 1, (b2, e2), (y :: out) ++ [x]) (Sv.mk' [0, 1, 5] rfl ⟨⟨rfl, rfl⟩, ⟨rfl, rfl⟩, ⟨rfl, by simp; rfl⟩, trivial⟩ ⟨rfl, rfl, rfl, rfl, trivial⟩) ⟨by show 0 ≤ n - 1; omega, by show n - 1 ≤ 4096; omega, hl2, by show ((y :: out) ++ [x]).length + (n - 1).toNat ≤ 4096; simp at ho ⊢; omega, hnext hn (by simpa using h)⟩ (by show (n - 1).toNat < n.toNat; omega)
        | refine okOut ?_
        | refine endRdF [2] (d := .list 3 ((y :: out).map cVoteOf)) (.inr rfl) rfl ⟨⟨rfl, rfl⟩, trivial⟩ rfl (.refl _) (congrArg Prod.snd (hstop (.inr (by simpa using h)))).symm (congrArg (fun r : List VoteOfD × RS => D.list 3 (r.1.map cVoteOf)) (hstop (.inr (by simpa using h)))).symm
    · replace hn : n ≤ 0 := by simpa using hn
      repeat'
        (conv => arg 2; whnf)
        first
        | refine okRd 0 (b, e) (b, e) (.int .i64 e) rdErr_s hl rfl rfl ⟨⟨rfl, rfl⟩, trivial⟩ (Cos.refl _) rfl ?_
        | refine okBoth ?_ ?_
        | refine okBrT ?_
        | refine okBrF ?_
        | refine okBr (fun h => ?_) (fun h => ?_)
        | refine okOut ?_
        | refine endRdF [2] (d := .list 3 ((y :: out).map cVoteOf)) (.inr rfl) rfl ⟨⟨rfl, rfl⟩, trivial⟩ rfl (.refl _) (congrArg Prod.snd (hstop (.inl hn))).symm (congrArg (fun r : List VoteOfD × RS => D.list 3 (r.1.map cVoteOf)) (hstop (.inl hn))).symm
theorem tkPrepared_s [Wd]  : FnR 95 (.agg [.ptr 0 0]) [] (fun s => .agg (cPrepared (heldR s).1)) (fun s => (heldR s).2) := by
  rintro ⟨b, e⟩ hs
  replace hs : b.length ≤ 8388609 := hs
  obtain ⟨v, b0, e0, q0, l0⟩ := Rd1.get (nR_rd MX) (b, e)
  replace l0 : b0.length ≤ b.length := l0
  have h0 : b0.length ≤ 8388609 := by omega
  obtain ⟨n, b1, e1, q1, l1⟩ := Rd1.get (nR_rd MX) (b0, e0)
  replace l1 : b1.length ≤ b0.length := l1
  have h1 : b1.length ≤ 8388609 := by omega
  obtain ⟨d, b2, e2, q2, l2⟩ := Rd1.get (nR_rd MX) (b1, e1)
  replace l2 : b2.length ≤ b1.length := l2
  have h2 : b2.length ≤ 8388609 := by omega
  obtain ⟨f, b3, e3, q3, l3⟩ := Rd1.get signR_rd (b2, e2)
  replace l3 : b3.length ≤ b2.length := l3
  have h3 : b3.length ≤ 8388609 := by omega
  obtain ⟨g, b4, e4, q4, l4⟩ := Rd1.get (takesR_rd signR_rd) (b3, e3)
  replace l4 : b4.length ≤ b3.length := l4
  have h4 : b4.length ≤ 8388609 := by omega
  obtain ⟨t, b5, e5, q5, l5⟩ := Rd1.get batchR_rd (b4, e4)
  replace l5 : b5.length ≤ b4.length := l5
  have h5 : b5.length ≤ 8388609 := by omega
  have eR : heldR (b, e) = (⟨v, n, d, f, g, t⟩, (b5, e5)) := by unfold heldR mapR pairR bindR; simp only [q0, q1, q2, q3, q4, q5]
  refine mkS 23 [] Tryz.func95 rfl (by kernel_rfl) ?_
  repeat'
    (conv => arg 2; whnf)
    first
    | refine okAsk (by kernel_rfl) ?_
    | refine okBoth ?_ ?_
    | refine okBrT ?_
    | refine okBrF ?_
    | refine okRd 0 (b, e) (b0, e0) (.int .i64 v) tkNum_s hs (congrArg Prod.snd q0).symm (congrArg (fun r : Int × RS => D.int .i64 r.1) q0).symm ⟨⟨rfl, rfl⟩, trivial⟩ (Cos.refl _) rfl ?_
    | refine okRd 0 (b0, e0) (b1, e1) (.int .i64 n) tkNum_s h0 (congrArg Prod.snd q1).symm (congrArg (fun r : Int × RS => D.int .i64 r.1) q1).symm ⟨⟨rfl, rfl⟩, trivial⟩ (Cos.refl _) rfl ?_
    | refine okRd 0 (b1, e1) (b2, e2) (.int .i64 d) tkDigest_s h1 (congrArg Prod.snd q2).symm (congrArg (fun r : Int × RS => D.int .i64 r.1) q2).symm ⟨⟨rfl, rfl⟩, trivial⟩ (Cos.refl _) rfl ?_
    | refine okRd 0 (b2, e2) (b3, e3) (.agg (cSign f)) tkSign_s h2 (congrArg Prod.snd q3).symm (congrArg (fun r : SignD × RS => D.agg (cSign r.1)) q3).symm ⟨⟨rfl, rfl⟩, trivial⟩ (Cos.refl _) rfl ?_
    | refine okRd 0 (b3, e3) (b4, e4) (.list 2 (g.map cSign)) takesSign_s h3 (congrArg Prod.snd q4).symm (congrArg (fun r : List SignD × RS => D.list 2 (r.1.map cSign)) q4).symm ⟨⟨rfl, rfl⟩, trivial⟩ (Cos.refl _) rfl ?_
    | refine okRd 0 (b4, e4) (b5, e5) (.list 9 (t.map cSigned)) tkBatch_s h4 (congrArg Prod.snd q5).symm (congrArg (fun r : List SignedD × RS => D.list 9 (r.1.map cSigned)) q5).symm ⟨⟨rfl, rfl⟩, trivial⟩ (Cos.refl _) rfl ?_
    | refine endRd (d := .agg (cPrepared (⟨v, n, d, f, g, t⟩))) (.inr rfl) rfl ⟨⟨rfl, rfl⟩, trivial⟩ rfl (.refl _) (congrArg Prod.snd eR).symm (congrArg (fun r : PreparedD × RS => D.agg (cPrepared r.1)) eR).symm
set_option maxHeartbeats 1000000 in
theorem takesPrepared_s [Wd] : FnR 94 (.agg [.ptr 0 0]) [.fn 95 0 []] (fun s => .list 7 ((takesR heldR s).1.map cPrepared)) (fun s => (takesR heldR s).2) := by
  intro s0 hs
  obtain ⟨N0, b0, e0, en, hN1, hb0⟩ := numR_pair 4096 s0
  obtain ⟨N, hNN⟩ : ∃ N : Int, N = (N0 : Int) := ⟨_, rfl⟩
  have hN0 : 0 ≤ N := by omega
  have hN : N ≤ 4096 := by omega
  have eL : takesR heldR s0 = goR heldR N.toNat (b0, e0) := by unfold takesR; rw [en, hNN, Int.toNat_natCast]
  refine mkS 27 [] Tryz.func94 rfl (by kernel_rfl) ?_
  repeat'
    (conv => arg 2; whnf)
    first
    | refine okAsk (by kernel_rfl) ?_
    | refine okRd 0 s0 (b0, e0) (.int .u64 N) (rdNum_s 4096) hs (congrArg Prod.snd en).symm (by rw [hNN]; exact (congrArg (fun r : Nat × RS => D.int .u64 (r.1 : Int)) en).symm) ⟨⟨rfl, rfl⟩, trivial⟩ (Cos.refl _) rfl ?_
  conv => arg 2; whnf
  refine okLoop (α := Int × RS × List PreparedD) (fun a => match a.2.2 with
    | [] => ⟨[(6, .int .u64 a.1), (5, .nils), (2, .ptr 1 0), (1, .fn 95 0 [])], [.cells 164 [.list 1 (a.2.1.1.map cByte), .int .i64 a.2.1.2, .bool true], .cells 94 [.ptr 0 0]]⟩
    | x :: l => ⟨[(6, .int .u64 a.1), (5, .row 2), (2, .ptr 1 0), (1, .fn 95 0 [])], [.cells 164 [.list 1 (a.2.1.1.map cByte), .int .i64 a.2.1.2, .bool true], .cells 94 [.ptr 0 0], .row 75 7 ((x :: l).map cPrepared)]⟩) (fun a => 0 ≤ a.1 ∧ a.1 ≤ 4096 ∧ a.2.1.1.length ≤ 8388609 ∧ a.2.2.length + a.1.toNat ≤ 4096 ∧ goR heldR N.toNat (b0, e0) = (a.2.2 ++ (goR heldR a.1.toNat a.2.1).1, (goR heldR a.1.toNat a.2.1).2)) (fun a => a.1.toNat) (N, (b0, e0), []) ⟨hN0, by omega, by show b0.length ≤ _; omega, by simp; omega, rfl⟩ (Sv.mk' [0, 1] rfl ⟨⟨rfl, rfl⟩, ⟨rfl, rfl⟩, trivial⟩ ⟨rfl, rfl, rfl, rfl, trivial⟩) ?_
  rintro ⟨n, ⟨b, e⟩, out⟩ ⟨h0, h1, hl, ho, hg⟩
  replace h0 : 0 ≤ n := h0
  replace h1 : n ≤ 4096 := h1
  replace hl : b.length ≤ 8388609 := hl
  replace ho : out.length + n.toNat ≤ 4096 := ho
  replace hg : goR heldR N.toNat (b0, e0) = (out ++ (goR heldR n.toNat (b, e)).1, (goR heldR n.toNat (b, e)).2) := hg
  obtain ⟨x, b2, e2, ep⟩ : ∃ (x : PreparedD) (b2 : List UInt8) (e2 : Int), heldR (b, e) = (x, (b2, e2)) := ⟨_, _, _, rfl⟩
  have hl2 : b2.length ≤ 8388609 := by
    have h := heldR_rd.len (b, e)
    rw [ep] at h
    exact Nat.le_trans h hl
  have hstop : (n ≤ 0 ∨ ¬ e = 0) → takesR heldR s0 = (out, (b, e)) := fun h => by
    rw [eL, hg]
    rcases h with h | h
    · rw [show n.toNat = 0 by omega]; simp [goR]
    · rw [goR_stop _ _ _ h]; simp
  have hnext : 0 < n → e = 0 → goR heldR N.toNat (b0, e0) = ((out ++ [x]) ++ (goR heldR (n - 1).toNat (b2, e2)).1, (goR heldR (n - 1).toNat (b2, e2)).2) := fun hn h => by
    rw [hg, goR_step _ hn h, ep]
    simp
  cases out with
  | nil =>
    conv => arg 2; whnf
    refine okBr (fun hn => ?_) (fun hn => ?_)
    · replace hn : 0 < n := by simpa using hn
      repeat'
        (conv => arg 2; whnf)
        first
        | refine okRd 0 (b, e) (b, e) (.int .i64 e) rdErr_s hl rfl rfl ⟨⟨rfl, rfl⟩, trivial⟩ (Cos.refl _) rfl ?_
        | refine okBoth ?_ ?_
        | refine okBrT ?_
        | refine okBrF ?_
        | refine okBr (fun h => ?_) (fun h => ?_)
        | refine okRd 0 (b, e) (b2, e2) (.agg (cPrepared x)) tkPrepared_s hl (congrArg Prod.snd ep).symm (congrArg (fun r : PreparedD × RS => D.agg (cPrepared r.1)) ep).symm ⟨⟨rfl, rfl⟩, trivial⟩ (Cos.refl _) rfl ?_
        | refine okAsk (by constructor <;> (simp only [List.length_cons, List.length_nil]; decide)) ?_
        | refine okWrap (u64i (by show 0 ≤ n - 1; omega) (by show n - 1 < _; omega)) ?_
        | refine okAgain (n - 1, (b2, e2), [x]) (Sv.mk' [0, 1, 4] rfl ⟨⟨rfl, rfl⟩, ⟨rfl, rfl⟩, ⟨rfl, rfl⟩, trivial⟩ ⟨rfl, rfl, rfl, rfl, trivial⟩) ⟨by show 0 ≤ n - 1; omega, by show n - 1 ≤ 4096; omega, hl2, by show ([x]).length + (n - 1).toNat ≤ 4096; simp at ho ⊢; omega, hnext hn (by simpa using h)⟩ (by show (n - 1).toNat < n.toNat; omega)
        | refine okOut ?_
        | refine endRd (d := .list 7 []) (.inr rfl) rfl ⟨⟨rfl, rfl⟩, trivial⟩ rfl (.nil _) (congrArg Prod.snd (hstop (.inr (by simpa using h)))).symm (congrArg (fun r : List PreparedD × RS => D.list 7 (r.1.map cPrepared)) (hstop (.inr (by simpa using h)))).symm
    · replace hn : n ≤ 0 := by simpa using hn
      repeat'
        (conv => arg 2; whnf)
        first
        | refine okRd 0 (b, e) (b, e) (.int .i64 e) rdErr_s hl rfl rfl ⟨⟨rfl, rfl⟩, trivial⟩ (Cos.refl _) rfl ?_
        | refine okBoth ?_ ?_
        | refine okBrT ?_
        | refine okBrF ?_
        | refine okBr (fun h => ?_) (fun h => ?_)
        | refine okOut ?_
        | refine endRd (d := .list 7 []) (.inr rfl) rfl ⟨⟨rfl, rfl⟩, trivial⟩ rfl (.nil _) (congrArg Prod.snd (hstop (.inl hn))).symm (congrArg (fun r : List PreparedD × RS => D.list 7 (r.1.map cPrepared)) (hstop (.inl hn))).symm
  | cons y out =>
    conv => arg 2; whnf
    refine okBr (fun hn => ?_) (fun hn => ?_)
    · replace hn : 0 < n := by simpa using hn
      repeat'
        (conv => arg 2; whnf)
        first
        | refine okRd 0 (b, e) (b, e) (.int .i64 e) rdErr_s hl rfl rfl ⟨⟨rfl, rfl⟩, trivial⟩ (Cos.refl _) rfl ?_
        | refine okBoth ?_ ?_
        | refine okBrT ?_
        | refine okBrF ?_
        | refine okBr (fun h => ?_) (fun h => ?_)
        | refine okRd 0 (b, e) (b2, e2) (.agg (cPrepared x)) tkPrepared_s hl (congrArg Prod.snd ep).symm (congrArg (fun r : PreparedD × RS => D.agg (cPrepared r.1)) ep).symm ⟨⟨rfl, rfl⟩, trivial⟩ (Cos.refl _) rfl ?_
        | refine okAsk (by constructor <;> (simp only [List.length_cons, List.length_nil, List.length_map, maxLen] at ho ⊢; omega)) ?_
        | refine okWrap (u64i (by show 0 ≤ n - 1; omega) (by show n - 1 < _; omega)) ?_
        | refine okAgain (n - 1, (b2, e2), (y :: out) ++ [x]) (Sv.mk' [0, 1, 5] rfl ⟨⟨rfl, rfl⟩, ⟨rfl, rfl⟩, ⟨rfl, by simp; rfl⟩, trivial⟩ ⟨rfl, rfl, rfl, rfl, trivial⟩) ⟨by show 0 ≤ n - 1; omega, by show n - 1 ≤ 4096; omega, hl2, by show ((y :: out) ++ [x]).length + (n - 1).toNat ≤ 4096; simp at ho ⊢; omega, hnext hn (by simpa using h)⟩ (by show (n - 1).toNat < n.toNat; omega)
        | refine okOut ?_
        | refine endRdF [2] (d := .list 7 ((y :: out).map cPrepared)) (.inr rfl) rfl ⟨⟨rfl, rfl⟩, trivial⟩ rfl (.refl _) (congrArg Prod.snd (hstop (.inr (by simpa using h)))).symm (congrArg (fun r : List PreparedD × RS => D.list 7 (r.1.map cPrepared)) (hstop (.inr (by simpa using h)))).symm
    · replace hn : n ≤ 0 := by simpa using hn
      repeat'
        (conv => arg 2; whnf)
        first
        | refine okRd 0 (b, e) (b, e) (.int .i64 e) rdErr_s hl rfl rfl ⟨⟨rfl, rfl⟩, trivial⟩ (Cos.refl _) rfl ?_
        | refine okBoth ?_ ?_
        | refine okBrT ?_
        | refine okBrF ?_
        | refine okBr (fun h => ?_) (fun h => ?_)
        | refine okOut ?_
        | refine endRdF [2] (d := .list 7 ((y :: out).map cPrepared)) (.inr rfl) rfl ⟨⟨rfl, rfl⟩, trivial⟩ rfl (.refl _) (congrArg Prod.snd (hstop (.inl hn))).symm (congrArg (fun r : List PreparedD × RS => D.list 7 (r.1.map cPrepared)) (hstop (.inl hn))).symm
theorem tkSlot_s [Wd] : FnR 93 (.agg [.ptr 0 0]) [] (fun s => .agg (cSlot (slotR s).1)) (fun s => (slotR s).2) := by
  rintro ⟨b, e⟩ hs
  replace hs : b.length ≤ 8388609 := hs
  obtain ⟨n, b0, e0, q0, l0⟩ := Rd1.get (nR_rd MX) (b, e)
  replace l0 : b0.length ≤ b.length := l0
  have h0 : b0.length ≤ 8388609 := by omega
  obtain ⟨hz, b1, e1, q1, l1⟩ := Rd1.get flagR_rd (b0, e0)
  replace l1 : b1.length ≤ b0.length := l1
  have h1 : b1.length ≤ 8388609 := by omega
  obtain ⟨d, b2, e2, q2, l2⟩ := Rd1.get (nR_rd MX) (b1, e1)
  replace l2 : b2.length ≤ b1.length := l2
  have h2 : b2.length ≤ 8388609 := by omega
  cases hz
  · skip
    obtain ⟨p, b3, e3, q3, l3⟩ := Rd1.get (takesR_rd voteOfR_rd) (b2, e2)
    replace l3 : b3.length ≤ b2.length := l3
    have h3 : b3.length ≤ 8388609 := by omega
    obtain ⟨c, b4, e4, q4, l4⟩ := Rd1.get (takesR_rd voteOfR_rd) (b3, e3)
    replace l4 : b4.length ≤ b3.length := l4
    have h4 : b4.length ≤ 8388609 := by omega
    have hm : midR false (b2, e2) = ((zSign, []), (b2, e2)) := rfl
    have eR : slotR (b, e) = (⟨n, false, d, zSign, [], p, c⟩, (b4, e4)) := by unfold slotR mapR pairR bindR; simp only [q0, q1, q2, hm, q3, q4]
    refine mkS 28 [] Tryz.func93 rfl (by kernel_rfl) ?_
    repeat'
      (conv => arg 2; whnf)
      first
      | refine okAsk (by kernel_rfl) ?_
      | refine okBoth ?_ ?_
      | refine okBrT ?_
      | refine okBrF ?_
      | refine okRd 0 (b, e) (b0, e0) (.int .i64 n) tkNum_s hs (congrArg Prod.snd q0).symm (congrArg (fun r : Int × RS => D.int .i64 r.1) q0).symm ⟨⟨rfl, rfl⟩, trivial⟩ (Cos.refl _) rfl ?_
      | refine okRd 0 (b0, e0) (b1, e1) (.bool false) tkFlag_s h0 (congrArg Prod.snd q1).symm (congrArg (fun r : Bool × RS => D.bool r.1) q1).symm ⟨⟨rfl, rfl⟩, trivial⟩ (Cos.refl _) rfl ?_
      | refine okRd 0 (b1, e1) (b2, e2) (.int .i64 d) tkDigest_s h1 (congrArg Prod.snd q2).symm (congrArg (fun r : Int × RS => D.int .i64 r.1) q2).symm ⟨⟨rfl, rfl⟩, trivial⟩ (Cos.refl _) rfl ?_
      | refine okRd 0 (b2, e2) (b3, e3) (.list 3 (p.map cVoteOf)) takesVoteOf_s h2 (congrArg Prod.snd q3).symm (congrArg (fun r : List VoteOfD × RS => D.list 3 (r.1.map cVoteOf)) q3).symm ⟨⟨rfl, rfl⟩, trivial⟩ (Cos.refl _) rfl ?_
      | refine okRd 0 (b3, e3) (b4, e4) (.list 3 (c.map cVoteOf)) takesVoteOf_s h3 (congrArg Prod.snd q4).symm (congrArg (fun r : List VoteOfD × RS => D.list 3 (r.1.map cVoteOf)) q4).symm ⟨⟨rfl, rfl⟩, trivial⟩ (Cos.refl _) rfl ?_
      | refine endRd (d := .agg (cSlot (⟨n, false, d, zSign, [], p, c⟩))) (.inr rfl) rfl ⟨⟨rfl, rfl⟩, trivial⟩ rfl (Cos.mkAgg (by repeat' first | exact Cos.nil | refine Cos.cons (.refl _) ?_ | refine Cos.cons (.nil _) ?_)) (congrArg Prod.snd eR).symm (congrArg (fun r : SlotD × RS => D.agg (cSlot r.1)) eR).symm
      | fail
  · skip
    obtain ⟨f, b3, e3, q3, l3⟩ := Rd1.get signR_rd (b2, e2)
    replace l3 : b3.length ≤ b2.length := l3
    have h3 : b3.length ≤ 8388609 := by omega
    obtain ⟨t, b4, e4, q4, l4⟩ := Rd1.get batchR_rd (b3, e3)
    replace l4 : b4.length ≤ b3.length := l4
    have h4 : b4.length ≤ 8388609 := by omega
    obtain ⟨p, b5, e5, q5, l5⟩ := Rd1.get (takesR_rd voteOfR_rd) (b4, e4)
    replace l5 : b5.length ≤ b4.length := l5
    have h5 : b5.length ≤ 8388609 := by omega
    obtain ⟨c, b6, e6, q6, l6⟩ := Rd1.get (takesR_rd voteOfR_rd) (b5, e5)
    replace l6 : b6.length ≤ b5.length := l6
    have h6 : b6.length ≤ 8388609 := by omega
    have hm : midR true (b2, e2) = ((f, t), (b4, e4)) := by
      show pairR signR batchR (b2, e2) = _
      unfold pairR bindR
      simp only [q3, q4]
    have eR : slotR (b, e) = (⟨n, true, d, f, t, p, c⟩, (b6, e6)) := by unfold slotR mapR pairR bindR; simp only [q0, q1, q2, hm, q5, q6]
    refine mkS 28 [] Tryz.func93 rfl (by kernel_rfl) ?_
    repeat'
      (conv => arg 2; whnf)
      first
      | refine okAsk (by kernel_rfl) ?_
      | refine okBoth ?_ ?_
      | refine okBrT ?_
      | refine okBrF ?_
      | refine okRd 0 (b, e) (b0, e0) (.int .i64 n) tkNum_s hs (congrArg Prod.snd q0).symm (congrArg (fun r : Int × RS => D.int .i64 r.1) q0).symm ⟨⟨rfl, rfl⟩, trivial⟩ (Cos.refl _) rfl ?_
      | refine okRd 0 (b0, e0) (b1, e1) (.bool true) tkFlag_s h0 (congrArg Prod.snd q1).symm (congrArg (fun r : Bool × RS => D.bool r.1) q1).symm ⟨⟨rfl, rfl⟩, trivial⟩ (Cos.refl _) rfl ?_
      | refine okRd 0 (b1, e1) (b2, e2) (.int .i64 d) tkDigest_s h1 (congrArg Prod.snd q2).symm (congrArg (fun r : Int × RS => D.int .i64 r.1) q2).symm ⟨⟨rfl, rfl⟩, trivial⟩ (Cos.refl _) rfl ?_
      | refine okRd 0 (b2, e2) (b3, e3) (.agg (cSign f)) tkSign_s h2 (congrArg Prod.snd q3).symm (congrArg (fun r : SignD × RS => D.agg (cSign r.1)) q3).symm ⟨⟨rfl, rfl⟩, trivial⟩ (Cos.refl _) rfl ?_
      | refine okRd 0 (b3, e3) (b4, e4) (.list 9 (t.map cSigned)) tkBatch_s h3 (congrArg Prod.snd q4).symm (congrArg (fun r : List SignedD × RS => D.list 9 (r.1.map cSigned)) q4).symm ⟨⟨rfl, rfl⟩, trivial⟩ (Cos.refl _) rfl ?_
      | refine okRd 0 (b4, e4) (b5, e5) (.list 3 (p.map cVoteOf)) takesVoteOf_s h4 (congrArg Prod.snd q5).symm (congrArg (fun r : List VoteOfD × RS => D.list 3 (r.1.map cVoteOf)) q5).symm ⟨⟨rfl, rfl⟩, trivial⟩ (Cos.refl _) rfl ?_
      | refine okRd 0 (b5, e5) (b6, e6) (.list 3 (c.map cVoteOf)) takesVoteOf_s h5 (congrArg Prod.snd q6).symm (congrArg (fun r : List VoteOfD × RS => D.list 3 (r.1.map cVoteOf)) q6).symm ⟨⟨rfl, rfl⟩, trivial⟩ (Cos.refl _) rfl ?_
      | refine endRd (d := .agg (cSlot (⟨n, true, d, f, t, p, c⟩))) (.inr rfl) rfl ⟨⟨rfl, rfl⟩, trivial⟩ rfl (.refl _) (congrArg Prod.snd eR).symm (congrArg (fun r : SlotD × RS => D.agg (cSlot r.1)) eR).symm
      | fail
set_option maxHeartbeats 1000000 in
theorem takesSlot_s [Wd] : FnR 92 (.agg [.ptr 0 0]) [.fn 93 0 []] (fun s => .list 8 ((takesR slotR s).1.map cSlot)) (fun s => (takesR slotR s).2) := by
  intro s0 hs
  obtain ⟨N0, b0, e0, en, hN1, hb0⟩ := numR_pair 4096 s0
  obtain ⟨N, hNN⟩ : ∃ N : Int, N = (N0 : Int) := ⟨_, rfl⟩
  have hN0 : 0 ≤ N := by omega
  have hN : N ≤ 4096 := by omega
  have eL : takesR slotR s0 = goR slotR N.toNat (b0, e0) := by unfold takesR; rw [en, hNN, Int.toNat_natCast]
  refine mkS 27 [] Tryz.func92 rfl (by kernel_rfl) ?_
  repeat'
    (conv => arg 2; whnf)
    first
    | refine okAsk (by kernel_rfl) ?_
    | refine okRd 0 s0 (b0, e0) (.int .u64 N) (rdNum_s 4096) hs (congrArg Prod.snd en).symm (by rw [hNN]; exact (congrArg (fun r : Nat × RS => D.int .u64 (r.1 : Int)) en).symm) ⟨⟨rfl, rfl⟩, trivial⟩ (Cos.refl _) rfl ?_
  conv => arg 2; whnf
  refine okLoop (α := Int × RS × List SlotD) (fun a => match a.2.2 with
    | [] => ⟨[(6, .int .u64 a.1), (5, .nils), (2, .ptr 1 0), (1, .fn 93 0 [])], [.cells 164 [.list 1 (a.2.1.1.map cByte), .int .i64 a.2.1.2, .bool true], .cells 94 [.ptr 0 0]]⟩
    | x :: l => ⟨[(6, .int .u64 a.1), (5, .row 2), (2, .ptr 1 0), (1, .fn 93 0 [])], [.cells 164 [.list 1 (a.2.1.1.map cByte), .int .i64 a.2.1.2, .bool true], .cells 94 [.ptr 0 0], .row 63 8 ((x :: l).map cSlot)]⟩) (fun a => 0 ≤ a.1 ∧ a.1 ≤ 4096 ∧ a.2.1.1.length ≤ 8388609 ∧ a.2.2.length + a.1.toNat ≤ 4096 ∧ goR slotR N.toNat (b0, e0) = (a.2.2 ++ (goR slotR a.1.toNat a.2.1).1, (goR slotR a.1.toNat a.2.1).2)) (fun a => a.1.toNat) (N, (b0, e0), []) ⟨hN0, by omega, by show b0.length ≤ _; omega, by simp; omega, rfl⟩ (Sv.mk' [0, 1] rfl ⟨⟨rfl, rfl⟩, ⟨rfl, rfl⟩, trivial⟩ ⟨rfl, rfl, rfl, rfl, trivial⟩) ?_
  rintro ⟨n, ⟨b, e⟩, out⟩ ⟨h0, h1, hl, ho, hg⟩
  replace h0 : 0 ≤ n := h0
  replace h1 : n ≤ 4096 := h1
  replace hl : b.length ≤ 8388609 := hl
  replace ho : out.length + n.toNat ≤ 4096 := ho
  replace hg : goR slotR N.toNat (b0, e0) = (out ++ (goR slotR n.toNat (b, e)).1, (goR slotR n.toNat (b, e)).2) := hg
  obtain ⟨x, b2, e2, ep⟩ : ∃ (x : SlotD) (b2 : List UInt8) (e2 : Int), slotR (b, e) = (x, (b2, e2)) := ⟨_, _, _, rfl⟩
  have hl2 : b2.length ≤ 8388609 := by
    have h := slotR_rd.len (b, e)
    rw [ep] at h
    exact Nat.le_trans h hl
  have hstop : (n ≤ 0 ∨ ¬ e = 0) → takesR slotR s0 = (out, (b, e)) := fun h => by
    rw [eL, hg]
    rcases h with h | h
    · rw [show n.toNat = 0 by omega]; simp [goR]
    · rw [goR_stop _ _ _ h]; simp
  have hnext : 0 < n → e = 0 → goR slotR N.toNat (b0, e0) = ((out ++ [x]) ++ (goR slotR (n - 1).toNat (b2, e2)).1, (goR slotR (n - 1).toNat (b2, e2)).2) := fun hn h => by
    rw [hg, goR_step _ hn h, ep]
    simp
  cases out with
  | nil =>
    conv => arg 2; whnf
    refine okBr (fun hn => ?_) (fun hn => ?_)
    · replace hn : 0 < n := by simpa using hn
      repeat'
        (conv => arg 2; whnf)
        first
        | refine okRd 0 (b, e) (b, e) (.int .i64 e) rdErr_s hl rfl rfl ⟨⟨rfl, rfl⟩, trivial⟩ (Cos.refl _) rfl ?_
        | refine okBoth ?_ ?_
        | refine okBrT ?_
        | refine okBrF ?_
        | refine okBr (fun h => ?_) (fun h => ?_)
        | refine okRd 0 (b, e) (b2, e2) (.agg (cSlot x)) tkSlot_s hl (congrArg Prod.snd ep).symm (congrArg (fun r : SlotD × RS => D.agg (cSlot r.1)) ep).symm ⟨⟨rfl, rfl⟩, trivial⟩ (Cos.refl _) rfl ?_
        | refine okAsk (by constructor <;> (simp only [List.length_cons, List.length_nil]; decide)) ?_
        | refine okWrap (u64i (by show 0 ≤ n - 1; omega) (by show n - 1 < _; omega)) ?_
        | refine okAgain (n - 1, (b2, e2), [x]) (Sv.mk' [0, 1, 4] rfl ⟨⟨rfl, rfl⟩, ⟨rfl, rfl⟩, ⟨rfl, rfl⟩, trivial⟩ ⟨rfl, rfl, rfl, rfl, trivial⟩) ⟨by show 0 ≤ n - 1; omega, by show n - 1 ≤ 4096; omega, hl2, by show ([x]).length + (n - 1).toNat ≤ 4096; simp at ho ⊢; omega, hnext hn (by simpa using h)⟩ (by show (n - 1).toNat < n.toNat; omega)
        | refine okOut ?_
        | refine endRd (d := .list 8 []) (.inr rfl) rfl ⟨⟨rfl, rfl⟩, trivial⟩ rfl (.nil _) (congrArg Prod.snd (hstop (.inr (by simpa using h)))).symm (congrArg (fun r : List SlotD × RS => D.list 8 (r.1.map cSlot)) (hstop (.inr (by simpa using h)))).symm
    · replace hn : n ≤ 0 := by simpa using hn
      repeat'
        (conv => arg 2; whnf)
        first
        | refine okRd 0 (b, e) (b, e) (.int .i64 e) rdErr_s hl rfl rfl ⟨⟨rfl, rfl⟩, trivial⟩ (Cos.refl _) rfl ?_
        | refine okBoth ?_ ?_
        | refine okBrT ?_
        | refine okBrF ?_
        | refine okBr (fun h => ?_) (fun h => ?_)
        | refine okOut ?_
        | refine endRd (d := .list 8 []) (.inr rfl) rfl ⟨⟨rfl, rfl⟩, trivial⟩ rfl (.nil _) (congrArg Prod.snd (hstop (.inl hn))).symm (congrArg (fun r : List SlotD × RS => D.list 8 (r.1.map cSlot)) (hstop (.inl hn))).symm
  | cons y out =>
    conv => arg 2; whnf
    refine okBr (fun hn => ?_) (fun hn => ?_)
    · replace hn : 0 < n := by simpa using hn
      repeat'
        (conv => arg 2; whnf)
        first
        | refine okRd 0 (b, e) (b, e) (.int .i64 e) rdErr_s hl rfl rfl ⟨⟨rfl, rfl⟩, trivial⟩ (Cos.refl _) rfl ?_
        | refine okBoth ?_ ?_
        | refine okBrT ?_
        | refine okBrF ?_
        | refine okBr (fun h => ?_) (fun h => ?_)
        | refine okRd 0 (b, e) (b2, e2) (.agg (cSlot x)) tkSlot_s hl (congrArg Prod.snd ep).symm (congrArg (fun r : SlotD × RS => D.agg (cSlot r.1)) ep).symm ⟨⟨rfl, rfl⟩, trivial⟩ (Cos.refl _) rfl ?_
        | refine okAsk (by constructor <;> (simp only [List.length_cons, List.length_nil, List.length_map, maxLen] at ho ⊢; omega)) ?_
        | refine okWrap (u64i (by show 0 ≤ n - 1; omega) (by show n - 1 < _; omega)) ?_
        | refine okAgain (n - 1, (b2, e2), (y :: out) ++ [x]) (Sv.mk' [0, 1, 5] rfl ⟨⟨rfl, rfl⟩, ⟨rfl, rfl⟩, ⟨rfl, by simp; rfl⟩, trivial⟩ ⟨rfl, rfl, rfl, rfl, trivial⟩) ⟨by show 0 ≤ n - 1; omega, by show n - 1 ≤ 4096; omega, hl2, by show ((y :: out) ++ [x]).length + (n - 1).toNat ≤ 4096; simp at ho ⊢; omega, hnext hn (by simpa using h)⟩ (by show (n - 1).toNat < n.toNat; omega)
        | refine okOut ?_
        | refine endRdF [2] (d := .list 8 ((y :: out).map cSlot)) (.inr rfl) rfl ⟨⟨rfl, rfl⟩, trivial⟩ rfl (.refl _) (congrArg Prod.snd (hstop (.inr (by simpa using h)))).symm (congrArg (fun r : List SlotD × RS => D.list 8 (r.1.map cSlot)) (hstop (.inr (by simpa using h)))).symm
    · replace hn : n ≤ 0 := by simpa using hn
      repeat'
        (conv => arg 2; whnf)
        first
        | refine okRd 0 (b, e) (b, e) (.int .i64 e) rdErr_s hl rfl rfl ⟨⟨rfl, rfl⟩, trivial⟩ (Cos.refl _) rfl ?_
        | refine okBoth ?_ ?_
        | refine okBrT ?_
        | refine okBrF ?_
        | refine okBr (fun h => ?_) (fun h => ?_)
        | refine okOut ?_
        | refine endRdF [2] (d := .list 8 ((y :: out).map cSlot)) (.inr rfl) rfl ⟨⟨rfl, rfl⟩, trivial⟩ rfl (.refl _) (congrArg Prod.snd (hstop (.inl hn))).symm (congrArg (fun r : List SlotD × RS => D.list 8 (r.1.map cSlot)) (hstop (.inl hn))).symm
theorem tkWaits_s [Wd] : FnR 99 (.agg [.ptr 0 0]) [] (fun s => .agg (cSigned (waitR s).1)) (fun s => (waitR s).2) := by
  rintro ⟨b, e⟩ hs
  replace hs : b.length ≤ 8388609 := hs
  obtain ⟨t, b0, e0, q0, l0⟩ := Rd1.get batchR_rd (b, e)
  replace l0 : b0.length ≤ b.length := l0
  have h0 : b0.length ≤ 8388609 := by omega
  have hn : ((t.map cSigned).length : Int) = t.length := by rw [List.length_map]
  have eR : waitR (b, e) = (onlyR t, failR (if t.length = 1 then 0 else 200) (b0, e0)) := by unfold waitR mapR guardR; simp only [q0]
  by_cases h1 : t.length = 1
  · obtain ⟨x, rfl⟩ := one_of h1
    have gY : waitR (b, e) = (x, (b0, e0)) := by
      rw [eR, if_pos h1]
      unfold failR
      split
      · rename_i h
        have h : e0 = 0 := h
        rw [h]; rfl
      · rfl
    refine mkS 25 [] Tryz.func99 rfl (by kernel_rfl) ?_
    repeat'
      (conv => arg 2; whnf)
      first
      | refine okAsk (by kernel_rfl) ?_
      | refine okBoth ?_ ?_
      | refine okBrT ?_
      | refine okBrF ?_
      | refine okBr1 (by decide) ?_
      | refine okBr0 (by decide) ?_
      | refine okBrZt (fun h => ?_) (fun hz => ?_)
      | refine okBrZ (fun h => ?_) (fun hz => ?_)
      | refine okNth (cSigned x) (by decide) rfl ?_
      | refine okRd 0 (b, e) (b0, e0) (.list 9 ([x].map cSigned)) tkBatch_s hs (congrArg Prod.snd q0).symm (congrArg (fun r : List SignedD × RS => D.list 9 (r.1.map cSigned)) q0).symm ⟨⟨rfl, rfl⟩, trivial⟩ (Cos.refl _) rfl ?_
      | refine okRd 0 (b0, e0) (b0, e0) (.int .i64 e0) rdErr_s h0 rfl rfl ⟨⟨rfl, rfl⟩, trivial⟩ (Cos.refl _) rfl ?_
      | refine endRd (x := b0) (y := e0) (d := .agg (cSigned x)) (.inr rfl) rfl ⟨⟨rfl, rfl⟩, trivial⟩ rfl (.refl _) (congrArg Prod.snd gY).symm (congrArg (fun r : SignedD × RS => D.agg (cSigned r.1)) gY).symm
      | fail
  · have ho : onlyR t = zSigned := by
      cases t with
      | nil => rfl
      | cons x r => cases r with
        | nil => exact absurd rfl h1
        | cons y r => rfl
    have hz1 : ((((t.map cSigned).length : Nat) : Int) != 1) = true := by rw [hn]; simp; omega
    obtain ⟨ef, hef⟩ : ∃ ef : Int, failR 200 (b0, e0) = (b0, ef) := ⟨(failR 200 (b0, e0)).2, Prod.ext (failR_len _ _) rfl⟩
    have gN : waitR (b, e) = (zSigned, (b0, ef)) := by rw [eR, if_neg h1, ho, hef]
    have gE : ¬ e0 = 0 → waitR (b, e) = (zSigned, (b0, e0)) := fun h => by rw [gN, ← hef, failR_no _ h]
    refine mkS 25 [] Tryz.func99 rfl (by kernel_rfl) ?_
    repeat'
      (conv => arg 2; whnf)
      first
      | refine okAsk (by kernel_rfl) ?_
      | refine okBoth ?_ ?_
      | refine okBrT ?_
      | refine okBrF ?_
      | refine okBr1 hz1 ?_
      | refine okBr1 (by decide) ?_
      | refine okBr0 (by decide) ?_
      | refine okBrZt (fun h => ?_) (fun hz => ?_)
      | refine okBrZ (fun h => ?_) (fun hz => ?_)
      | refine okRd 0 (b, e) (b0, e0) (.list 9 (t.map cSigned)) tkBatch_s hs (congrArg Prod.snd q0).symm (congrArg (fun r : List SignedD × RS => D.list 9 (r.1.map cSigned)) q0).symm ⟨⟨rfl, rfl⟩, trivial⟩ (Cos.refl _) rfl ?_
      | refine okRd 0 (b0, e0) (b0, e0) (.int .i64 e0) rdErr_s h0 rfl rfl ⟨⟨rfl, rfl⟩, trivial⟩ (Cos.refl _) rfl ?_
      | refine okRd 0 (b0, e0) (b0, ef) (.tup []) (rdFail_s 200) h0 hef.symm rfl ⟨⟨rfl, rfl⟩, trivial⟩ (Cos.refl _) rfl ?_
      | refine endRd (x := b0) (y := ef) (d := .agg (cSigned zSigned)) (.inr rfl) rfl ⟨⟨rfl, rfl⟩, trivial⟩ rfl (Cos.mkAgg (by repeat' first | exact Cos.nil | refine Cos.cons (.refl _) ?_ | refine Cos.cons (.nil _) ?_)) (congrArg Prod.snd gN).symm (congrArg (fun r : SignedD × RS => D.agg (cSigned r.1)) gN).symm
      | refine endRd (x := b0) (y := e0) (d := .agg (cSigned zSigned)) (.inr rfl) rfl ⟨⟨rfl, rfl⟩, trivial⟩ rfl (Cos.mkAgg (by repeat' first | exact Cos.nil | refine Cos.cons (.refl _) ?_ | refine Cos.cons (.nil _) ?_)) (congrArg Prod.snd (gE hz)).symm (congrArg (fun r : SignedD × RS => D.agg (cSigned r.1)) (gE hz)).symm
      | fail
set_option maxHeartbeats 1000000 in
theorem takesSigned_s [Wd] : FnR 98 (.agg [.ptr 0 0]) [.fn 99 0 []] (fun s => .list 9 ((takesR waitR s).1.map cSigned)) (fun s => (takesR waitR s).2) := by
  intro s0 hs
  obtain ⟨N0, b0, e0, en, hN1, hb0⟩ := numR_pair 4096 s0
  obtain ⟨N, hNN⟩ : ∃ N : Int, N = (N0 : Int) := ⟨_, rfl⟩
  have hN0 : 0 ≤ N := by omega
  have hN : N ≤ 4096 := by omega
  have eL : takesR waitR s0 = goR waitR N.toNat (b0, e0) := by unfold takesR; rw [en, hNN, Int.toNat_natCast]
  refine mkS 27 [] Tryz.func98 rfl (by kernel_rfl) ?_
  repeat'
    (conv => arg 2; whnf)
    first
    | refine okAsk (by kernel_rfl) ?_
    | refine okRd 0 s0 (b0, e0) (.int .u64 N) (rdNum_s 4096) hs (congrArg Prod.snd en).symm (by rw [hNN]; exact (congrArg (fun r : Nat × RS => D.int .u64 (r.1 : Int)) en).symm) ⟨⟨rfl, rfl⟩, trivial⟩ (Cos.refl _) rfl ?_
  conv => arg 2; whnf
  refine okLoop (α := Int × RS × List SignedD) (fun a => match a.2.2 with
    | [] => ⟨[(6, .int .u64 a.1), (5, .nils), (2, .ptr 1 0), (1, .fn 99 0 [])], [.cells 164 [.list 1 (a.2.1.1.map cByte), .int .i64 a.2.1.2, .bool true], .cells 94 [.ptr 0 0]]⟩
    | x :: l => ⟨[(6, .int .u64 a.1), (5, .row 2), (2, .ptr 1 0), (1, .fn 99 0 [])], [.cells 164 [.list 1 (a.2.1.1.map cByte), .int .i64 a.2.1.2, .bool true], .cells 94 [.ptr 0 0], .row 84 9 ((x :: l).map cSigned)]⟩) (fun a => 0 ≤ a.1 ∧ a.1 ≤ 4096 ∧ a.2.1.1.length ≤ 8388609 ∧ a.2.2.length + a.1.toNat ≤ 4096 ∧ goR waitR N.toNat (b0, e0) = (a.2.2 ++ (goR waitR a.1.toNat a.2.1).1, (goR waitR a.1.toNat a.2.1).2)) (fun a => a.1.toNat) (N, (b0, e0), []) ⟨hN0, by omega, by show b0.length ≤ _; omega, by simp; omega, rfl⟩ (Sv.mk' [0, 1] rfl ⟨⟨rfl, rfl⟩, ⟨rfl, rfl⟩, trivial⟩ ⟨rfl, rfl, rfl, rfl, trivial⟩) ?_
  rintro ⟨n, ⟨b, e⟩, out⟩ ⟨h0, h1, hl, ho, hg⟩
  replace h0 : 0 ≤ n := h0
  replace h1 : n ≤ 4096 := h1
  replace hl : b.length ≤ 8388609 := hl
  replace ho : out.length + n.toNat ≤ 4096 := ho
  replace hg : goR waitR N.toNat (b0, e0) = (out ++ (goR waitR n.toNat (b, e)).1, (goR waitR n.toNat (b, e)).2) := hg
  obtain ⟨x, b2, e2, ep⟩ : ∃ (x : SignedD) (b2 : List UInt8) (e2 : Int), waitR (b, e) = (x, (b2, e2)) := ⟨_, _, _, rfl⟩
  have hl2 : b2.length ≤ 8388609 := by
    have h := waitR_rd.len (b, e)
    rw [ep] at h
    exact Nat.le_trans h hl
  have hstop : (n ≤ 0 ∨ ¬ e = 0) → takesR waitR s0 = (out, (b, e)) := fun h => by
    rw [eL, hg]
    rcases h with h | h
    · rw [show n.toNat = 0 by omega]; simp [goR]
    · rw [goR_stop _ _ _ h]; simp
  have hnext : 0 < n → e = 0 → goR waitR N.toNat (b0, e0) = ((out ++ [x]) ++ (goR waitR (n - 1).toNat (b2, e2)).1, (goR waitR (n - 1).toNat (b2, e2)).2) := fun hn h => by
    rw [hg, goR_step _ hn h, ep]
    simp
  cases out with
  | nil =>
    conv => arg 2; whnf
    refine okBr (fun hn => ?_) (fun hn => ?_)
    · replace hn : 0 < n := by simpa using hn
      repeat'
        (conv => arg 2; whnf)
        first
        | refine okRd 0 (b, e) (b, e) (.int .i64 e) rdErr_s hl rfl rfl ⟨⟨rfl, rfl⟩, trivial⟩ (Cos.refl _) rfl ?_
        | refine okBoth ?_ ?_
        | refine okBrT ?_
        | refine okBrF ?_
        | refine okBr (fun h => ?_) (fun h => ?_)
        | refine okRd 0 (b, e) (b2, e2) (.agg (cSigned x)) tkWaits_s hl (congrArg Prod.snd ep).symm (congrArg (fun r : SignedD × RS => D.agg (cSigned r.1)) ep).symm ⟨⟨rfl, rfl⟩, trivial⟩ (Cos.refl _) rfl ?_
        | refine okAsk (by constructor <;> (simp only [List.length_cons, List.length_nil]; decide)) ?_
        | refine okWrap (u64i (by show 0 ≤ n - 1; omega) (by show n - 1 < _; omega)) ?_
        | refine okAgain (n - 1, (b2, e2), [x]) (Sv.mk' [0, 1, 4] rfl ⟨⟨rfl, rfl⟩, ⟨rfl, rfl⟩, ⟨rfl, rfl⟩, trivial⟩ ⟨rfl, rfl, rfl, rfl, trivial⟩) ⟨by show 0 ≤ n - 1; omega, by show n - 1 ≤ 4096; omega, hl2, by show ([x]).length + (n - 1).toNat ≤ 4096; simp at ho ⊢; omega, hnext hn (by simpa using h)⟩ (by show (n - 1).toNat < n.toNat; omega)
        | refine okOut ?_
        | refine endRd (d := .list 9 []) (.inr rfl) rfl ⟨⟨rfl, rfl⟩, trivial⟩ rfl (.nil _) (congrArg Prod.snd (hstop (.inr (by simpa using h)))).symm (congrArg (fun r : List SignedD × RS => D.list 9 (r.1.map cSigned)) (hstop (.inr (by simpa using h)))).symm
    · replace hn : n ≤ 0 := by simpa using hn
      repeat'
        (conv => arg 2; whnf)
        first
        | refine okRd 0 (b, e) (b, e) (.int .i64 e) rdErr_s hl rfl rfl ⟨⟨rfl, rfl⟩, trivial⟩ (Cos.refl _) rfl ?_
        | refine okBoth ?_ ?_
        | refine okBrT ?_
        | refine okBrF ?_
        | refine okBr (fun h => ?_) (fun h => ?_)
        | refine okOut ?_
        | refine endRd (d := .list 9 []) (.inr rfl) rfl ⟨⟨rfl, rfl⟩, trivial⟩ rfl (.nil _) (congrArg Prod.snd (hstop (.inl hn))).symm (congrArg (fun r : List SignedD × RS => D.list 9 (r.1.map cSigned)) (hstop (.inl hn))).symm
  | cons y out =>
    conv => arg 2; whnf
    refine okBr (fun hn => ?_) (fun hn => ?_)
    · replace hn : 0 < n := by simpa using hn
      repeat'
        (conv => arg 2; whnf)
        first
        | refine okRd 0 (b, e) (b, e) (.int .i64 e) rdErr_s hl rfl rfl ⟨⟨rfl, rfl⟩, trivial⟩ (Cos.refl _) rfl ?_
        | refine okBoth ?_ ?_
        | refine okBrT ?_
        | refine okBrF ?_
        | refine okBr (fun h => ?_) (fun h => ?_)
        | refine okRd 0 (b, e) (b2, e2) (.agg (cSigned x)) tkWaits_s hl (congrArg Prod.snd ep).symm (congrArg (fun r : SignedD × RS => D.agg (cSigned r.1)) ep).symm ⟨⟨rfl, rfl⟩, trivial⟩ (Cos.refl _) rfl ?_
        | refine okAsk (by constructor <;> (simp only [List.length_cons, List.length_nil, List.length_map, maxLen] at ho ⊢; omega)) ?_
        | refine okWrap (u64i (by show 0 ≤ n - 1; omega) (by show n - 1 < _; omega)) ?_
        | refine okAgain (n - 1, (b2, e2), (y :: out) ++ [x]) (Sv.mk' [0, 1, 5] rfl ⟨⟨rfl, rfl⟩, ⟨rfl, rfl⟩, ⟨rfl, by simp; rfl⟩, trivial⟩ ⟨rfl, rfl, rfl, rfl, trivial⟩) ⟨by show 0 ≤ n - 1; omega, by show n - 1 ≤ 4096; omega, hl2, by show ((y :: out) ++ [x]).length + (n - 1).toNat ≤ 4096; simp at ho ⊢; omega, hnext hn (by simpa using h)⟩ (by show (n - 1).toNat < n.toNat; omega)
        | refine okOut ?_
        | refine endRdF [2] (d := .list 9 ((y :: out).map cSigned)) (.inr rfl) rfl ⟨⟨rfl, rfl⟩, trivial⟩ rfl (.refl _) (congrArg Prod.snd (hstop (.inr (by simpa using h)))).symm (congrArg (fun r : List SignedD × RS => D.list 9 (r.1.map cSigned)) (hstop (.inr (by simpa using h)))).symm
    · replace hn : n ≤ 0 := by simpa using hn
      repeat'
        (conv => arg 2; whnf)
        first
        | refine okRd 0 (b, e) (b, e) (.int .i64 e) rdErr_s hl rfl rfl ⟨⟨rfl, rfl⟩, trivial⟩ (Cos.refl _) rfl ?_
        | refine okBoth ?_ ?_
        | refine okBrT ?_
        | refine okBrF ?_
        | refine okBr (fun h => ?_) (fun h => ?_)
        | refine okOut ?_
        | refine endRdF [2] (d := .list 9 ((y :: out).map cSigned)) (.inr rfl) rfl ⟨⟨rfl, rfl⟩, trivial⟩ rfl (.refl _) (congrArg Prod.snd (hstop (.inl hn))).symm (congrArg (fun r : List SignedD × RS => D.list 9 (r.1.map cSigned)) (hstop (.inl hn))).symm
end Go.Proofs.YteaggenihhaajaaGreat

/- What may be written: a core's parts are data of their types; their sizes are bounded by their bytes. No program here. -/
namespace Go.Proofs.YteaggenihhaajaaGreat
open Go.RowKit
set_option linter.unusedVariables false

theorem puts_d {α : Type} {A : Dt α} {P : α → Prop} {l : List α} (h : putsOk P l) (k : ∀ x, P x → A.ok x) : (dL A).ok l := l_of h.1 (by decide) fun x hx => k x (h.2 x hx)
theorem slot_d {s : SlotD} (h : slotOk s) : dSlot.ok s := by
  obtain ⟨h1, h2, h3, h4, h5, h6⟩ := h
  have hv : ∀ v, voteOfOk v → dVoteOf.ok v := fun v h => ⟨nOk_d h.1, sign_d h.2⟩
  cases hh : s.has
  · obtain ⟨e1, e2⟩ := h4 hh
    exact ⟨nOk_d h1, trivial, nOk_d h2, show dSign.ok s.firstS by rw [e1]; exact zsign_d, show (dL dSigned).ok s.batch by rw [e2]; exact lz_d, puts_d h5 hv, puts_d h6 hv⟩
  · obtain ⟨e1, e2⟩ := h3 hh
    exact ⟨nOk_d h1, trivial, nOk_d h2, sign_d e1, batch_d e2, puts_d h5 hv, puts_d h6 hv⟩
theorem core_d {c : CoreD} (h : coreOk' c) : dCore.ok c := by
  obtain ⟨⟨a1, a2, a3, a4, a5, a6, a7, a8, a9, a10, a11, a12, a13, a14, a15, a16, a17, a18⟩, d1, d2, d3⟩ := h
  exact ⟨nOk_d a1, trivial, nOk_d a2, nOk_d a3, hdr_d a4, l_of a5.1 (by decide) fun x hx => ⟨hdr_d (a5.2 x hx).1, batch_d (a5.2 x hx).2.1, l_of (a5.2 x hx).2.2.1 (by decide) fun p hp => ⟨(d1 x hx p hp).1, nOk_d ((a5.2 x hx).2.2.2 p hp), (d1 x hx p hp).2⟩⟩, d2,
    ⟨cert_d a6.1, puts_d a7 fun v hv => ⟨nOk_d hv.1, nOk_d hv.2.1, sign_d hv.2.2⟩, puts_d a8 fun v hv => cert_d hv.1⟩, puts_d a9 fun v hv => cert_d hv.1, l_of a10.1 (by decide) fun m hm => ⟨hdr_d (a10.2 m hm), d3 m hm⟩,
    puts_d a11 fun s hs => slot_d hs, puts_d a12 fun p hp => ⟨nOk_d hp.1, nOk_d hp.2.1, nOk_d hp.2.2.1, sign_d hp.2.2.2.1, puts_d hp.2.2.2.2.1 fun s hs => sign_d hs, batch_d hp.2.2.2.2.2⟩, puts_d a13 fun x hx => chg_d hx.1,
    puts_d a14 fun s hs => (batch_d hs).2 s (.head _), ⟨nOk_d a15, nOk_d a16⟩, puts_d a17 fun m hm => msg_d hm.1, nOk_d a18⟩
/-! sizes -/
theorem encI_pos (n : Int) : 1 ≤ (encI n).length := enc_pos _
theorem byF_ge (x : List UInt8) : x.length + 1 ≤ (byF x).length := by
  unfold byF
  have := enc_pos x.length
  rw [List.length_append]
  omega
theorem flat_sz {α : Type} {b : α → List UInt8} {sz : α → Nat} {ok : α → Prop} (h : ∀ x, ok x → sz x + 30 ≤ 64 * (b x).length) : ∀ (l : List α), (∀ x ∈ l, ok x) → (l.map sz).sum ≤ 64 * (l.flatMap b).length
  | [], _ => by simp
  | x :: l, hx => by
    have h1 := h x (hx x (.head _))
    have h2 := flat_sz h l fun y hy => hx y (.tail _ hy)
    simp only [List.map_cons, List.sum_cons, List.flatMap_cons, List.length_append]
    omega
theorem puts_sz {α : Type} {b : α → List UInt8} {sz : α → Nat} {ok : α → Prop} (h : ∀ x, ok x → sz x + 30 ≤ 64 * (b x).length) {l : List α} (hl : ∀ x ∈ l, ok x) : (l.map sz).sum + 1 + 30 ≤ 64 * (putsB b l).length := by
  have h1 := flat_sz h l hl
  have h2 := encI_pos (l.length : Int)
  unfold putsB
  rw [List.length_append]
  omega
theorem rec_sz (x : List UInt8) : tY.sz x + 30 ≤ 64 * (byF x).length := by
  have := byF_ge x
  rw [szY]
  omega
theorem op_sz {o : OpD} (h : opE o = 0) : tOp.sz o + 30 ≤ 64 * (opB o).length := by
  have hs := opE_sh h
  have hk := (opE_ok h).1
  have e1 := enc_pos o.kind.toNat
  have e2 := byF_ge o.topic
  have e3 := byF_ge o.group
  have e4 := enc_pos o.offset.toNat
  have e5 := enc_pos o.records.length
  have e6 := flat_sz (b := byF) (sz := tY.sz) (ok := fun _ => True) (fun x _ => rec_sz x) o.records (fun _ _ => trivial)
  unfold tOp
  simp only [szM, szP, szI, szS, szL]
  have k : o.kind = 0 ∨ o.kind = 1 ∨ o.kind = 2 ∨ o.kind = 3 ∨ o.kind = 4 := by omega
  unfold opB
  rcases k with k | k | k | k | k
  · have e := only0 hs.only k
    rw [e]
    simp [enc_lt]
  · have e := only1 hs.only k
    rw [← e]
    simp only [List.length_append, List.length_nil]
    simp
    omega
  · have e := only2 hs.only k
    rw [k, if_neg (by decide), if_pos rfl]
    have g : o.group.length = 0 := by rw [← e]; rfl
    simp only [List.length_append]
    rw [k] at e1
    omega
  · have e := only3 hs.only k
    rw [k, if_neg (by decide), if_neg (by decide), if_pos rfl]
    have g : o.records = [] := by rw [← e]
    rw [g]
    simp only [List.length_append, List.map_nil, List.sum_nil]
    rw [k] at e1
    omega
  · have e := only4 hs.only k
    rw [k, if_neg (by decide), if_neg (by decide), if_neg (by decide), if_pos rfl]
    have g : o.records = [] := by rw [← e]
    have g2 : o.group.length = 0 := by rw [← e]; rfl
    rw [g]
    simp only [List.length_append, List.map_nil, List.sum_nil]
    rw [k] at e1
    omega
theorem sign_szP {s : SignD} (h : signE s = 0) : tSign.sz s + 30 ≤ 64 * (signP s).length := by
  have e1 := enc_pos s.key.toNat
  have e2 := enc_pos s.digest.toNat
  unfold signP
  rw [if_pos h]
  unfold signB tSign
  simp only [szM, szP, szI, List.length_append]
  omega
theorem req_sz {x : RequestD} (h : reqE x = 0) : tRequest.sz x + 30 ≤ 64 * (reqB x).length := by
  have e1 := enc_pos x.client.toNat
  have e3 := op_sz (reqE_ok h).2.2
  unfold reqB tRequest
  simp only [szM, szP, szI, List.length_append]
  omega
theorem signedP_sz {s : SignedD} (h : reqE s.request = 0 ∧ signE s.sign = 0) : tSigned.sz s + 30 ≤ 64 * (signedB s).length := by
  have e1 := req_sz h.1
  have e2 := sign_szP h.2
  have e3 := byF_ge (reqB s.request)
  unfold signP at e2
  rw [if_pos h.2] at e2
  unfold signedB tSigned
  simp only [szM, szP, List.length_append]
  omega
theorem batch_sz {l : List SignedD} (h : batchE l = 0) : (l.map tSigned.sz).sum + 1 + 30 ≤ 64 * (batchP l).length := by
  have e1 := flat_sz (fun s => signedP_sz (s := s)) l (batchE_ok h).2
  have e2 := enc_pos l.length
  unfold batchP
  rw [if_pos h]
  unfold batchB
  rw [List.length_append]
  omega
theorem signs_sz {l : List SignD} (h : signsE l = 0) : (l.map tSign.sz).sum + 1 + 30 ≤ 64 * (signsB l).length := by
  unfold signsE at h
  rw [orE_zero, listE_zero] at h
  exact puts_sz (fun s => sign_szP (s := s)) h.2
theorem cert_sz {c : CertD} (h : certE c = 0) : tCert.sz c + 30 ≤ 64 * (certB c).length := by
  have e1 := signs_sz (certE_ok h).2.2
  have e2 := encI_pos c.seq
  unfold certB tCert
  simp only [szM, szP, szI, szL, List.length_append, numsB, List.flatMap_cons, List.flatMap_nil, List.append_nil]
  omega
theorem prep_sz {p : PreparedD} (h : prepE p = 0) : tPrepared.sz p + 30 ≤ 64 * (prepB p).length := by
  unfold prepE at h
  simp only [orE_zero] at h
  obtain ⟨_, _, _, h4, h5, h6⟩ := h
  have e1 := sign_szP h4
  have e2 := signs_sz h5
  have e3 := batch_sz h6
  have e4 := encI_pos p.view
  unfold prepB tPrepared
  simp only [szM, szP, szI, szL, List.length_append, numsB, List.flatMap_cons, List.flatMap_nil, List.append_nil]
  omega
theorem chg_sz {c : ChangeD} (h : chgE c = 0) : tChange.sz c + 30 ≤ 64 * (chgB c).length := by
  obtain ⟨h1, h2, h3, h4, h5, h6⟩ := chgE_ok h
  have e1 := cert_sz h3
  have e2 := puts_sz (fun p => prep_sz (p := p)) h5
  have e3 := sign_szP h6
  have e4 := encI_pos c.view
  unfold putsB at e2
  unfold chgB bodyC tChange
  simp only [szM, szP, szI, szL, List.length_append, numsB, List.flatMap_cons, List.flatMap_nil, List.append_nil] at e2 ⊢
  omega
theorem entry_sz {x : EntryD} (h : entryE x = 0) : tEntry.sz x + 30 ≤ 64 * (entryB x).length := by
  unfold entryE at h
  simp only [orE_zero] at h
  obtain ⟨_, _, h3, h4⟩ := h
  have e1 := batch_sz h3
  have e2 := sign_szP h4
  have e4 := encI_pos x.view
  unfold entryB tEntry
  simp only [szM, szP, szI, szL, List.length_append, numsB, List.flatMap_cons, List.flatMap_nil, List.append_nil]
  omega
theorem head_sz (h : HeaderD) : tHeader.sz h + 30 ≤ 64 * (headB h).length := by
  have e1 := encI_pos h.seq
  unfold headB tHeader
  simp only [szM, szP, szI, List.length_append, numsB, List.flatMap_cons, List.flatMap_nil, List.append_nil]
  omega
theorem proof_sz {p : ProofD} (h : proofE p = 0) : tProof.sz p + 30 ≤ 64 * (proofB p).length := by
  unfold proofE at h
  simp only [orE_zero, listE_zero] at h
  obtain ⟨_, _, _, _, h5, _, _, _, _, h10, h11⟩ := h
  have e1 := byF_ge p.topic
  have e2 := byF_ge p.record
  have e3 := puts_sz (ok := fun h => headE h = 0) (fun p _ => head_sz p) h5
  have e4 := puts_sz (sz := tI.sz) (b := encI) (ok := fun n => numE n = 0) (fun n _ => by rw [szI]; have := encI_pos n; omega) h10
  have e5 := cert_sz h11
  unfold putsB at e3 e4
  unfold proofB tProof
  simp only [szM, szP, szI, szL, szS, szY, List.length_append, numsB, List.flatMap_cons, List.flatMap_nil, List.append_nil] at e3 e4 ⊢
  omega
end Go.Proofs.YteaggenihhaajaaGreat

/- A message's size and a core's are bounded by their bytes. No program here. -/
namespace Go.Proofs.YteaggenihhaajaaGreat
open Go.RowKit
set_option linter.unusedVariables false

theorem zc_sz : tCert.sz zCert = 4 := rfl
theorem zp_sz : tProof.sz zProof = 12 := rfl
theorem res_sz (r : ResultD) : tResult.sz r = 3 := rfl
theorem zg_sz (s : SignD) : tSign.sz s = 3 := rfl
theorem msg_sz {m : MsgD} (h : checkE m = 0) : tMsg.sz m + 30 ≤ 64 * (fullB m).length := by
  obtain ⟨h1, h2⟩ := checkE_ok h
  unfold msgE at h1
  rw [orE_zero] at h1
  obtain ⟨h3, h4⟩ := h1
  have hr := kind_range h3
  have kk := fun k => @kindAt m h3 k
  have hk' : m.kind = 1 ∨ m.kind = 2 ∨ m.kind = 3 ∨ m.kind = 4 ∨ m.kind = 5 ∨ m.kind = 6 ∨ m.kind = 7 ∨ m.kind = 8 ∨ m.kind = 9 ∨ m.kind = 10 ∨ m.kind = 11 ∨ m.kind = 12 := by omega
  have p0 := encI_pos m.kind
  have p1 := encI_pos m.src
  have p2 := encI_pos m.view
  have p3 := encI_pos m.seq
  have e : ∀ (P : MsgD → Prop), P (bareF m) → P m := fun P hP => by rw [h2]; exact hP
  rcases hk' with k | k | k | k | k | k | k | k | k | k | k | k
  all_goals
    have g := kk _ k
    simp [kindE, voteE, newE, orE_zero, numE_ok, posE_ok, brokE_ok, rangeE_ok, manyE_ok, listE_zero] at g
  · skip
    have z_cert : m.cert = zCert := e (fun m => m.cert = zCert) (by unfold bareF; rw [k]; rfl)
    have z_changes : m.changes = [] := e (fun m => m.changes = []) (by unfold bareF; rw [k]; rfl)
    have z_entries : m.entries = [] := e (fun m => m.entries = []) (by unfold bareF; rw [k]; rfl)
    have z_state : m.state = [] := e (fun m => m.state = []) (by unfold bareF; rw [k]; rfl)
    have z_topic : m.topic = [] := e (fun m => m.topic = []) (by unfold bareF; rw [k]; rfl)
    have z_proof : m.proof = zProof := e (fun m => m.proof = zProof) (by unfold bareF; rw [k]; rfl)
    have q1 := batch_sz g.2
    unfold fullB unsB tailB tMsg
    simp only [szM, szP, szI, szL, szS, szY, z_cert, z_changes, z_entries, z_state, z_topic, z_proof]
    simp only [k]
    simp [signedK, zc_sz, zp_sz, res_sz, zg_sz, -List.length_flatMap]
    have p0' := encI_pos 1
    try simp only [List.length_append] at *
    omega
  · skip
    have z_cert : m.cert = zCert := e (fun m => m.cert = zCert) (by unfold bareF; rw [k]; rfl)
    have z_changes : m.changes = [] := e (fun m => m.changes = []) (by unfold bareF; rw [k]; rfl)
    have z_entries : m.entries = [] := e (fun m => m.entries = []) (by unfold bareF; rw [k]; rfl)
    have z_state : m.state = [] := e (fun m => m.state = []) (by unfold bareF; rw [k]; rfl)
    have z_topic : m.topic = [] := e (fun m => m.topic = []) (by unfold bareF; rw [k]; rfl)
    have z_proof : m.proof = zProof := e (fun m => m.proof = zProof) (by unfold bareF; rw [k]; rfl)
    have q1 := batch_sz g.2
    unfold fullB unsB tailB tMsg
    simp only [szM, szP, szI, szL, szS, szY, z_cert, z_changes, z_entries, z_state, z_topic, z_proof]
    simp only [k]
    simp [signedK, zc_sz, zp_sz, res_sz, zg_sz, numsB, -List.length_flatMap]
    have p0' := encI_pos 2
    try simp only [List.length_append] at *
    omega
  · skip
    have z_batch : m.batch = [] := e (fun m => m.batch = []) (by unfold bareF; rw [k]; rfl)
    have z_cert : m.cert = zCert := e (fun m => m.cert = zCert) (by unfold bareF; rw [k]; rfl)
    have z_changes : m.changes = [] := e (fun m => m.changes = []) (by unfold bareF; rw [k]; rfl)
    have z_entries : m.entries = [] := e (fun m => m.entries = []) (by unfold bareF; rw [k]; rfl)
    have z_state : m.state = [] := e (fun m => m.state = []) (by unfold bareF; rw [k]; rfl)
    have z_topic : m.topic = [] := e (fun m => m.topic = []) (by unfold bareF; rw [k]; rfl)
    have z_proof : m.proof = zProof := e (fun m => m.proof = zProof) (by unfold bareF; rw [k]; rfl)
    unfold fullB unsB tailB tMsg
    simp only [szM, szP, szI, szL, szS, szY, z_batch, z_cert, z_changes, z_entries, z_state, z_topic, z_proof]
    simp only [k]
    simp [signedK, zc_sz, zp_sz, res_sz, zg_sz, numsB, -List.length_flatMap]
    have p0' := encI_pos 3
    try simp only [List.length_append] at *
    omega
  · skip
    have z_batch : m.batch = [] := e (fun m => m.batch = []) (by unfold bareF; rw [k]; rfl)
    have z_cert : m.cert = zCert := e (fun m => m.cert = zCert) (by unfold bareF; rw [k]; rfl)
    have z_changes : m.changes = [] := e (fun m => m.changes = []) (by unfold bareF; rw [k]; rfl)
    have z_entries : m.entries = [] := e (fun m => m.entries = []) (by unfold bareF; rw [k]; rfl)
    have z_state : m.state = [] := e (fun m => m.state = []) (by unfold bareF; rw [k]; rfl)
    have z_topic : m.topic = [] := e (fun m => m.topic = []) (by unfold bareF; rw [k]; rfl)
    have z_proof : m.proof = zProof := e (fun m => m.proof = zProof) (by unfold bareF; rw [k]; rfl)
    unfold fullB unsB tailB tMsg
    simp only [szM, szP, szI, szL, szS, szY, z_batch, z_cert, z_changes, z_entries, z_state, z_topic, z_proof]
    simp only [k]
    simp [signedK, zc_sz, zp_sz, res_sz, zg_sz, numsB, -List.length_flatMap]
    have p0' := encI_pos 4
    try simp only [List.length_append] at *
    omega
  · skip
    have z_batch : m.batch = [] := e (fun m => m.batch = []) (by unfold bareF; rw [k]; rfl)
    have z_cert : m.cert = zCert := e (fun m => m.cert = zCert) (by unfold bareF; rw [k]; rfl)
    have z_changes : m.changes = [] := e (fun m => m.changes = []) (by unfold bareF; rw [k]; rfl)
    have z_entries : m.entries = [] := e (fun m => m.entries = []) (by unfold bareF; rw [k]; rfl)
    have z_state : m.state = [] := e (fun m => m.state = []) (by unfold bareF; rw [k]; rfl)
    have z_topic : m.topic = [] := e (fun m => m.topic = []) (by unfold bareF; rw [k]; rfl)
    have z_proof : m.proof = zProof := e (fun m => m.proof = zProof) (by unfold bareF; rw [k]; rfl)
    unfold fullB unsB tailB tMsg
    simp only [szM, szP, szI, szL, szS, szY, z_batch, z_cert, z_changes, z_entries, z_state, z_topic, z_proof]
    simp only [k]
    simp [signedK, zc_sz, zp_sz, res_sz, zg_sz, numsB, -List.length_flatMap]
    have p0' := encI_pos 5
    try simp only [List.length_append] at *
    omega
  · skip
    have z_batch : m.batch = [] := e (fun m => m.batch = []) (by unfold bareF; rw [k]; rfl)
    have z_cert : m.cert = zCert := e (fun m => m.cert = zCert) (by unfold bareF; rw [k]; rfl)
    have z_changes : m.changes = [] := e (fun m => m.changes = []) (by unfold bareF; rw [k]; rfl)
    have z_entries : m.entries = [] := e (fun m => m.entries = []) (by unfold bareF; rw [k]; rfl)
    have z_state : m.state = [] := e (fun m => m.state = []) (by unfold bareF; rw [k]; rfl)
    have z_topic : m.topic = [] := e (fun m => m.topic = []) (by unfold bareF; rw [k]; rfl)
    have z_proof : m.proof = zProof := e (fun m => m.proof = zProof) (by unfold bareF; rw [k]; rfl)
    unfold fullB unsB tailB tMsg
    simp only [szM, szP, szI, szL, szS, szY, z_batch, z_cert, z_changes, z_entries, z_state, z_topic, z_proof]
    simp only [k]
    simp [signedK, zc_sz, zp_sz, res_sz, zg_sz, numsB, -List.length_flatMap]
    have p0' := encI_pos 6
    try simp only [List.length_append] at *
    omega
  · skip
    have z_batch : m.batch = [] := e (fun m => m.batch = []) (by unfold bareF; rw [k]; rfl)
    have z_cert : m.cert = zCert := e (fun m => m.cert = zCert) (by unfold bareF; rw [k]; rfl)
    have z_entries : m.entries = [] := e (fun m => m.entries = []) (by unfold bareF; rw [k]; rfl)
    have z_state : m.state = [] := e (fun m => m.state = []) (by unfold bareF; rw [k]; rfl)
    have z_topic : m.topic = [] := e (fun m => m.topic = []) (by unfold bareF; rw [k]; rfl)
    have z_proof : m.proof = zProof := e (fun m => m.proof = zProof) (by unfold bareF; rw [k]; rfl)
    obtain ⟨g1, g2⟩ := g
    obtain ⟨c, hc⟩ : ∃ c, m.changes = [c] := one_of (by omega)
    rw [hc] at g2
    simp [viewE, orE_zero] at g2
    have q1 := chg_sz g2.1
    unfold chgB at q1
    unfold fullB unsB tailB tMsg
    simp only [szM, szP, szI, szL, szS, szY, z_batch, z_cert, z_entries, z_state, z_topic, z_proof, hc]
    simp only [k]
    simp [zc_sz, zp_sz, res_sz, zg_sz, -List.length_flatMap]
    have p0' := encI_pos 7
    try simp only [List.length_append] at *
    omega
  · skip
    have z_batch : m.batch = [] := e (fun m => m.batch = []) (by unfold bareF; rw [k]; rfl)
    have z_cert : m.cert = zCert := e (fun m => m.cert = zCert) (by unfold bareF; rw [k]; rfl)
    have z_state : m.state = [] := e (fun m => m.state = []) (by unfold bareF; rw [k]; rfl)
    have z_topic : m.topic = [] := e (fun m => m.topic = []) (by unfold bareF; rw [k]; rfl)
    have z_proof : m.proof = zProof := e (fun m => m.proof = zProof) (by unfold bareF; rw [k]; rfl)
    have q1 := puts_sz (fun c => chg_sz (c := c)) g.2.2.2.1
    have q2 := puts_sz (fun c => entry_sz (x := c)) g.2.2.2.2.2
    unfold putsB at q1 q2
    simp only [List.length_append] at q1 q2
    unfold fullB unsB tailB tMsg
    simp only [szM, szP, szI, szL, szS, szY, z_batch, z_cert, z_state, z_topic, z_proof]
    simp only [k]
    simp [signedK, zc_sz, zp_sz, res_sz, zg_sz, numsB, -List.length_flatMap]
    have p0' := encI_pos 8
    try simp only [List.length_append] at *
    omega
  · skip
    have z_batch : m.batch = [] := e (fun m => m.batch = []) (by unfold bareF; rw [k]; rfl)
    have z_cert : m.cert = zCert := e (fun m => m.cert = zCert) (by unfold bareF; rw [k]; rfl)
    have z_changes : m.changes = [] := e (fun m => m.changes = []) (by unfold bareF; rw [k]; rfl)
    have z_entries : m.entries = [] := e (fun m => m.entries = []) (by unfold bareF; rw [k]; rfl)
    have z_state : m.state = [] := e (fun m => m.state = []) (by unfold bareF; rw [k]; rfl)
    have z_topic : m.topic = [] := e (fun m => m.topic = []) (by unfold bareF; rw [k]; rfl)
    have z_proof : m.proof = zProof := e (fun m => m.proof = zProof) (by unfold bareF; rw [k]; rfl)
    unfold fullB unsB tailB tMsg
    simp only [szM, szP, szI, szL, szS, szY, z_batch, z_cert, z_changes, z_entries, z_state, z_topic, z_proof]
    simp only [k]
    simp [signedK, zc_sz, zp_sz, res_sz, zg_sz, numsB, -List.length_flatMap]
    have p0' := encI_pos 9
    try simp only [List.length_append] at *
    omega
  · skip
    have z_batch : m.batch = [] := e (fun m => m.batch = []) (by unfold bareF; rw [k]; rfl)
    have z_changes : m.changes = [] := e (fun m => m.changes = []) (by unfold bareF; rw [k]; rfl)
    have z_entries : m.entries = [] := e (fun m => m.entries = []) (by unfold bareF; rw [k]; rfl)
    have z_topic : m.topic = [] := e (fun m => m.topic = []) (by unfold bareF; rw [k]; rfl)
    have z_proof : m.proof = zProof := e (fun m => m.proof = zProof) (by unfold bareF; rw [k]; rfl)
    have q1 := cert_sz g.2.1
    have q2 := byF_ge m.state
    unfold fullB unsB tailB tMsg
    simp only [szM, szP, szI, szL, szS, szY, z_batch, z_changes, z_entries, z_topic, z_proof]
    simp only [k]
    simp [signedK, zp_sz, res_sz, zg_sz, numsB, -List.length_flatMap]
    have p0' := encI_pos 10
    try simp only [List.length_append] at *
    omega
  · skip
    have z_batch : m.batch = [] := e (fun m => m.batch = []) (by unfold bareF; rw [k]; rfl)
    have z_cert : m.cert = zCert := e (fun m => m.cert = zCert) (by unfold bareF; rw [k]; rfl)
    have z_changes : m.changes = [] := e (fun m => m.changes = []) (by unfold bareF; rw [k]; rfl)
    have z_entries : m.entries = [] := e (fun m => m.entries = []) (by unfold bareF; rw [k]; rfl)
    have z_state : m.state = [] := e (fun m => m.state = []) (by unfold bareF; rw [k]; rfl)
    have z_proof : m.proof = zProof := e (fun m => m.proof = zProof) (by unfold bareF; rw [k]; rfl)
    have q2 := byF_ge m.topic
    unfold fullB unsB tailB tMsg
    simp only [szM, szP, szI, szL, szS, szY, z_batch, z_cert, z_changes, z_entries, z_state, z_proof]
    simp only [k]
    simp [signedK, zc_sz, zp_sz, res_sz, zg_sz, numsB, -List.length_flatMap]
    have p0' := encI_pos 11
    try simp only [List.length_append] at *
    omega
  · skip
    have z_batch : m.batch = [] := e (fun m => m.batch = []) (by unfold bareF; rw [k]; rfl)
    have z_cert : m.cert = zCert := e (fun m => m.cert = zCert) (by unfold bareF; rw [k]; rfl)
    have z_changes : m.changes = [] := e (fun m => m.changes = []) (by unfold bareF; rw [k]; rfl)
    have z_entries : m.entries = [] := e (fun m => m.entries = []) (by unfold bareF; rw [k]; rfl)
    have z_state : m.state = [] := e (fun m => m.state = []) (by unfold bareF; rw [k]; rfl)
    have z_topic : m.topic = [] := e (fun m => m.topic = []) (by unfold bareF; rw [k]; rfl)
    have q1 := proof_sz g.2
    unfold fullB unsB tailB tMsg
    simp only [szM, szP, szI, szL, szS, szY, z_batch, z_cert, z_changes, z_entries, z_state, z_topic]
    simp only [k]
    simp [signedK, zc_sz, res_sz, zg_sz, numsB, -List.length_flatMap]
    have p0' := encI_pos 12
    try simp only [List.length_append] at *
    omega
theorem placed_sz (p : PlacedD) : tPlaced.sz p + 30 ≤ 64 * (placedB p).length := by
  have e1 := byF_ge p.topic
  have e2 := byF_ge p.record
  unfold placedB tPlaced
  simp only [szM, szP, szI, szS, szY, List.length_append]
  omega
theorem hdr_sz (h : HeaderD) : tHeader.sz h + 30 ≤ 64 * (byF (hdrB h)).length := by
  have e1 := byF_ge (hdrB h)
  unfold hdrB at e1
  rw [List.length_cons] at e1
  unfold hdrB tHeader
  simp only [szM, szP, szI]
  omega
theorem block_sz {x : BlockD} (h : blockOk x) : tBlock.sz x + 30 ≤ 64 * (blockB x).length := by
  have e1 := hdr_sz x.header
  have e2 := batch_sz h.2.1
  have e3 := puts_sz (ok := fun _ => True) (fun p _ => placed_sz p) (l := x.placed) (fun _ _ => trivial)
  unfold blockB tBlock
  simp only [szM, szP, szL, List.length_append]
  omega
theorem voteS_sz {v : VoteD} (h : kVoteOk v) : tVote.sz v + 30 ≤ 64 * (kVoteB v).length := by
  have e1 := sign_szP h.2.2
  have e2 := encI_pos v.seq
  unfold kVoteB tVote
  simp only [szM, szP, szI, List.length_append, numsB, List.flatMap_cons, List.flatMap_nil, List.append_nil]
  omega
theorem markS_sz (m : MarkD) : tMark.sz m + 30 ≤ 64 * (markB m).length := by
  have e1 := hdr_sz m.header
  have e2 := byF_ge m.topics
  unfold markB tMark
  simp only [szM, szP, szY, List.length_append]
  omega
theorem voteOfS_sz {v : VoteOfD} (h : voteOfOk v) : tVoteOf.sz v + 30 ≤ 64 * (voteOfB v).length := by
  have e1 := sign_szP h.2
  have e2 := encI_pos v.digest
  unfold voteOfB tVoteOf
  simp only [szM, szP, szI, List.length_append, numsB, List.flatMap_cons, List.flatMap_nil, List.append_nil]
  omega
theorem slotS_sz {s : SlotD} (h : slotOk s) : tSlot.sz s + 30 ≤ 64 * (slotB s).length := by
  obtain ⟨_, _, h3, h4, h5, h6⟩ := h
  have e1 := encI_pos s.seq
  have e2 := encI_pos s.digest
  have e3 := puts_sz (fun v => voteOfS_sz (v := v)) h5.2
  have e4 := puts_sz (fun v => voteOfS_sz (v := v)) h6.2
  unfold slotB tSlot
  cases hh : s.has
  · obtain ⟨f1, f2⟩ := h4 hh
    simp only [szM, szP, szI, szB, szL, zg_sz, f2, List.length_append, numsB, List.flatMap_cons, List.flatMap_nil, List.append_nil, List.map_nil, List.sum_nil]
    omega
  · obtain ⟨f1, f2⟩ := h3 hh
    have e5 := sign_szP f1
    have e6 := batch_sz f2
    simp only [szM, szP, szI, szB, szL, if_true, List.length_append, numsB, List.flatMap_cons, List.flatMap_nil, List.append_nil]
    omega
theorem heldS_sz {p : PreparedD} (h : kPrepOk p) : tPrepared.sz p + 30 ≤ 64 * (kPrepB p).length := by
  obtain ⟨_, _, _, h4, h5, h6⟩ := h
  have e1 := sign_szP h4
  have e2 := puts_sz (fun s => sign_szP (s := s)) h5.2
  have e3 := batch_sz h6
  have e4 := encI_pos p.view
  unfold kPrepB tPrepared
  simp only [szM, szP, szI, szL, List.length_append, numsB, List.flatMap_cons, List.flatMap_nil, List.append_nil]
  omega
theorem kCert_sz {c : CertD} (h : kCertOk c) : tCert.sz c + 30 ≤ 64 * (kCertB c).length := by
  have e1 := cert_sz h.1
  have e2 := byF_ge (certB c)
  unfold kCertB
  omega
theorem kChg_sz {c : ChangeD} (h : kChgOk c) : tChange.sz c + 30 ≤ 64 * (kChgB c).length := by
  have e1 := chg_sz h.1
  have e2 := byF_ge (chgB c)
  unfold kChgB
  omega
theorem kMsg_sz {c : MsgD} (h : kMsgOk c) : tMsg.sz c + 30 ≤ 64 * (kMsgB c).length := by
  have e1 := msg_sz h.1
  have e2 := byF_ge (fullB c)
  unfold kMsgB
  omega
theorem wait_sz {s : SignedD} (h : waitOk s) : tSigned.sz s + 30 ≤ 64 * (waitB s).length := by
  have e1 := batch_sz (l := [s]) h
  simp only [List.map_cons, List.map_nil, List.sum_cons, List.sum_nil] at e1
  unfold waitB
  omega
end Go.Proofs.YteaggenihhaajaaGreat

/- A core's size is bounded by its bytes. No program here. -/
namespace Go.Proofs.YteaggenihhaajaaGreat
open Go.RowKit
set_option linter.unusedVariables false

theorem ad {a l R M : Nat} (h : a ≤ 64 * l) (k : R ≤ 64 * M) : a + R ≤ 64 * (l + M) := by omega
theorem core_sum {x0 x1 x2 x3 x4 x5 x6 x7 x8 x9 x10 x11 x12 x13 x14 x15 x16 x17 x18 x19 x20 x21 x22 x23 x24 x25 x26 x27 x28 x29 x30 x31 x32 : Nat} (q1 : 1 ≤ x0) (p1 : 1 ≤ x1) (q2 : 1 ≤ x2) (p3 : 1 ≤ x3) (q3 : x20 + 30 ≤ 64 * x4) (q4 : x21 + 1 + 30 ≤ 64 * x5) (q5 : x22 + 1 ≤ x6) (q6 : x23 + 30 ≤ 64 * x7) (q7 : x24 + 1 + 30 ≤ 64 * x8) (q8 : x25 + 1 + 30 ≤ 64 * x9) (q9 : x26 + 1 + 30 ≤ 64 * x10) (q10 : x27 + 1 + 30 ≤ 64 * x11) (q11 : x28 + 1 + 30 ≤ 64 * x12) (q12 : x29 + 1 + 30 ≤ 64 * x13) (q13 : x30 + 1 + 30 ≤ 64 * x14) (q14 : x31 + 1 + 30 ≤ 64 * x15) (p16 : 1 ≤ x16) (p17 : 1 ≤ x17) (q17 : x32 + 1 + 30 ≤ 64 * x18) (q18 : 1 ≤ x19) :
    1 + (1 + (1 + (1 + (x20 + (x21 + 1 + (x22 + 1 + (x23 + (x24 + 1 + (x25 + 1)) + 1 + (x26 + 1 + (x27 + 1 + (x28 + 1 + (x29 + 1 + (x30 + 1 + (x31 + 1 + 1 + (1 + 1 + 1 + (x32 + 1 + 1))))))))))))))) + 1 ≤
      64 * (x0 + x1 + (x2 + x3) + x4 + x5 + x6 + x7 + x8 + x9 + x10 + x11 + x12 + x13 + x14 + x15 + (x16 + x17) + x18 + x19) := by
  have h0 : 1 + 1 ≤ 64 * x0 := by clear p1 q2 p3 q3 q4 q5 q6 q7 q8 q9 q10 q11 q12 q13 q14 p16 p17 q17 q18; omega
  have h1 : 1 ≤ 64 * x1 := by clear q1 q2 p3 q3 q4 q5 q6 q7 q8 q9 q10 q11 q12 q13 q14 p16 p17 q17 q18 h0; omega
  have h2 : 1 ≤ 64 * x2 := by clear q1 p1 p3 q3 q4 q5 q6 q7 q8 q9 q10 q11 q12 q13 q14 p16 p17 q17 q18 h0 h1; omega
  have h3 : 1 ≤ 64 * x3 := by clear q1 p1 q2 q3 q4 q5 q6 q7 q8 q9 q10 q11 q12 q13 q14 p16 p17 q17 q18 h0 h1 h2; omega
  have h4 : x20 ≤ 64 * x4 := by clear q1 p1 q2 p3 q4 q5 q6 q7 q8 q9 q10 q11 q12 q13 q14 p16 p17 q17 q18 h0 h1 h2 h3; omega
  have h5 : x21 + 1 ≤ 64 * x5 := by clear q1 p1 q2 p3 q3 q5 q6 q7 q8 q9 q10 q11 q12 q13 q14 p16 p17 q17 q18 h0 h1 h2 h3 h4; omega
  have h6 : x22 + 1 ≤ 64 * x6 := by clear q1 p1 q2 p3 q3 q4 q6 q7 q8 q9 q10 q11 q12 q13 q14 p16 p17 q17 q18 h0 h1 h2 h3 h4 h5; omega
  have h7 : x23 + 1 ≤ 64 * x7 := by clear q1 p1 q2 p3 q3 q4 q5 q7 q8 q9 q10 q11 q12 q13 q14 p16 p17 q17 q18 h0 h1 h2 h3 h4 h5 h6; omega
  have h8 : x24 + 1 ≤ 64 * x8 := by clear q1 p1 q2 p3 q3 q4 q5 q6 q8 q9 q10 q11 q12 q13 q14 p16 p17 q17 q18 h0 h1 h2 h3 h4 h5 h6 h7; omega
  have h9 : x25 + 1 ≤ 64 * x9 := by clear q1 p1 q2 p3 q3 q4 q5 q6 q7 q9 q10 q11 q12 q13 q14 p16 p17 q17 q18 h0 h1 h2 h3 h4 h5 h6 h7 h8; omega
  have h10 : x26 + 1 ≤ 64 * x10 := by clear q1 p1 q2 p3 q3 q4 q5 q6 q7 q8 q10 q11 q12 q13 q14 p16 p17 q17 q18 h0 h1 h2 h3 h4 h5 h6 h7 h8 h9; omega
  have h11 : x27 + 1 ≤ 64 * x11 := by clear q1 p1 q2 p3 q3 q4 q5 q6 q7 q8 q9 q11 q12 q13 q14 p16 p17 q17 q18 h0 h1 h2 h3 h4 h5 h6 h7 h8 h9 h10; omega
  have h12 : x28 + 1 ≤ 64 * x12 := by clear q1 p1 q2 p3 q3 q4 q5 q6 q7 q8 q9 q10 q12 q13 q14 p16 p17 q17 q18 h0 h1 h2 h3 h4 h5 h6 h7 h8 h9 h10 h11; omega
  have h13 : x29 + 1 ≤ 64 * x13 := by clear q1 p1 q2 p3 q3 q4 q5 q6 q7 q8 q9 q10 q11 q13 q14 p16 p17 q17 q18 h0 h1 h2 h3 h4 h5 h6 h7 h8 h9 h10 h11 h12; omega
  have h14 : x30 + 1 ≤ 64 * x14 := by clear q1 p1 q2 p3 q3 q4 q5 q6 q7 q8 q9 q10 q11 q12 q14 p16 p17 q17 q18 h0 h1 h2 h3 h4 h5 h6 h7 h8 h9 h10 h11 h12 h13; omega
  have h15 : x31 + 1 + 1 ≤ 64 * x15 := by clear q1 p1 q2 p3 q3 q4 q5 q6 q7 q8 q9 q10 q11 q12 q13 p16 p17 q17 q18 h0 h1 h2 h3 h4 h5 h6 h7 h8 h9 h10 h11 h12 h13 h14; omega
  have h16 : 1 ≤ 64 * x16 := by clear q1 p1 q2 p3 q3 q4 q5 q6 q7 q8 q9 q10 q11 q12 q13 q14 p17 q17 q18 h0 h1 h2 h3 h4 h5 h6 h7 h8 h9 h10 h11 h12 h13 h14 h15; omega
  have h17 : 1 ≤ 64 * x17 := by clear q1 p1 q2 p3 q3 q4 q5 q6 q7 q8 q9 q10 q11 q12 q13 q14 p16 q17 q18 h0 h1 h2 h3 h4 h5 h6 h7 h8 h9 h10 h11 h12 h13 h14 h15 h16; omega
  have h18 : x32 + 1 ≤ 64 * x18 := by clear q1 p1 q2 p3 q3 q4 q5 q6 q7 q8 q9 q10 q11 q12 q13 q14 p16 p17 q18 h0 h1 h2 h3 h4 h5 h6 h7 h8 h9 h10 h11 h12 h13 h14 h15 h16 h17; omega
  have h19 : 1 + 1 ≤ 64 * x19 := by clear q1 p1 q2 p3 q3 q4 q5 q6 q7 q8 q9 q10 q11 q12 q13 q14 p16 p17 q17 h0 h1 h2 h3 h4 h5 h6 h7 h8 h9 h10 h11 h12 h13 h14 h15 h16 h17 h18; omega
  have key := (ad h0 (ad h1 (ad h2 (ad h3 (ad h4 (ad h5 (ad h6 (ad h7 (ad h8 (ad h9 (ad h10 (ad h11 (ad h12 (ad h13 (ad h14 (ad h15 (ad h16 (ad h17 (ad h18 h19)))))))))))))))))))
  have e2 : x0 + x1 + (x2 + x3) + x4 + x5 + x6 + x7 + x8 + x9 + x10 + x11 + x12 + x13 + x14 + x15 + (x16 + x17) + x18 + x19 = (x0 + (x1 + (x2 + (x3 + (x4 + (x5 + (x6 + (x7 + (x8 + (x9 + (x10 + (x11 + (x12 + (x13 + (x14 + (x15 + (x16 + (x17 + (x18 + x19))))))))))))))))))) := by simp only [Nat.add_assoc]
  rw [e2]
  refine Nat.le_trans (Nat.le_of_eq ?_) key
  ac_rfl
theorem core_sz {c : CoreD} (h : coreOk c) : tCore.sz c ≤ 64 * (coreB c).length := by
  obtain ⟨a1, a2, a3, a4, a5, a6, a7, a8, a9, a10, a11, a12, a13, a14, a15, a16, a17, a18⟩ := h
  have q1 := encI_pos c.view
  have q2 := encI_pos c.ticks
  have q3 := hdr_sz c.base
  have q4 := puts_sz (fun x => block_sz (x := x)) a5.2
  have q5 := byF_ge c.topics
  have q6 := kCert_sz a6
  have q7 := puts_sz (fun v => voteS_sz (v := v)) a7.2
  have q8 := puts_sz (fun v => kCert_sz (c := v)) a8.2
  have q9 := puts_sz (fun v => kCert_sz (c := v)) a9.2
  have q10 := puts_sz (ok := fun _ => True) (fun v _ => markS_sz v) (l := c.marks) (fun _ _ => trivial)
  have q11 := puts_sz (fun v => slotS_sz (s := v)) a11.2
  have q12 := puts_sz (fun v => heldS_sz (p := v)) a12.2
  have q13 := puts_sz (fun v => kChg_sz (c := v)) a13.2
  have q14 := puts_sz (fun v => wait_sz (s := v)) a14.2
  have q17 := puts_sz (fun v => kMsg_sz (c := v)) a17.2
  have q18 := encI_pos c.wants
  have p1 : 1 ≤ (flagB c.active).length := by unfold flagB; split <;> exact enc_pos _
  have p3 := encI_pos c.floor
  have p16 := encI_pos c.timer.length
  have p17 := encI_pos c.timer.left
  unfold coreB tCore tPoints tPool tTimer
  simp only [szM, szP, szI, szB, szL, szY, List.length_append, numsB, List.flatMap_cons, List.flatMap_nil, List.append_nil]
  exact core_sum q1 p1 q2 p3 q3 q4 q5 q6 q7 q8 q9 q10 q11 q12 q13 q14 p16 p17 q17 q18
end Go.Proofs.YteaggenihhaajaaGreat

/- A whole core read; state.Parse, over data (printed by gen_ws.py). -/
namespace Go.Proofs.YteaggenihhaajaaGreat
open Go.RowKit
set_option linter.unusedVariables false
set_option maxRecDepth 20000

set_option maxHeartbeats 4000000 in
theorem tkCore_s [Wd]  : FnR 19 (.agg [.ptr 0 0]) [] (fun s => .agg (cCore (coreR s).1)) (fun s => (coreR s).2) := by
  rintro ⟨b, e⟩ hs
  replace hs : b.length ≤ 8388609 := hs
  obtain ⟨v, b0, e0, q0, l0⟩ := Rd1.get (nR_rd MX) (b, e)
  replace l0 : b0.length ≤ b.length := l0
  have h0 : b0.length ≤ 8388609 := by omega
  obtain ⟨a, b1, e1, q1, l1⟩ := Rd1.get flagR_rd (b0, e0)
  replace l1 : b1.length ≤ b0.length := l1
  have h1 : b1.length ≤ 8388609 := by omega
  obtain ⟨u, b2, e2, q2, l2⟩ := Rd1.get (nR_rd MX) (b1, e1)
  replace l2 : b2.length ≤ b1.length := l2
  have h2 : b2.length ≤ 8388609 := by omega
  obtain ⟨f, b3, e3, q3, l3⟩ := Rd1.get (nR_rd MX) (b2, e2)
  replace l3 : b3.length ≤ b2.length := l3
  have h3 : b3.length ≤ 8388609 := by omega
  obtain ⟨h, b4, e4, q4, l4⟩ := Rd1.get tHdR_rd (b3, e3)
  replace l4 : b4.length ≤ b3.length := l4
  have h4 : b4.length ≤ 8388609 := by omega
  obtain ⟨bl, b5, e5, q5, l5⟩ := Rd1.get (takesR_rd blockR_rd) (b4, e4)
  replace l5 : b5.length ≤ b4.length := l5
  have h5 : b5.length ≤ 8388609 := by omega
  obtain ⟨tp, b6, e6, q6, l6⟩ := Rd1.get (bytesR_rd 4194304) (b5, e5)
  replace l6 : b6.length ≤ b5.length := l6
  have h6 : b6.length ≤ 8388609 := by omega
  obtain ⟨sb, b7, e7, q7, l7⟩ := Rd1.get tCertR_rd (b6, e6)
  replace l7 : b7.length ≤ b6.length := l7
  have h7 : b7.length ≤ 8388609 := by omega
  obtain ⟨vo, b8, e8, q8, l8⟩ := Rd1.get (takesR_rd voteR_rd) (b7, e7)
  replace l8 : b8.length ≤ b7.length := l8
  have h8 : b8.length ≤ 8388609 := by omega
  obtain ⟨pc, b9, e9, q9, l9⟩ := Rd1.get (takesR_rd tCertR_rd) (b8, e8)
  replace l9 : b9.length ≤ b8.length := l9
  have h9 : b9.length ≤ 8388609 := by omega
  obtain ⟨ce, b10, e10, q10, l10⟩ := Rd1.get (takesR_rd tCertR_rd) (b9, e9)
  replace l10 : b10.length ≤ b9.length := l10
  have h10 : b10.length ≤ 8388609 := by omega
  obtain ⟨mk, b11, e11, q11, l11⟩ := Rd1.get (takesR_rd markR_rd) (b10, e10)
  replace l11 : b11.length ≤ b10.length := l11
  have h11 : b11.length ≤ 8388609 := by omega
  obtain ⟨sl, b12, e12, q12, l12⟩ := Rd1.get (takesR_rd slotR_rd) (b11, e11)
  replace l12 : b12.length ≤ b11.length := l12
  have h12 : b12.length ≤ 8388609 := by omega
  obtain ⟨hp, b13, e13, q13, l13⟩ := Rd1.get (takesR_rd heldR_rd) (b12, e12)
  replace l13 : b13.length ≤ b12.length := l13
  have h13 : b13.length ≤ 8388609 := by omega
  obtain ⟨ch, b14, e14, q14, l14⟩ := Rd1.get (takesR_rd tChgR_rd) (b13, e13)
  replace l14 : b14.length ≤ b13.length := l14
  have h14 : b14.length ≤ 8388609 := by omega
  obtain ⟨wa, b15, e15, q15, l15⟩ := Rd1.get (takesR_rd waitR_rd) (b14, e14)
  replace l15 : b15.length ≤ b14.length := l15
  have h15 : b15.length ≤ 8388609 := by omega
  obtain ⟨tl, b16, e16, q16, l16⟩ := Rd1.get (nR_rd MX) (b15, e15)
  replace l16 : b16.length ≤ b15.length := l16
  have h16 : b16.length ≤ 8388609 := by omega
  obtain ⟨tr, b17, e17, q17, l17⟩ := Rd1.get (nR_rd MX) (b16, e16)
  replace l17 : b17.length ≤ b16.length := l17
  have h17 : b17.length ≤ 8388609 := by omega
  obtain ⟨ne, b18, e18, q18, l18⟩ := Rd1.get (takesR_rd tMsgR_rd) (b17, e17)
  replace l18 : b18.length ≤ b17.length := l18
  have h18 : b18.length ≤ 8388609 := by omega
  obtain ⟨wn, b19, e19, q19, l19⟩ := Rd1.get (nR_rd MX) (b18, e18)
  replace l19 : b19.length ≤ b18.length := l19
  have h19 : b19.length ≤ 8388609 := by omega
  have eR : coreR (b, e) = ({ view := v, active := a, ticks := u, floor := f, base := h, blocks := bl, topics := tp, points := ⟨sb, vo, pc⟩, certs := ce, marks := mk, slots := sl, held := hp, changes := ch, pool := ⟨wa⟩, timer := ⟨tl, tr⟩, news := ne, wants := wn }, (b19, e19)) := by unfold coreR coreR1 coreR2 coreR3 mapR pairR bindR; simp only [q0, q1, q2, q3, q4, q5, q6, q7, q8, q9, q10, q11, q12, q13, q14, q15, q16, q17, q18, q19]
  refine mkS 71 [] Tryz.func19 rfl (by kernel_rfl) ?_
  repeat'
    (conv => arg 2; whnf)
    first
    | refine okAsk (by kernel_rfl) ?_
    | refine okBoth ?_ ?_
    | refine okBrT ?_
    | refine okBrF ?_
    | refine okRd 0 (b, e) (b0, e0) (.int .i64 v) tkNum_s hs (congrArg Prod.snd q0).symm (congrArg (fun r : Int × RS => D.int .i64 r.1) q0).symm ⟨⟨rfl, rfl⟩, trivial⟩ (Cos.refl _) rfl ?_
    | refine okRd 0 (b0, e0) (b1, e1) (.bool a) tkFlag_s h0 (congrArg Prod.snd q1).symm (congrArg (fun r : Bool × RS => D.bool r.1) q1).symm ⟨⟨rfl, rfl⟩, trivial⟩ (Cos.refl _) rfl ?_
    | refine okRd 0 (b1, e1) (b2, e2) (.int .i64 u) tkNum_s h1 (congrArg Prod.snd q2).symm (congrArg (fun r : Int × RS => D.int .i64 r.1) q2).symm ⟨⟨rfl, rfl⟩, trivial⟩ (Cos.refl _) rfl ?_
    | refine okRd 0 (b2, e2) (b3, e3) (.int .i64 f) tkNum_s h2 (congrArg Prod.snd q3).symm (congrArg (fun r : Int × RS => D.int .i64 r.1) q3).symm ⟨⟨rfl, rfl⟩, trivial⟩ (Cos.refl _) rfl ?_
    | refine okRd 0 (b3, e3) (b4, e4) (.agg (cHeader h)) tkHeader_s h3 (congrArg Prod.snd q4).symm (congrArg (fun r : HeaderD × RS => D.agg (cHeader r.1)) q4).symm ⟨⟨rfl, rfl⟩, trivial⟩ (Cos.refl _) rfl ?_
    | refine okRd 0 (b4, e4) (b5, e5) (.list 7 (bl.map cBlock)) takesBlock_s h4 (congrArg Prod.snd q5).symm (congrArg (fun r : List BlockD × RS => D.list 7 (r.1.map cBlock)) q5).symm ⟨⟨rfl, rfl⟩, trivial⟩ (Cos.refl _) rfl ?_
    | refine okRd 0 (b5, e5) (b6, e6) (.list 1 (tp.map cByte)) tkStr_s h5 (congrArg Prod.snd q6).symm (congrArg (fun r : List UInt8 × RS => D.list 1 (r.1.map cByte)) q6).symm ⟨⟨rfl, rfl⟩, trivial⟩ (Cos.refl _) rfl ?_
    | refine okRd 0 (b6, e6) (b7, e7) (.agg (cCert sb)) tkCert_s h6 (congrArg Prod.snd q7).symm (congrArg (fun r : CertD × RS => D.agg (cCert r.1)) q7).symm ⟨⟨rfl, rfl⟩, trivial⟩ (Cos.refl _) rfl ?_
    | refine okRd 0 (b7, e7) (b8, e8) (.list 4 (vo.map cVote)) takesVote_s h7 (congrArg Prod.snd q8).symm (congrArg (fun r : List VoteD × RS => D.list 4 (r.1.map cVote)) q8).symm ⟨⟨rfl, rfl⟩, trivial⟩ (Cos.refl _) rfl ?_
    | refine okRd 0 (b8, e8) (b9, e9) (.list 3 (pc.map cCert)) takesCert_s h8 (congrArg Prod.snd q9).symm (congrArg (fun r : List CertD × RS => D.list 3 (r.1.map cCert)) q9).symm ⟨⟨rfl, rfl⟩, trivial⟩ (Cos.refl _) rfl ?_
    | refine okRd 0 (b9, e9) (b10, e10) (.list 3 (ce.map cCert)) takesCert_s h9 (congrArg Prod.snd q10).symm (congrArg (fun r : List CertD × RS => D.list 3 (r.1.map cCert)) q10).symm ⟨⟨rfl, rfl⟩, trivial⟩ (Cos.refl _) rfl ?_
    | refine okRd 0 (b10, e10) (b11, e11) (.list 6 (mk.map cMark)) takesMark_s h10 (congrArg Prod.snd q11).symm (congrArg (fun r : List MarkD × RS => D.list 6 (r.1.map cMark)) q11).symm ⟨⟨rfl, rfl⟩, trivial⟩ (Cos.refl _) rfl ?_
    | refine okRd 0 (b11, e11) (b12, e12) (.list 8 (sl.map cSlot)) takesSlot_s h11 (congrArg Prod.snd q12).symm (congrArg (fun r : List SlotD × RS => D.list 8 (r.1.map cSlot)) q12).symm ⟨⟨rfl, rfl⟩, trivial⟩ (Cos.refl _) rfl ?_
    | refine okRd 0 (b12, e12) (b13, e13) (.list 7 (hp.map cPrepared)) takesPrepared_s h12 (congrArg Prod.snd q13).symm (congrArg (fun r : List PreparedD × RS => D.list 7 (r.1.map cPrepared)) q13).symm ⟨⟨rfl, rfl⟩, trivial⟩ (Cos.refl _) rfl ?_
    | refine okRd 0 (b13, e13) (b14, e14) (.list 8 (ch.map cChange)) takesChange_s h13 (congrArg Prod.snd q14).symm (congrArg (fun r : List ChangeD × RS => D.list 8 (r.1.map cChange)) q14).symm ⟨⟨rfl, rfl⟩, trivial⟩ (Cos.refl _) rfl ?_
    | refine okRd 0 (b14, e14) (b15, e15) (.list 9 (wa.map cSigned)) takesSigned_s h14 (congrArg Prod.snd q15).symm (congrArg (fun r : List SignedD × RS => D.list 9 (r.1.map cSigned)) q15).symm ⟨⟨rfl, rfl⟩, trivial⟩ (Cos.refl _) rfl ?_
    | refine okRd 0 (b15, e15) (b16, e16) (.int .i64 tl) tkNum_s h15 (congrArg Prod.snd q16).symm (congrArg (fun r : Int × RS => D.int .i64 r.1) q16).symm ⟨⟨rfl, rfl⟩, trivial⟩ (Cos.refl _) rfl ?_
    | refine okRd 0 (b16, e16) (b17, e17) (.int .i64 tr) tkNum_s h16 (congrArg Prod.snd q17).symm (congrArg (fun r : Int × RS => D.int .i64 r.1) q17).symm ⟨⟨rfl, rfl⟩, trivial⟩ (Cos.refl _) rfl ?_
    | refine okRd 0 (b17, e17) (b18, e18) (.list 30 (ne.map cMsg)) takesMsg_s h17 (congrArg Prod.snd q18).symm (congrArg (fun r : List MsgD × RS => D.list 30 (r.1.map cMsg)) q18).symm ⟨⟨rfl, rfl⟩, trivial⟩ (Cos.refl _) rfl ?_
    | refine okRd 0 (b18, e18) (b19, e19) (.int .i64 wn) tkNum_s h18 (congrArg Prod.snd q19).symm (congrArg (fun r : Int × RS => D.int .i64 r.1) q19).symm ⟨⟨rfl, rfl⟩, trivial⟩ (Cos.refl _) rfl ?_
    | refine endRd (d := .agg (cCore ({ view := v, active := a, ticks := u, floor := f, base := h, blocks := bl, topics := tp, points := ⟨sb, vo, pc⟩, certs := ce, marks := mk, slots := sl, held := hp, changes := ch, pool := ⟨wa⟩, timer := ⟨tl, tr⟩, news := ne, wants := wn }))) (.inr rfl) rfl ⟨⟨rfl, rfl⟩, trivial⟩ rfl (.refl _) (congrArg Prod.snd eR).symm (congrArg (fun r : CoreD × RS => D.agg (cCore r.1)) eR).symm
theorem stParse_s [Wd] (bs : List UInt8) (hl : bs.length ≤ 4194304) : FnP Tryz.prog 9 [.list 1 (bs.map cByte)] (.tup [.agg (cCore (coreP bs).1), .int .i64 (coreP bs).2]) := by
  obtain ⟨x, b, e, ec, hb⟩ := Rd1.get coreR_rd (bs, 0)
  replace hb : b.length ≤ bs.length := hb
  obtain ⟨d, hd⟩ : ∃ d, d = doneR (b, e) := ⟨_, rfl⟩
  have hz : decide (((bs.map cByte).length : Int) > 4194304) = false := by rw [List.length_map]; simp; omega
  have eR : coreP bs = if d = 0 then (x, 0) else (zCore, if d = 10 ∨ d = 11 ∨ d = 12 then d else 200) := by
    unfold coreP
    rw [if_neg (by omega), ec]
    simp only [← hd]
  have gY : d = 0 → coreP bs = (x, 0) := fun h => by rw [eR, if_pos h]
  have gA : d = 10 → coreP bs = (zCore, d) := fun h => by rw [eR, if_neg (by omega), if_pos (.inl h)]
  have gB : d = 11 → coreP bs = (zCore, d) := fun h => by rw [eR, if_neg (by omega), if_pos (.inr (.inl h))]
  have gC : d = 12 → coreP bs = (zCore, d) := fun h => by rw [eR, if_neg (by omega), if_pos (.inr (.inr h))]
  have gN : ¬ d = 0 → ¬ d = 10 → ¬ d = 11 → ¬ d = 12 → coreP bs = (zCore, 200) := fun h h1 h2 h3 => by rw [eR, if_neg h, if_neg (by omega)]
  clear eR
  by_cases h0 : d = 0
  · have b0 : (d == 0) = true := by simpa using h0
    rw [gY h0]
    refine mkS 30 [] Tryz.func9 rfl (by kernel_rfl) ?_
    repeat'
      (conv => arg 2; whnf)
      first
      | refine okAsk (by kernel_rfl) ?_
      | refine okBoth ?_ ?_
      | refine okBrT ?_
      | refine okBrF ?_
      | refine okBr0 hz ?_
      | refine okCall [] (rdRead_s bs (by omega)) (.mk' rfl trivial) (Cos.refl _) rfl ?_
      | refine okRd 1 (bs, 0) (b, e) (.agg (cCore x)) tkCore_s (by show bs.length ≤ _; omega) (congrArg Prod.snd ec).symm (congrArg (fun r : CoreD × RS => D.agg (cCore r.1)) ec).symm ⟨⟨rfl, rfl⟩, trivial⟩ (Cos.refl _) rfl ?_
      | refine okRd 1 (b, e) (b, e) (.int .i64 d) rdDone_s (by show b.length ≤ _; omega) rfl (by rw [hd]) ⟨⟨rfl, rfl⟩, trivial⟩ (Cos.refl _) rfl ?_
      | refine okBr1 b0 ?_
      | refine endFn0 (.inr rfl) rfl (.refl _) rfl
      | fail
  have b0 : (d == 0) = false := by simpa using h0
  by_cases h10 : d = 10
  · have b10 : (d == 10) = true := by simpa using h10
    rw [gA h10]
    refine mkS 30 [] Tryz.func9 rfl (by kernel_rfl) ?_
    repeat'
      (conv => arg 2; whnf)
      first
      | refine okAsk (by kernel_rfl) ?_
      | refine okBoth ?_ ?_
      | refine okBrT ?_
      | refine okBrF ?_
      | refine okBr0 hz ?_
      | refine okCall [] (rdRead_s bs (by omega)) (.mk' rfl trivial) (Cos.refl _) rfl ?_
      | refine okRd 1 (bs, 0) (b, e) (.agg (cCore x)) tkCore_s (by show bs.length ≤ _; omega) (congrArg Prod.snd ec).symm (congrArg (fun r : CoreD × RS => D.agg (cCore r.1)) ec).symm ⟨⟨rfl, rfl⟩, trivial⟩ (Cos.refl _) rfl ?_
      | refine okRd 1 (b, e) (b, e) (.int .i64 d) rdDone_s (by show b.length ≤ _; omega) rfl (by rw [hd]) ⟨⟨rfl, rfl⟩, trivial⟩ (Cos.refl _) rfl ?_
      | refine okBr0 b0 ?_
      | refine okBr1 b10 ?_
      | refine endFn0 (.inr rfl) rfl (Cos.mkTup (Cos.cons (Cos.mkAgg (by repeat' first | exact Cos.nil | refine Cos.cons (.refl _) ?_ | refine Cos.cons (.nil _) ?_)) (Cos.cons (.refl _) .nil))) rfl
      | fail
  have b10 : (d == 10) = false := by simpa using h10
  by_cases h11 : d = 11
  · have b11 : (d == 11) = true := by simpa using h11
    rw [gB h11]
    refine mkS 30 [] Tryz.func9 rfl (by kernel_rfl) ?_
    repeat'
      (conv => arg 2; whnf)
      first
      | refine okAsk (by kernel_rfl) ?_
      | refine okBoth ?_ ?_
      | refine okBrT ?_
      | refine okBrF ?_
      | refine okBr0 hz ?_
      | refine okCall [] (rdRead_s bs (by omega)) (.mk' rfl trivial) (Cos.refl _) rfl ?_
      | refine okRd 1 (bs, 0) (b, e) (.agg (cCore x)) tkCore_s (by show bs.length ≤ _; omega) (congrArg Prod.snd ec).symm (congrArg (fun r : CoreD × RS => D.agg (cCore r.1)) ec).symm ⟨⟨rfl, rfl⟩, trivial⟩ (Cos.refl _) rfl ?_
      | refine okRd 1 (b, e) (b, e) (.int .i64 d) rdDone_s (by show b.length ≤ _; omega) rfl (by rw [hd]) ⟨⟨rfl, rfl⟩, trivial⟩ (Cos.refl _) rfl ?_
      | refine okBr0 b0 ?_
      | refine okBr0 b10 ?_
      | refine okBr1 b11 ?_
      | refine endFn0 (.inr rfl) rfl (Cos.mkTup (Cos.cons (Cos.mkAgg (by repeat' first | exact Cos.nil | refine Cos.cons (.refl _) ?_ | refine Cos.cons (.nil _) ?_)) (Cos.cons (.refl _) .nil))) rfl
      | fail
  have b11 : (d == 11) = false := by simpa using h11
  by_cases h12 : d = 12
  · have b12 : (d == 12) = true := by simpa using h12
    rw [gC h12]
    refine mkS 30 [] Tryz.func9 rfl (by kernel_rfl) ?_
    repeat'
      (conv => arg 2; whnf)
      first
      | refine okAsk (by kernel_rfl) ?_
      | refine okBoth ?_ ?_
      | refine okBrT ?_
      | refine okBrF ?_
      | refine okBr0 hz ?_
      | refine okCall [] (rdRead_s bs (by omega)) (.mk' rfl trivial) (Cos.refl _) rfl ?_
      | refine okRd 1 (bs, 0) (b, e) (.agg (cCore x)) tkCore_s (by show bs.length ≤ _; omega) (congrArg Prod.snd ec).symm (congrArg (fun r : CoreD × RS => D.agg (cCore r.1)) ec).symm ⟨⟨rfl, rfl⟩, trivial⟩ (Cos.refl _) rfl ?_
      | refine okRd 1 (b, e) (b, e) (.int .i64 d) rdDone_s (by show b.length ≤ _; omega) rfl (by rw [hd]) ⟨⟨rfl, rfl⟩, trivial⟩ (Cos.refl _) rfl ?_
      | refine okBr0 b0 ?_
      | refine okBr0 b10 ?_
      | refine okBr0 b11 ?_
      | refine okBr1 b12 ?_
      | refine endFn0 (.inr rfl) rfl (Cos.mkTup (Cos.cons (Cos.mkAgg (by repeat' first | exact Cos.nil | refine Cos.cons (.refl _) ?_ | refine Cos.cons (.nil _) ?_)) (Cos.cons (.refl _) .nil))) rfl
      | fail
  have b12 : (d == 12) = false := by simpa using h12
  rw [gN h0 h10 h11 h12]
  refine mkS 30 [] Tryz.func9 rfl (by kernel_rfl) ?_
  repeat'
    (conv => arg 2; whnf)
    first
    | refine okAsk (by kernel_rfl) ?_
    | refine okBoth ?_ ?_
    | refine okBrT ?_
    | refine okBrF ?_
    | refine okBr0 hz ?_
    | refine okCall [] (rdRead_s bs (by omega)) (.mk' rfl trivial) (Cos.refl _) rfl ?_
    | refine okRd 1 (bs, 0) (b, e) (.agg (cCore x)) tkCore_s (by show bs.length ≤ _; omega) (congrArg Prod.snd ec).symm (congrArg (fun r : CoreD × RS => D.agg (cCore r.1)) ec).symm ⟨⟨rfl, rfl⟩, trivial⟩ (Cos.refl _) rfl ?_
    | refine okRd 1 (b, e) (b, e) (.int .i64 d) rdDone_s (by show b.length ≤ _; omega) rfl (by rw [hd]) ⟨⟨rfl, rfl⟩, trivial⟩ (Cos.refl _) rfl ?_
    | refine okBr0 b0 ?_
    | refine okBr0 b10 ?_
    | refine okBr0 b11 ?_
    | refine okBr0 b12 ?_
    | refine endFn0 (.inr rfl) rfl (Cos.mkTup (Cos.cons (Cos.mkAgg (by repeat' first | exact Cos.nil | refine Cos.cons (.refl _) ?_ | refine Cos.cons (.nil _) ?_)) (Cos.cons (.refl _) .nil))) rfl
    | fail
end Go.Proofs.YteaggenihhaajaaGreat

/- bullalaw20.StateBack: over data; over readings. -/
namespace Go.Proofs.YteaggenihhaajaaGreat
open Go.RowKit
set_option linter.unusedVariables false
set_option maxRecDepth 20000

theorem stBytesZ_s [Wd] (c : CoreD) (hc : dCore.ok c) (hs : tCore.sz c ≤ 500000000) (ho : coreOk c) (hl : (coreB c).length ≤ 4194304) : FnP Tryz.prog 8 [.agg (cCore c)] (.tup [.list 1 ((coreB c).map cByte), .int .i64 0]) := by
  have hw := (wCore_wr c hc).yes ho ([], false) rfl
  simp only [List.nil_append] at hw
  replace hw := hw.symm
  generalize coreB c = xs at *
  refine mkS 26 [] Tryz.func8 rfl (by kernel_rfl) ?_
  repeat'
    (conv => arg 2; whnf)
    first
    | refine okAsk (by kernel_rfl) ?_
    | refine okBoth ?_ ?_
    | refine okBrT ?_
    | refine okBrF ?_
    | refine okBr (fun h => ?_) (fun h => ?_)
    | refine okWeak 1 [.list 1 [], .bool false] rfl (Cos.cons (.nil _) (Cos.cons (.refl _) .nil)) rfl rfl ?_
    | refine okTr1 (w := ([], false)) (w' := (xs, false)) (stCore_s c hc) hw (by show 0 + 262200 * tCore.sz c + 1000 ≤ 140737488355328; exact Nat.not_lt.1 fun _ => by omega) ⟨⟨rfl, rfl⟩, trivial⟩ (Cos.refl _) rfl ?_
    | refine endFn0 (.inr rfl) rfl (.refl _) rfl
    | (exfalso; simp at h; omega)
    | (exfalso; simp_all; done)
theorem coreOk_of {c : CoreD} (hc : dCore.ok c) (h : coreOk c) : coreOk' c :=
  ⟨h, fun x hx p hp => ⟨((hc.2.2.2.2.2.1.2 x hx).2.2.2 p hp).1, ((hc.2.2.2.2.2.1.2 x hx).2.2.2 p hp).2.2⟩, hc.2.2.2.2.2.2.1, fun m hm => (hc.2.2.2.2.2.2.2.2.2.1.2 m hm).2⟩
/-- what state.Bytes makes of the core that bytes say: the bytes -/
theorem parse_two [Wd] (bs : List UInt8) (hl : bs.length ≤ 1048576) :
    (∃ d : CoreD, FnP Tryz.prog 9 [.list 1 (bs.map cByte)] (.tup [.agg (cCore d), .int .i64 0]) ∧ FnP Tryz.prog 8 [.agg (cCore d)] (.tup [.list 1 (bs.map cByte), .int .i64 0])) ∨
    ∃ (d : CoreD) (e : Int), ((e != 0) = true) ∧ FnP Tryz.prog 9 [.list 1 (bs.map cByte)] (.tup [.agg (cCore d), .int .i64 e]) := by
  have h := stParse_s bs (by omega)
  by_cases he : (coreP bs).2 = 0
  · obtain ⟨h1, h2, h3⟩ := coreP_back he
    rw [he] at h
    refine .inl ⟨(coreP bs).1, h, ?_⟩
    have hz := core_sz h1.ok
    rw [← h2] at hz
    have := stBytesZ_s (coreP bs).1 (core_d h1) (by omega) h1.ok (by rw [← h2]; exact h3)
    rwa [← h2] at this
  · exact .inr ⟨(coreP bs).1, (coreP bs).2, by simpa using he, h⟩
theorem back_s [Wd] (c : CoreD) (bs : List UInt8) (hc : dCore.ok c) (hs : tCore.sz c ≤ 1048576) (hl : bs.length ≤ 1048576) : FnP Tryz.prog 3 [.agg (cCore c), .list 1 (bs.map cByte)] (.bool true) := by
  have fS := rwSame_s c c hc hc
  rw [eqB_true rfl] at fS
  have fE := bEq_s bs bs (by omega) (by omega)
  rw [eqB_true rfl] at fE
  rcases stBytes_two c hc hs with ⟨oa, la, fa⟩ | ⟨e, he, fa⟩
  · have fp : FnP Tryz.prog 9 [.list 1 ((coreB c).map cByte)] (.tup [.agg (cCore c), .int .i64 0]) := by
      have := stParse_s (coreB c) la
      rwa [coreP_there (coreOk_of hc oa) la] at this
    obtain ⟨xs, hx⟩ : ∃ xs, xs = coreB c := ⟨_, rfl⟩
    rw [← hx] at fa fp
    clear hx
    rcases parse_two bs hl with ⟨d, f1, f2⟩ | ⟨d, k, hk, f1⟩
    · refine mkS 54 [] Tryz.func3 rfl (by kernel_rfl) ?_
      repeat'
        (conv => arg 2; whnf)
        first
        | refine okAsk (by kernel_rfl) ?_
        | refine okFn begun_s rfl (Cos.refl _) ?_
        | refine okFn fa rfl (Cos.refl _) ?_
        | refine okFn fp rfl (Cos.refl _) ?_
        | refine okFn fS rfl (Cos.refl _) ?_
        | refine okFn f1 rfl (Cos.refl _) ?_
        | refine okFn f2 rfl (Cos.refl _) ?_
        | refine okFn fE rfl (Cos.refl _) ?_
        | refine okBoth ?_ ?_
        | refine okBrT ?_
        | refine okBrF ?_
        | refine endBool (.inr rfl) rfl rfl
        | fail
    · refine mkS 54 [] Tryz.func3 rfl (by kernel_rfl) ?_
      repeat'
        (conv => arg 2; whnf)
        first
        | refine okAsk (by kernel_rfl) ?_
        | refine okFn begun_s rfl (Cos.refl _) ?_
        | refine okFn fa rfl (Cos.refl _) ?_
        | refine okFn fp rfl (Cos.refl _) ?_
        | refine okFn fS rfl (Cos.refl _) ?_
        | refine okFn f1 rfl (Cos.refl _) ?_
        | refine okBoth ?_ ?_
        | refine okBrT ?_
        | refine okBrF ?_
        | refine okBr1 hk ?_
        | refine endBool (.inr rfl) rfl rfl
        | fail
  · have he0 : (e == 0) = false := by simpa using he
    rcases parse_two bs hl with ⟨d, f1, f2⟩ | ⟨d, k, hk, f1⟩
    · refine mkS 54 [] Tryz.func3 rfl (by kernel_rfl) ?_
      repeat'
        (conv => arg 2; whnf)
        first
        | refine okAsk (by kernel_rfl) ?_
        | refine okFn begun_s rfl (Cos.refl _) ?_
        | refine okFn fa rfl (Cos.refl _) ?_
        | refine okFn f1 rfl (Cos.refl _) ?_
        | refine okFn f2 rfl (Cos.refl _) ?_
        | refine okFn fE rfl (Cos.refl _) ?_
        | refine okBoth ?_ ?_
        | refine okBrT ?_
        | refine okBrF ?_
        | refine okBr0 he0 ?_
        | refine endBool (.inr rfl) rfl rfl
        | fail
    · refine mkS 54 [] Tryz.func3 rfl (by kernel_rfl) ?_
      repeat'
        (conv => arg 2; whnf)
        first
        | refine okAsk (by kernel_rfl) ?_
        | refine okFn begun_s rfl (Cos.refl _) ?_
        | refine okFn fa rfl (Cos.refl _) ?_
        | refine okFn f1 rfl (Cos.refl _) ?_
        | refine okBoth ?_ ?_
        | refine okBrT ?_
        | refine okBrF ?_
        | refine okBr0 he0 ?_
        | refine okBr1 hk ?_
        | refine endBool (.inr rfl) rfl rfl
        | fail
theorem stBack_c {inn inn' : Nat → Prop} {w : World} {cs : List Value} {v : Value} {a : CoreD} {bs : List UInt8} (h : tCore.rd inn w cs a) (k : tY.rd inn' w [v] bs) (sa : tCore.sz a ≤ 1048576) (sb : bs.length ≤ 1048576) :
    Calls Tryz.prog 3 #[.agg cs.toArray, v] w fun e w' => e = .returned (.bool true) ∧ B w w' := by
  have h1 := LkCore.to h
  have h2 := LkY.to k
  have hd : Drs (fun g => inn g ∨ inn' g) w [.agg cs.toArray, v] [.agg (cCore a), .list 1 (bs.map cByte)] := by
    have a1 := (LkCore.arg h).mono (I' := fun g => inn g ∨ inn' g) (fun _ h => .inl h)
    have a2 := h2.1.mono (I' := fun g => inn g ∨ inn' g) (fun _ h => .inr h)
    exact a1.append a2
  exact (back_s a bs h1.2.1 sa sb).callsBool hd trivial
end Go.Proofs.YteaggenihhaajaaGreat
