/- Lemmas and contracts, part Zg20.2. -/
import Derived.Test.YteaggenihhaajaaGreatZg20
/- The writer of the reference (bullaref20.Writer), over data (printed by gen_dw.py). -/
namespace Go.Proofs.YteaggenihhaajaaGreat
open Go.RowKit
set_option linter.unusedVariables false
set_option maxRecDepth 20000

abbrev oU (w : WS) : List AO := [.cells 105 [.list 1 (w.1.map cByte), .bool w.2]]
/-- it does so much with the writer, which may grow by so much -/
abbrev FnU [Wd] (f : FuncId) (ar : List D) (F : WS → WS) (k : Nat) : Prop := ∀ w : WS, w.1.length + k + 400000000 ≤ 140737488355328 → FnS Tryz.prog f (.ptr 0 0 :: ar) (oU w) (fun r h => r = .tup [] ∧ h = oU (F w))
section
variable {Q : Exit → S → Prop}
theorem okUr [Wd] {f : FuncId} {ar ar' : List D} {F : WS → WS} {k : Nat} {hb : List AO} {c : D → List AO → T} {w w' : WS} (hF : FnU f ar F k) (e : w' = F w) (hl : w.1.length + k + 400000000 ≤ 140737488355328) (hv : vwP hb [0] [0] (oU w)) (hc : Cos ar' (D.ren.rl [0] (.ptr 0 0 :: ar))) (hM : ([0].all fun o => (foot hb ar').elem o) = true) (kk : (c (.tup []) (upH hb [0] (oU w) (oU w'))).ok Tryz.prog Q) : (T.call f ar' hb c).ok Tryz.prog Q := by
  subst e
  exact okCall [0] (hF w hl) (.mk' rfl hv) hc hM kk
theorem okUp [Wd] {f : FuncId} {ar ar' : List D} {F : WS → WS} {k : Nat} {hb : List AO} {c : D → List AO → T} {x : List UInt8} {y : Bool} {w' : WS} (hF : FnU f ar F k) (e : w' = F (x, y)) (hl : x.length + k + 400000000 ≤ 140737488355328) (hv : vwP hb [0] [0] [.cells 105 [.list 1 (x.map cByte), .bool y]]) (hc : Cos ar' (D.ren.rl [0] (.ptr 0 0 :: ar))) (hM : ([0].all fun o => (foot hb ar').elem o) = true) (kk : (c (.tup []) (upH hb [0] (oU (x, y)) (oU w'))).ok Tryz.prog Q) : (T.call f ar' hb c).ok Tryz.prog Q :=
  okUr (w := (x, y)) hF e hl hv hc hM kk
theorem endUr [Wd] {tb : TT} {rs : List ResultVar} {ex : Exit} {s : S} {x : List UInt8} {y : Bool} {w : WS} {F : WS → WS} {ds : List D} (he : ex = .normal ∨ ex = .ret) (hr : resD tb s rs = some ds) (hv : vwP s.h [0] [0] [.cells 105 [.list 1 (x.map cByte), .bool y]]) (hco : Co (resV ds) (.tup [])) (hx : (x, y) = F w) : (T.leaf ex s).ok Tryz.prog (Lf tb rs (oU w) (fun r h => r = .tup [] ∧ h = oU (F w))) := by
  rw [← hx]
  exact endObj [0] he hr rfl hv ⟨⟨rfl, rfl⟩, trivial⟩ hco
end
theorem rbNum_s [Wd] (n : Int) : FnP Tryz.prog 287 [.int .i64 n] (.bool (!nBad n)) := by
  refine mkS 9 [] Tryz.func287 rfl (by kernel_rfl) ?_
  repeat'
    (conv => arg 2; whnf)
    first
    | refine okAsk (by kernel_rfl) ?_
    | refine okBoth ?_ ?_
    | refine okBrT ?_
    | refine okBrF ?_
    | refine okBr (fun h => ?_) (fun h => ?_)
    | (refine endBool (.inr rfl) rfl ?_; unfold nBad; simp at h; rw [Bool.eq_iff_iff]; simp; omega)
    | (refine endBool (.inr rfl) rfl ?_; unfold nBad; simp at h; simp; omega)
theorem rbCheck_s [Wd] (z : HeaderD) : FnP Tryz.prog 240 [.agg (cHeader z)] (.int .i64 (hbE z)) := by
  refine mkS 31 [] Tryz.func240 rfl (by kernel_rfl) ?_
  repeat'
    (conv => arg 2; whnf)
    first
    | refine okAsk (by kernel_rfl) ?_
    | refine okBoth ?_ ?_
    | refine okBrT ?_
    | refine okBrF ?_
    | refine okBr (fun h => ?_) (fun h => ?_)
    | refine okFn (rbNum_s z.seq) rfl (Cos.refl _) ?_
    | refine okFn (rbNum_s z.prev) rfl (Cos.refl _) ?_
    | refine okFn (rbNum_s z.batch) rfl (Cos.refl _) ?_
    | refine okFn (rbNum_s z.root) rfl (Cos.refl _) ?_
    | refine okFn (rbNum_s z.state) rfl (Cos.refl _) ?_
    | (refine endInt (.inr rfl) rfl ?_; unfold hbE; simp_all; done)
    | (exfalso; simp_all; done)
theorem rbBytesY_s [Wd] (z : HeaderD) (h0 : hbE z = 0) : FnP Tryz.prog 192 [.agg (cHeader z)] (.tup [.list 1 ((hdrB z).map cByte), .int .i64 0]) := by
  have hs : hdrB z = (3 :: encI z.seq) ++ numsB [z.prev, z.batch, z.root, z.state] := by simp [hdrB, numsB]
  refine mkS 41 [] Tryz.func192 rfl (by kernel_rfl) ?_
  repeat'
    (conv => arg 2; whnf)
    first
    | refine okAsk (by kernel_rfl) ?_
    | refine okBoth ?_ ?_
    | refine okBrT ?_
    | refine okBrF ?_
    | refine okBr (fun h => ?_) (fun h => ?_)
    | refine okFn (rbCheck_s z) rfl (Cos.refl _) ?_
    | refine okRaw ?_
    | refine okFn (rPutNum_s [3] z.seq (by decide)) rfl (Cos.refl _) ?_
    | (exfalso; simp_all; done)
  refine okLoop (α := Nat × List UInt8) (fun a => ⟨[(7, .int .i64 a.1), (6, .list 1 ([z.prev, z.batch, z.root, z.state].map cNum)), (5, .list 1 (a.2.map cByte))], []⟩) (fun a => a.1 ≤ 4 ∧ a.2 = (3 :: encI z.seq) ++ numsB ([z.prev, z.batch, z.root, z.state].take a.1)) (fun a => 4 - a.1) (0, [3] ++ encI z.seq) ⟨Nat.zero_le _, by simp [numsB]⟩ (Sv.mk' [] rfl trivial ⟨rfl, rfl, rfl, trivial⟩) ?_
  rintro ⟨q, b2⟩ ⟨hq, he⟩
  replace hq : q ≤ 4 := hq
  replace he : b2 = (3 :: encI z.seq) ++ numsB ([z.prev, z.batch, z.root, z.state].take q) := he
  have hlen : [z.prev, z.batch, z.root, z.state].length = 4 := rfl
  have hb2 : b2.length + 200 ≤ big := by
    have h1 := numsB_len ([z.prev, z.batch, z.root, z.state].take q)
    rw [List.length_take] at h1
    have h2 := encI_l10 z.seq
    rw [he, List.length_append, List.length_cons]
    have : (200 : Nat) + 300 ≤ big := by decide
    omega
  repeat'
    (conv => arg 2; whnf)
    first
    | refine okAsk (by kernel_rfl) ?_
    | refine okBoth ?_ ?_
    | refine okBrT ?_
    | refine okBrF ?_
    | refine okBr (fun h => ?_) (fun h => ?_)
    | refine okNthMap (l := [z.prev, z.batch, z.root, z.state]) (by simp at h; omega) (fun x hx => ?_)
    | refine okFn (rPutNum_s b2 x (by omega)) rfl (Cos.refl _) ?_
    | refine okWrap (w64 (by omega) (by omega)) ?_
    | refine okRaw ?_
    | refine okAgain (q + 1, b2 ++ encI x) (Sv.mk' [] rfl trivial ⟨rfl, rfl, rfl, trivial⟩) ⟨by have := (List.getElem?_eq_some_iff.1 hx).1; show q + 1 ≤ 4; omega, by show b2 ++ encI x = _; rw [he, List.take_add_one, hx]; simp [numsB]⟩ (by have := (List.getElem?_eq_some_iff.1 hx).1; show 4 - (q + 1) < 4 - q; omega)
    | refine okOut ?_
    | refine okRet ?_
    | (have e : b2 = hdrB z := by (rw [hs, he, List.take_of_length_le (by simp at h; omega)])
       rw [e]; refine endFn0 (.inr rfl) rfl (.refl _) rfl)
theorem rbBytesN_s [Wd] (z : HeaderD) (h0 : ¬ hbE z = 0) : FnP Tryz.prog 192 [.agg (cHeader z)] (.tup [.nils, .int .i64 (hbE z)]) := by
  refine mkS 41 [] Tryz.func192 rfl (by kernel_rfl) ?_
  repeat'
    (conv => arg 2; whnf)
    first
    | refine okAsk (by kernel_rfl) ?_
    | refine okBoth ?_ ?_
    | refine okBrT ?_
    | refine okBrF ?_
    | refine okBr (fun h => ?_) (fun h => ?_)
    | refine okFn (rbCheck_s z) rfl (Cos.refl _) ?_
    | refine endFn0 (.inr rfl) rfl (.refl _) rfl
    | (exfalso; simp_all; done)
theorem xCertBytesY_s [Wd] (z : CertD) (hz : dCert.ok z) (h0 : certE z = 0) : FnP Tryz.prog 194 [.agg (cCert z)] (.tup [.list 1 ((certB z).map cByte), .int .i64 0]) := by
  have hl := certB_len h0
  refine mkS 15 [] Tryz.func194 rfl (by kernel_rfl) ?_
  repeat'
    (conv => arg 2; whnf)
    first
    | refine okAsk (by kernel_rfl) ?_
    | refine okBoth ?_ ?_
    | refine okBrT ?_
    | refine okBrF ?_
    | refine okBr (fun h => ?_) (fun h => ?_)
    | refine okFn (xCert_s z hz) rfl (Cos.refl _) ?_
    | refine okFn (xPutCert_s [] z h0 (by decide)) rfl (Cos.cons (.nil _) (Cos.cons (.refl _) .nil)) ?_
    | refine okFn (xShortY_s ([] ++ certB z) (by rw [List.nil_append]; omega)) rfl (Cos.refl _) ?_
    | refine endFn0 (.inr rfl) rfl (.refl _) rfl
    | (exfalso; simp_all; done)
theorem xCertBytesN_s [Wd] (z : CertD) (hz : dCert.ok z) (h0 : ¬ certE z = 0) : FnP Tryz.prog 194 [.agg (cCert z)] (.tup [.nils, .int .i64 (certE z)]) := by
  refine mkS 15 [] Tryz.func194 rfl (by kernel_rfl) ?_
  repeat'
    (conv => arg 2; whnf)
    first
    | refine okAsk (by kernel_rfl) ?_
    | refine okBoth ?_ ?_
    | refine okBrT ?_
    | refine okBrF ?_
    | refine okBr (fun h => ?_) (fun h => ?_)
    | refine okFn (xCert_s z hz) rfl (Cos.refl _) ?_
    | refine endFn0 (.inr rfl) rfl (.refl _) rfl
    | (exfalso; simp_all; done)
theorem xChangeBytesY_s [Wd] (z : ChangeD) (hz : dChange.ok z) (h0 : chgE z = 0) : FnP Tryz.prog 120 [.agg (cChange z)] (.tup [.list 1 ((chgB z).map cByte), .int .i64 0]) := by
  have hl := chgB_len h0
  refine mkS 15 [] Tryz.func120 rfl (by kernel_rfl) ?_
  repeat'
    (conv => arg 2; whnf)
    first
    | refine okAsk (by kernel_rfl) ?_
    | refine okBoth ?_ ?_
    | refine okBrT ?_
    | refine okBrF ?_
    | refine okBr (fun h => ?_) (fun h => ?_)
    | refine okFn (xChange_s z hz) rfl (Cos.refl _) ?_
    | refine okFn (xPutChange_s [] z hz (chgZ h0) (by decide) (bodyC_len h0)) rfl (Cos.cons (.nil _) (Cos.cons (.refl _) .nil)) ?_
    | refine okFn (xShortY_s ([] ++ chgB z) (by rw [List.nil_append]; omega)) rfl (Cos.refl _) ?_
    | refine endFn0 (.inr rfl) rfl (.refl _) rfl
    | (exfalso; simp_all; done)
theorem xChangeBytesN_s [Wd] (z : ChangeD) (hz : dChange.ok z) (h0 : ¬ chgE z = 0) : FnP Tryz.prog 120 [.agg (cChange z)] (.tup [.nils, .int .i64 (chgE z)]) := by
  refine mkS 15 [] Tryz.func120 rfl (by kernel_rfl) ?_
  repeat'
    (conv => arg 2; whnf)
    first
    | refine okAsk (by kernel_rfl) ?_
    | refine okBoth ?_ ?_
    | refine okBrT ?_
    | refine okBrF ?_
    | refine okBr (fun h => ?_) (fun h => ?_)
    | refine okFn (xChange_s z hz) rfl (Cos.refl _) ?_
    | refine endFn0 (.inr rfl) rfl (.refl _) rfl
    | (exfalso; simp_all; done)
theorem rwNum_s [Wd] (n : Int) : FnU 109 [.int .i64 n] (wN n) (10) := by
  intro w hb
  refine mkS 23 [] Tryz.func109 rfl (by kernel_rfl) ?_
  repeat'
    (conv => arg 2; whnf)
    first
    | refine okAsk (by kernel_rfl) ?_
    | refine okBoth ?_ ?_
    | refine okBrT ?_
    | refine okBrF ?_
    | refine okBr (fun h => ?_) (fun h => ?_)
    | refine okRaw ?_
    | refine okFn (rPutNum_s w.1 n (by unfold big; omega)) rfl (Cos.refl _) ?_
    | (refine endUr (.inr rfl) rfl ⟨⟨rfl, rfl⟩, trivial⟩ (.refl _) ?_; unfold wN; rw [if_pos (by rw [← bif_nBad]; simp_all)])
    | (refine endUr (.inl rfl) rfl ⟨⟨rfl, rfl⟩, trivial⟩ (.refl _) ?_; unfold wN; rw [if_neg (by rw [← bif_nBad]; simp_all)])
theorem rwFlag_s [Wd] (b : Bool) : FnU 110 [.bool b] (wF b) (10) := by
  intro w hb
  cases b
  all_goals
    refine mkS 9 [] Tryz.func110 rfl (by kernel_rfl) ?_
    repeat'
      (conv => arg 2; whnf)
      first
      | refine okAsk (by kernel_rfl) ?_
      | refine okBoth ?_ ?_
      | refine okBrT ?_
      | refine okBrF ?_
      | refine okBr (fun h => ?_) (fun h => ?_)
      | refine okUr (w := w) (w' := wN 0 w) (rwNum_s 0) rfl (by omega) ⟨⟨rfl, rfl⟩, trivial⟩ (Cos.refl _) rfl ?_
      | refine okUr (w := w) (w' := wN 1 w) (rwNum_s 1) rfl (by omega) ⟨⟨rfl, rfl⟩, trivial⟩ (Cos.refl _) rfl ?_
      | (refine endUr (.inl rfl) rfl ⟨⟨rfl, rfl⟩, trivial⟩ (.refl _) ?_; rfl)
theorem rwMany_s [Wd] (n : Nat) : FnU 116 [.int .i64 (n : Int)] (rMy n) (10) := by
  intro w hb
  refine mkS 12 [] Tryz.func116 rfl (by kernel_rfl) ?_
  repeat'
    (conv => arg 2; whnf)
    first
    | refine okAsk (by kernel_rfl) ?_
    | refine okBoth ?_ ?_
    | refine okBrT ?_
    | refine okBrF ?_
    | refine okBr (fun h => ?_) (fun h => ?_)
    | refine okUp (x := w.1) (y := true) (w' := wN (n : Int) (w.1, true)) (rwNum_s (n : Int)) rfl (by omega) ⟨⟨rfl, rfl⟩, trivial⟩ (Cos.refl _) rfl ?_
    | refine okUr (w := w) (w' := wN (n : Int) w) (rwNum_s (n : Int)) rfl (by omega) ⟨⟨rfl, rfl⟩, trivial⟩ (Cos.refl _) rfl ?_
    | (refine endUr (.inl rfl) rfl ⟨⟨rfl, rfl⟩, trivial⟩ (.refl _) ?_; unfold rMy; have hd : decide (4096 < n) = true := (by simp at h; simp; omega); rw [hd, Bool.or_true])
    | (refine endUr (.inl rfl) rfl ⟨⟨rfl, rfl⟩, trivial⟩ (.refl _) ?_; unfold rMy; have hd : decide (4096 < n) = false := (by simp at h; simp; omega); rw [hd, Bool.or_false])
theorem rwBytes_s [Wd] (x : List UInt8) (hx : x.length ≤ 4194304) : FnU 113 [.list 1 (x.map cByte)] (wB x) (x.length + 10) := by
  intro w hb
  refine mkS 13 [] Tryz.func113 rfl (by kernel_rfl) ?_
  repeat'
    (conv => arg 2; whnf)
    first
    | refine okAsk (by kernel_rfl) ?_
    | refine okFn (rPutBytes_s w.1 x hx (by rw [List.length_append]; unfold big; omega)) rfl (Cos.refl _) ?_
    | (refine endUr (.inl rfl) rfl ⟨⟨rfl, rfl⟩, trivial⟩ (.refl _) ?_; rfl)
theorem rwMade_s [Wd] (p : List UInt8 × Int) (hp : p.1.length ≤ 262144) : FnU 119 [.list 1 (p.1.map cByte), .int .i64 p.2] (wM p) (262200) := by
  intro w hb
  refine mkS 14 [] Tryz.func119 rfl (by kernel_rfl) ?_
  repeat'
    (conv => arg 2; whnf)
    first
    | refine okAsk (by kernel_rfl) ?_
    | refine okBoth ?_ ?_
    | refine okBrT ?_
    | refine okBrF ?_
    | refine okBr (fun h => ?_) (fun h => ?_)
    | refine okUp (x := w.1) (y := true) (rwBytes_s p.1 (Nat.le_trans hp (by decide))) rfl (by omega) ⟨⟨rfl, rfl⟩, trivial⟩ (Cos.refl _) rfl ?_
    | refine okUr (w := w) (rwBytes_s p.1 (Nat.le_trans hp (by decide))) rfl (by omega) ⟨⟨rfl, rfl⟩, trivial⟩ (Cos.refl _) rfl ?_
    | (refine endUr (.inl rfl) rfl ⟨⟨rfl, rfl⟩, trivial⟩ (.refl _) ?_; unfold wM wB; first | (simp_all; done) | (simp_all; rfl))
theorem rwBatch_s [Wd] (l : List SignedD) (hl : (dL dSigned).ok l) : FnU 121 [.list 9 (l.map cSigned)] (wBt l) (4300) := by
  intro w hb
  have hlen := batchP_len l
  refine mkS 19 [] Tryz.func121 rfl (by kernel_rfl) ?_
  repeat'
    (conv => arg 2; whnf)
    first
    | refine okAsk (by kernel_rfl) ?_
    | refine okBoth ?_ ?_
    | refine okBrT ?_
    | refine okBrF ?_
    | refine okBr (fun h => ?_) (fun h => ?_)
    | refine okFn (rCheckBatch_s l hl) rfl (Cos.refl _) ?_
    | refine okFn (rPutBatch_s w.1 l hl (by unfold big; omega)) rfl (Cos.refl _) ?_
    | (refine endUr (.inl rfl) rfl ⟨⟨rfl, rfl⟩, trivial⟩ (.refl _) ?_; unfold wBt; first | (simp_all; done) | (simp_all; rfl))
theorem rwSign_s [Wd] (x : SignD) : FnU 195 [.agg (cSign x)] (wSg x) (20) := by
  intro w hb
  refine mkS 19 [(3, ⟨[(0, false), (1, false), (2, false), (3, false), (5, false), (4, true), (6, true), (7, false), (8, false), (9, true)], [0]⟩)] Tryz.func195 rfl (by kernel_rfl) ?_
  repeat'
    (conv => arg 2; whnf)
    first
    | refine okAsk (by kernel_rfl) ?_
    | refine okBoth ?_ ?_
    | refine okBrT ?_
    | refine okBrF ?_
    | refine okBr (fun h => ?_) (fun h => ?_)
    | refine okFn (rCheckSign_s x) rfl (Cos.refl _) ?_
    | refine okFn (rPutSign_s w.1 x (by unfold big; omega)) rfl (Cos.refl _) ?_
    | (refine endUr (.inl rfl) rfl ⟨⟨rfl, rfl⟩, trivial⟩ (.refl _) ?_; unfold wSg; first | (simp_all; done) | (simp_all; rfl))
theorem rwHeader_s [Wd] (z : HeaderD) : FnU 111 [.agg (cHeader z)] (wM (mkHead z)) 262200 := by
  intro w hb
  by_cases h0 : hbE z = 0
  · have e : mkHead z = (hdrB z, 0) := by unfold mkHead; rw [if_pos h0]
    rw [e]
    refine mkS 10 [] Tryz.func111 rfl (by kernel_rfl) ?_
    repeat'
      (conv => arg 2; whnf)
      first
      | refine okAsk (by kernel_rfl) ?_
      | refine okFn (rbBytesY_s z h0) rfl (Cos.refl _) ?_
      | refine okUr (w := w) (rwMade_s (hdrB z, 0) (by have := hdrB_len (hbE_ok.1 h0); show (hdrB z).length ≤ _; omega)) rfl (by omega) ⟨⟨rfl, rfl⟩, trivial⟩ (Cos.refl _) rfl ?_
      | (refine endUr (.inl rfl) rfl ⟨⟨rfl, rfl⟩, trivial⟩ (.refl _) ?_; rfl)
  · have e : mkHead z = ([], hbE z) := by unfold mkHead; rw [if_neg h0]
    rw [e]
    refine mkS 10 [] Tryz.func111 rfl (by kernel_rfl) ?_
    repeat'
      (conv => arg 2; whnf)
      first
      | refine okAsk (by kernel_rfl) ?_
      | refine okFn (rbBytesN_s z h0) rfl (Cos.refl _) ?_
      | refine okUr (w := w) (rwMade_s ([], hbE z) (by simp)) rfl (by omega) ⟨⟨rfl, rfl⟩, trivial⟩ (Cos.cons (.refl _) (Cos.cons (.nil _) (Cos.cons (.refl _) .nil))) rfl ?_
      | (refine endUr (.inl rfl) rfl ⟨⟨rfl, rfl⟩, trivial⟩ (.refl _) ?_; rfl)
end Go.Proofs.YteaggenihhaajaaGreat

