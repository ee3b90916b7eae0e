/- Lemmas and contracts, part 19. -/
import Derived.Test.YteaggenihhaajaaGreatZs18
/- The writer of package state, over data (printed by gen_dd.py). -/
namespace Go.Proofs.YteaggenihhaajaaGreat
open Go.RowKit
set_option linter.unusedVariables false
set_option maxRecDepth 20000

abbrev oT (w : WS) : List AO := [.cells 89 [.list 1 (w.1.map cByte), .bool w.2]]
/-- it does so much with the writer, which may grow by so much -/
abbrev FnT [Wd] (f : FuncId) (ar : List D) (F : WS → WS) (k : Nat) : Prop := ∀ w : WS, w.1.length + k + 1000 ≤ 140737488355328 → FnS Tryz.prog f (.ptr 0 0 :: ar) (oT w) (fun r h => r = .tup [] ∧ h = oT (F w))
section
variable {Q : Exit → S → Prop}
theorem okTr [Wd] {f : FuncId} {ar ar' : List D} {F : WS → WS} {k : Nat} {hb : List AO} {c : D → List AO → T} {w w' : WS} (hF : FnT f ar F k) (e : w' = F w) (hl : w.1.length + k + 1000 ≤ 140737488355328) (hv : vwP hb [0] [0] (oT w)) (hc : Cos ar' (D.ren.rl [0] (.ptr 0 0 :: ar))) (hM : ([0].all fun o => (foot hb ar').elem o) = true) (kk : (c (.tup []) (upH hb [0] (oT w) (oT w'))).ok Tryz.prog Q) : (T.call f ar' hb c).ok Tryz.prog Q := by
  subst e
  exact okCall [0] (hF w hl) (.mk' rfl hv) hc hM kk
theorem okTp [Wd] {f : FuncId} {ar ar' : List D} {F : WS → WS} {k : Nat} {hb : List AO} {c : D → List AO → T} {x : List UInt8} {y : Bool} {w' : WS} (hF : FnT f ar F k) (e : w' = F (x, y)) (hl : x.length + k + 1000 ≤ 140737488355328) (hv : vwP hb [0] [0] [.cells 89 [.list 1 (x.map cByte), .bool y]]) (hc : Cos ar' (D.ren.rl [0] (.ptr 0 0 :: ar))) (hM : ([0].all fun o => (foot hb ar').elem o) = true) (kk : (c (.tup []) (upH hb [0] (oT (x, y)) (oT w'))).ok Tryz.prog Q) : (T.call f ar' hb c).ok Tryz.prog Q :=
  okTr (w := (x, y)) hF e hl hv hc hM kk
theorem endTr [Wd] {tb : TT} {rs : List ResultVar} {ex : Exit} {s : S} {x : List UInt8} {y : Bool} {w : WS} {F : WS → WS} {ds : List D} (he : ex = .normal ∨ ex = .ret) (hr : resD tb s rs = some ds) (hv : vwP s.h [0] [0] [.cells 89 [.list 1 (x.map cByte), .bool y]]) (hco : Co (resV ds) (.tup [])) (hx : (x, y) = F w) : (T.leaf ex s).ok Tryz.prog (Lf tb rs (oT w) (fun r h => r = .tup [] ∧ h = oT (F w))) := by
  rw [← hx]
  exact endObj [0] he hr rfl hv ⟨⟨rfl, rfl⟩, trivial⟩ hco
end
theorem room_go {a b k r B : Nat} (h : a + 262200 * (k + r) + 1000 ≤ B) (hb : b ≤ a + 262200 * k) : b + 262200 * r + 1000 ≤ B := Nat.not_lt.1 fun _ => by omega
theorem room_le {a k r m B : Nat} (h : a + 262200 * (k + r) + 1000 ≤ B) (hm : m ≤ 262200 * k) : a + m + 1000 ≤ B := Nat.not_lt.1 fun _ => by omega
theorem num_m (l : List Int) : 10 * l.length ≤ 262200 * l.length := Nat.mul_le_mul_right _ (by decide)
theorem byt_m (x : List UInt8) : x.length + 10 ≤ 262200 * (x.length + 1) := Nat.not_lt.1 fun _ => by omega
theorem sum_at {α : Type} (k : α → Nat) {l : List α} {q : Nat} {x : α} (h : l[q]? = some x) : ((l.take q).map k).sum + k x ≤ (l.map k).sum := by
  have e : l = l.take q ++ (x :: l.drop (q + 1)) := by
    obtain ⟨h1, h2⟩ := List.getElem?_eq_some_iff.1 h
    rw [← h2, List.getElem_cons_drop, List.take_append_drop]
  conv => rhs; rw [e]
  simp only [List.map_append, List.map_cons, List.sum_append, List.sum_cons]
  omega
theorem drop_at {α : Type} {l : List α} {q : Nat} {x : α} (h : l[q]? = some x) : l.drop q = x :: l.drop (q + 1) := by
  obtain ⟨h1, h2⟩ := List.getElem?_eq_some_iff.1 h
  rw [← h2, List.getElem_cons_drop]
theorem len_gt {α β : Type} {l : List α} (f : α → β) (h : decide (((l.map f).length : Int) > 4096) = true) : 4096 < l.length := by
  have := of_decide_eq_true h
  rw [List.length_map] at this
  omega
theorem len_le {α β : Type} {l : List α} (f : α → β) (h : decide (((l.map f).length : Int) > 4096) = false) : ¬ 4096 < l.length := by
  have := of_decide_eq_false h
  rw [List.length_map] at this
  omega
theorem bif_nBad (x : Int) : (bif decide (x < 0) then true else decide (x > 9007199254740992)) = nBad x := by
  unfold nBad
  by_cases h : x < 0
  · simp [h]
  · by_cases h2 : 9007199254740992 < x <;> simp [h, h2]
theorem stNum_s [Wd] (l : List Int) (hl : l.length ≤ 4194304) : FnT 57 [.list 1 (l.map cNum)] (wNs l) (10 * l.length) := by
  intro w hb
  refine mkS 32 [] Tryz.func57 rfl (by kernel_rfl) ?_
  conv => arg 2; whnf
  refine okLoop (α := Nat × WS) (fun a => ⟨[(8, .int .i64 a.1), (7, .int .i64 (l.map cNum).length), (6, .list 1 (l.map cNum)), (0, .ptr 0 0)], oT a.2⟩) (fun a => a.1 ≤ l.length ∧ wNs (l.drop a.1) a.2 = wNs l w ∧ a.2.1.length ≤ w.1.length + 10 * a.1) (fun a => l.length - a.1) (0, w) ⟨Nat.zero_le _, rfl, Nat.le_refl _⟩ (Sv.mk' [0] rfl ⟨⟨rfl, rfl⟩, trivial⟩ ⟨rfl, rfl, rfl, rfl, trivial⟩) ?_
  rintro ⟨q, v⟩ ⟨hq, he, hv⟩
  replace hq : q ≤ l.length := hq
  replace he : wNs (l.drop q) v = wNs l w := he
  replace hv : v.1.length ≤ w.1.length + 10 * q := hv
  repeat'
    (conv => arg 2; whnf)
    first
    | refine okAsk (by kernel_rfl) ?_
    | refine okBoth ?_ ?_
    | refine okBrT ?_
    | refine okBrF ?_
    | refine okBr (fun h => ?_) (fun h => ?_)
    | refine okNthMap (l := l) (by simp at h; omega) (fun x hx => ?_)
    | refine okFn (putNum_s v.1 x (by unfold big; omega)) rfl (Cos.refl _) ?_
    | refine okWrap (w64 (by simp at h hq; omega) (by simp at h hq; omega)) ?_
    | refine okRaw ?_
    | refine okAgain (q + 1, (v.1 ++ encI x, v.2)) (Sv.mk' [0] rfl ⟨⟨rfl, rfl⟩, trivial⟩ ⟨rfl, rfl, rfl, rfl, trivial⟩) ⟨by have := (List.getElem?_eq_some_iff.1 hx).1; show q + 1 ≤ l.length; omega, by show wNs (l.drop (q + 1)) _ = _; rw [← he, drop_at hx]; conv => rhs; unfold wNs; rw [if_neg (by rw [← bif_nBad]; simp_all)], by have := encI_l10 x; show (v.1 ++ encI x).length ≤ _; rw [List.length_append]; omega⟩ (by have := (List.getElem?_eq_some_iff.1 hx).1; show l.length - (q + 1) < l.length - q; omega)
    | refine okOut ?_
    | refine okRet ?_
    | (refine endTr (.inr rfl) rfl ⟨⟨rfl, rfl⟩, trivial⟩ (.refl _) ?_; rw [← he, drop_at hx]; unfold wNs; rw [if_pos (by rw [← bif_nBad]; simp_all)])
    | (refine endTr (.inl rfl) rfl ⟨⟨rfl, rfl⟩, trivial⟩ (.refl _) ?_; rw [← he, List.drop_of_length_le (by simp at h; omega)]; rfl)
theorem stBytes_s [Wd] (x : List UInt8) (hx : x.length ≤ 4194304) : FnT 62 [.list 1 (x.map cByte)] (wB x) (x.length + 10) := by
  intro w hb
  refine mkS 13 [] Tryz.func62 rfl (by kernel_rfl) ?_
  repeat'
    (conv => arg 2; whnf)
    first
    | refine okAsk (by kernel_rfl) ?_
    | refine okFn (putBytes_s w.1 x hx (by rw [List.length_append]; unfold big; omega)) rfl (Cos.refl _) ?_
    | (refine endTr (.inl rfl) rfl ⟨⟨rfl, rfl⟩, trivial⟩ (.refl _) ?_; rfl)
theorem stMade_s [Wd] (p : List UInt8 × Int) (hp : p.1.length ≤ 262144) : FnT 152 [.list 1 (p.1.map cByte), .int .i64 p.2] (wM p) (262200) := by
  intro w hb
  refine mkS 20 [] Tryz.func152 rfl (by kernel_rfl) ?_
  repeat'
    (conv => arg 2; whnf)
    first
    | refine okAsk (by kernel_rfl) ?_
    | refine okBoth ?_ ?_
    | refine okBrT ?_
    | refine okBrF ?_
    | refine okBr (fun h => ?_) (fun h => ?_)
    | refine okTp (x := w.1) (stBytes_s p.1 (Nat.le_trans hp (by decide))) rfl (by omega) ⟨⟨rfl, rfl⟩, trivial⟩ (Cos.refl _) rfl ?_
    | (refine endTr (.inl rfl) rfl ⟨⟨rfl, rfl⟩, trivial⟩ (.refl _) ?_; unfold wM wB; first | (simp_all; done) | (simp_all; rfl))
theorem stBatch_s [Wd] (l : List SignedD) (hl : (dL dSigned).ok l) : FnT 154 [.list 9 (l.map cSigned)] (wBt l) (4300) := by
  intro w hb
  have hlen := batchP_len l
  refine mkS 25 [] Tryz.func154 rfl (by kernel_rfl) ?_
  repeat'
    (conv => arg 2; whnf)
    first
    | refine okAsk (by kernel_rfl) ?_
    | refine okBoth ?_ ?_
    | refine okBrT ?_
    | refine okBrF ?_
    | refine okBr (fun h => ?_) (fun h => ?_)
    | refine okFn (cBatch_s l hl) rfl (Cos.refl _) ?_
    | refine okFn (putBatch_s w.1 l hl (by rw [List.length_append]; unfold big; omega)) rfl (Cos.refl _) ?_
    | (refine endTr (.inl rfl) rfl ⟨⟨rfl, rfl⟩, trivial⟩ (.refl _) ?_; unfold wBt; first | (simp_all; done) | (simp_all; rfl))
theorem stSign_s [Wd] (x : SignD) : FnT 159 [.agg (cSign x)] (wSg x) (20) := by
  intro w hb
  refine mkS 25 [(2, ⟨[(0, false), (1, false), (2, false), (3, false), (5, false), (4, true), (6, true), (7, false), (8, false), (9, true)], [0]⟩)] Tryz.func159 rfl (by kernel_rfl) ?_
  repeat'
    (conv => arg 2; whnf)
    first
    | refine okAsk (by kernel_rfl) ?_
    | refine okBoth ?_ ?_
    | refine okBrT ?_
    | refine okBrF ?_
    | refine okBr (fun h => ?_) (fun h => ?_)
    | refine okFn (cSign_s x) rfl (Cos.refl _) ?_
    | refine okFn (putSign_s w.1 x (by unfold big; omega)) rfl (Cos.refl _) ?_
    | (refine endTr (.inl rfl) rfl ⟨⟨rfl, rfl⟩, trivial⟩ (.refl _) ?_; unfold wSg; first | (simp_all; done) | (simp_all; rfl))
theorem stFlag_s [Wd] (b : Bool) : FnT 58 [.bool b] (wF b) (10) := by
  intro w hb
  cases b
  all_goals
    refine mkS 11 [] Tryz.func58 rfl (by kernel_rfl) ?_
    repeat'
      (conv => arg 2; whnf)
      first
      | refine okAsk (by kernel_rfl) ?_
      | refine okBoth ?_ ?_
      | refine okBrT ?_
      | refine okBrF ?_
      | refine okBr (fun h => ?_) (fun h => ?_)
      | refine okTr (w := w) (stNum_s [0] (by simp)) rfl (by have : 10 * ([0] : List Int).length = 10 := rfl; omega) ⟨⟨rfl, rfl⟩, trivial⟩ (Cos.refl _) rfl ?_
      | refine okTr (w := w) (stNum_s [1] (by simp)) rfl (by have : 10 * ([1] : List Int).length = 10 := rfl; omega) ⟨⟨rfl, rfl⟩, trivial⟩ (Cos.refl _) rfl ?_
      | (refine endTr (.inl rfl) rfl ⟨⟨rfl, rfl⟩, trivial⟩ (.refl _) ?_; rfl)
theorem stHeader_s [Wd] (z : HeaderD) : FnT 59 [.agg (cHeader z)] (wM (mkHead z)) 262200 := by
  intro w hb
  by_cases h0 : hbE z = 0
  · have e : mkHead z = (hdrB z, 0) := by unfold mkHead; rw [if_pos h0]
    rw [e]
    refine mkS 10 [] Tryz.func59 rfl (by kernel_rfl) ?_
    repeat'
      (conv => arg 2; whnf)
      first
      | refine okAsk (by kernel_rfl) ?_
      | refine okFn (bkBytesY_s z h0) rfl (Cos.refl _) ?_
      | refine okTr (w := w) (stMade_s (hdrB z, 0) (by have := hdrB_len (hbE_ok.1 h0); show (hdrB z).length ≤ _; omega)) rfl (by omega) ⟨⟨rfl, rfl⟩, trivial⟩ (Cos.refl _) rfl ?_
      | (refine endTr (.inl rfl) rfl ⟨⟨rfl, rfl⟩, trivial⟩ (.refl _) ?_; rfl)
  · have e : mkHead z = ([], hbE z) := by unfold mkHead; rw [if_neg h0]
    rw [e]
    refine mkS 10 [] Tryz.func59 rfl (by kernel_rfl) ?_
    repeat'
      (conv => arg 2; whnf)
      first
      | refine okAsk (by kernel_rfl) ?_
      | refine okFn (bkBytesN_s z h0) rfl (Cos.refl _) ?_
      | refine okTr (w := w) (stMade_s ([], hbE z) (by simp)) rfl (by omega) ⟨⟨rfl, rfl⟩, trivial⟩ (Cos.cons (.refl _) (Cos.cons (.nil _) (Cos.cons (.refl _) .nil))) rfl ?_
      | (refine endTr (.inl rfl) rfl ⟨⟨rfl, rfl⟩, trivial⟩ (.refl _) ?_; rfl)
theorem stCert_s [Wd] (z : CertD) (hz : dCert.ok z) : FnT 63 [.agg (cCert z)] (wM (mkCert z)) 262200 := by
  intro w hb
  by_cases h0 : certE z = 0
  · have e : mkCert z = (certB z, 0) := by unfold mkCert; rw [if_pos h0]
    rw [e]
    refine mkS 10 [] Tryz.func63 rfl (by kernel_rfl) ?_
    repeat'
      (conv => arg 2; whnf)
      first
      | refine okAsk (by kernel_rfl) ?_
      | refine okFn (mCertBytesY_s z hz h0) rfl (Cos.refl _) ?_
      | refine okTr (w := w) (stMade_s (certB z, 0) (by have := certB_len h0; show (certB z).length ≤ _; omega)) rfl (by omega) ⟨⟨rfl, rfl⟩, trivial⟩ (Cos.refl _) rfl ?_
      | (refine endTr (.inl rfl) rfl ⟨⟨rfl, rfl⟩, trivial⟩ (.refl _) ?_; rfl)
  · have e : mkCert z = ([], certE z) := by unfold mkCert; rw [if_neg h0]
    rw [e]
    refine mkS 10 [] Tryz.func63 rfl (by kernel_rfl) ?_
    repeat'
      (conv => arg 2; whnf)
      first
      | refine okAsk (by kernel_rfl) ?_
      | refine okFn (mCertBytesN_s z hz h0) rfl (Cos.refl _) ?_
      | refine okTr (w := w) (stMade_s ([], certE z) (by simp)) rfl (by omega) ⟨⟨rfl, rfl⟩, trivial⟩ (Cos.cons (.refl _) (Cos.cons (.nil _) (Cos.cons (.refl _) .nil))) rfl ?_
      | (refine endTr (.inl rfl) rfl ⟨⟨rfl, rfl⟩, trivial⟩ (.refl _) ?_; rfl)
theorem stChange_s [Wd] (z : ChangeD) (hz : dChange.ok z) : FnT 74 [.agg (cChange z)] (wM (mkChg z)) 262200 := by
  intro w hb
  by_cases h0 : chgE z = 0
  · have e : mkChg z = (chgB z, 0) := by unfold mkChg; rw [if_pos h0]
    rw [e]
    refine mkS 10 [] Tryz.func74 rfl (by kernel_rfl) ?_
    repeat'
      (conv => arg 2; whnf)
      first
      | refine okAsk (by kernel_rfl) ?_
      | refine okFn (mChangeBytesY_s z hz h0) rfl (Cos.refl _) ?_
      | refine okTr (w := w) (stMade_s (chgB z, 0) (by have := chgB_len h0; show (chgB z).length ≤ _; omega)) rfl (by omega) ⟨⟨rfl, rfl⟩, trivial⟩ (Cos.refl _) rfl ?_
      | (refine endTr (.inl rfl) rfl ⟨⟨rfl, rfl⟩, trivial⟩ (.refl _) ?_; rfl)
  · have e : mkChg z = ([], chgE z) := by unfold mkChg; rw [if_neg h0]
    rw [e]
    refine mkS 10 [] Tryz.func74 rfl (by kernel_rfl) ?_
    repeat'
      (conv => arg 2; whnf)
      first
      | refine okAsk (by kernel_rfl) ?_
      | refine okFn (mChangeBytesN_s z hz h0) rfl (Cos.refl _) ?_
      | refine okTr (w := w) (stMade_s ([], chgE z) (by simp)) rfl (by omega) ⟨⟨rfl, rfl⟩, trivial⟩ (Cos.cons (.refl _) (Cos.cons (.nil _) (Cos.cons (.refl _) .nil))) rfl ?_
      | (refine endTr (.inl rfl) rfl ⟨⟨rfl, rfl⟩, trivial⟩ (.refl _) ?_; rfl)
theorem stMessage_s [Wd] (z : MsgD) (hz : dMsg.ok z) : FnT 78 [.agg (cMsg z)] (wM (mkMsg z)) 262200 := by
  intro w hb
  by_cases h0 : bytesE z = 0
  · have e : mkMsg z = (fullB z, 0) := by unfold mkMsg; rw [if_pos h0]
    rw [e]
    refine mkS 10 [] Tryz.func78 rfl (by kernel_rfl) ?_
    repeat'
      (conv => arg 2; whnf)
      first
      | refine okAsk (by kernel_rfl) ?_
      | refine okFn (mBytesY_s z hz h0) rfl (Cos.refl _) ?_
      | refine okTr (w := w) (stMade_s (fullB z, 0) ((bytesE_ok.1 h0).2)) rfl (by omega) ⟨⟨rfl, rfl⟩, trivial⟩ (Cos.refl _) rfl ?_
      | (refine endTr (.inl rfl) rfl ⟨⟨rfl, rfl⟩, trivial⟩ (.refl _) ?_; rfl)
  · have e : mkMsg z = ([], bytesE z) := by unfold mkMsg; rw [if_neg h0]
    rw [e]
    refine mkS 10 [] Tryz.func78 rfl (by kernel_rfl) ?_
    repeat'
      (conv => arg 2; whnf)
      first
      | refine okAsk (by kernel_rfl) ?_
      | refine okFn (mBytesN_s z hz h0) rfl (Cos.refl _) ?_
      | refine okTr (w := w) (stMade_s ([], bytesE z) (by simp)) rfl (by omega) ⟨⟨rfl, rfl⟩, trivial⟩ (Cos.cons (.refl _) (Cos.cons (.nil _) (Cos.cons (.refl _) .nil))) rfl ?_
      | (refine endTr (.inl rfl) rfl ⟨⟨rfl, rfl⟩, trivial⟩ (.refl _) ?_; rfl)
theorem stPlaced_s [Wd] (p : PlacedD) (hp : dPlaced.ok p) : FnT 156 [.agg (cPlaced p)] (wPlaced p) (262200 * tPlaced.sz p) := by
  intro w hb
  have h1 : p.topic.length ≤ 4194304 := hp.1
  have h2 : p.record.length ≤ 4194304 := hp.2.2
  unfold tPlaced at hb
  simp only [szM, szP, szI, szS, szY] at hb
  have hb0 : w.1.length + 262200 * ((p.topic.length + 1) + (([p.offset] : List Int).length + ((p.record.length + 1) + 0))) + 1000 ≤ 140737488355328 := Nat.not_lt.1 fun _ => by (try simp only [List.length_cons, List.length_nil] at *); omega
  clear hb
  obtain ⟨w1, e1⟩ : ∃ z : WS, z = wB p.topic w := ⟨_, rfl⟩
  have hb1 := room_go hb0 (b := w1.1.length) (by have b := (wB_wr p.topic h1).len w; rw [← e1] at b; exact b)
  obtain ⟨w2, e2⟩ : ∃ z : WS, z = wNs [p.offset] w1 := ⟨_, rfl⟩
  have hb2 := room_go hb1 (b := w2.1.length) (by have b := (wNs_wr [p.offset]).len w1; rw [← e2] at b; exact b)
  obtain ⟨w3, e3⟩ : ∃ z : WS, z = wB p.record w2 := ⟨_, rfl⟩
  refine mkS 18 [] Tryz.func156 rfl (by kernel_rfl) ?_
  conv => arg 2; whnf
  refine okAsk (by omega) ?_
  conv => arg 2; whnf
  refine okTr (w := w) (w' := w1) (stBytes_s p.topic h1) e1 (room_le (k := (p.topic.length + 1)) (r := (([p.offset] : List Int).length + ((p.record.length + 1) + 0))) hb0 (byt_m _)) ⟨⟨rfl, rfl⟩, trivial⟩ (Cos.refl _) rfl ?_
  conv => arg 2; whnf
  refine okTr (w := w1) (w' := w2) (stNum_s [p.offset] (by simp)) e2 (room_le (k := ([p.offset] : List Int).length) (r := ((p.record.length + 1) + 0)) hb1 (num_m _)) ⟨⟨rfl, rfl⟩, trivial⟩ (Cos.refl _) rfl ?_
  conv => arg 2; whnf
  refine okTr (w := w2) (w' := w3) (stBytes_s p.record h2) e3 (room_le (k := (p.record.length + 1)) (r := 0) hb2 (byt_m _)) ⟨⟨rfl, rfl⟩, trivial⟩ (Cos.refl _) rfl ?_
  conv => arg 2; whnf
  refine endTr (x := w3.1) (y := w3.2) (.inl rfl) rfl ⟨⟨rfl, rfl⟩, trivial⟩ (.refl _) ?_
  rw [e3, e2, e1]
  rfl
theorem putsPlaced_s [Wd] (l : List PlacedD) (hl : (dL dPlaced).ok l) : FnT 155 [.list 3 (l.map cPlaced), .fn 156 1 [.ptr 0 0]] (wL wPlaced l) (262200 * ((l.map tPlaced.sz).sum + 1)) := by
  intro w hb
  have HL : l.length ≤ 4194304 := hl.1
  have hF := fun q => Wr.fold (f := wPlaced) (l.take q) (fun x hx => (show Wr _ _ _ (tPlaced.sz x) from (by have hx := List.mem_of_mem_take hx; exact placed_wr x (hl.2 x hx))))
  refine mkS 29 [] Tryz.func155 rfl (by kernel_rfl) ?_
  repeat'
    (conv => arg 2; whnf)
    first
    | refine okAsk (by kernel_rfl) ?_
    | refine okBoth ?_ ?_
    | refine okBrT ?_
    | refine okBrF ?_
    | refine okBr (fun h => ?_) (fun h => ?_)
    | (refine endTr (.inr rfl) rfl ⟨⟨rfl, rfl⟩, trivial⟩ (.refl _) ?_; unfold wL; rw [if_pos (len_gt _ h)]; done)
    | refine okTr (w := w) (w' := wN (l.length : Int) w) (stNum_s [((l.map cPlaced).length : Int)] (by simp)) (by rw [List.length_map]; rfl) (by have : 10 * [((l.map cPlaced).length : Int)].length = 10 := rfl; omega) ⟨⟨rfl, rfl⟩, trivial⟩ (Cos.refl _) rfl ?_
  have h4 : ¬ 4096 < l.length := len_le _ h
  clear h
  conv => arg 2; whnf
  refine okLoop (α := Nat × WS) (fun a => ⟨[(21, .int .i64 a.1), (20, .int .i64 (l.map cPlaced).length), (19, .list 3 (l.map cPlaced)), (2, .fn 156 1 [.ptr 0 0]), (0, .ptr 0 0)], oT a.2⟩) (fun a => a.1 ≤ l.length ∧ a.2 = (l.take a.1).foldl (fun w x => wPlaced x w) (wN (l.length : Int) w)) (fun a => l.length - a.1) (0, wN (l.length : Int) w) ⟨Nat.zero_le _, rfl⟩ (Sv.mk' [0] rfl ⟨⟨rfl, rfl⟩, trivial⟩ ⟨rfl, rfl, rfl, rfl, rfl, trivial⟩) ?_
  rintro ⟨q, v⟩ ⟨hq, he⟩
  replace hq : q ≤ l.length := hq
  replace he : v = (l.take q).foldl (fun w x => wPlaced x w) (wN (l.length : Int) w) := he
  have hv : v.1.length ≤ w.1.length + 262200 * (1 + ((l.take q).map tPlaced.sz).sum) := by
    have h1 := (wN_wr (l.length : Int)).len w
    have h2 := (hF q).len (wN (l.length : Int) w)
    rw [he]
    omega
  repeat'
    (conv => arg 2; whnf)
    first
    | refine okAsk (by kernel_rfl) ?_
    | refine okBoth ?_ ?_
    | refine okBrT ?_
    | refine okBrF ?_
    | refine okBr (fun h => ?_) (fun h => ?_)
    | (refine okNthMap (l := l) (by simp at h; omega) (fun x hxq => ?_); replace hxq : l[q]? = some x := hxq; have hx := List.mem_of_getElem? hxq)
    | refine okTr (w := v) (stPlaced_s x (hl.2 x hx)) rfl (Nat.not_lt.1 fun _ => by have := sum_at tPlaced.sz hxq; omega) ⟨⟨rfl, rfl⟩, trivial⟩ (Cos.refl _) rfl ?_
    | refine okWrap (w64 (by simp at h hq; omega) (by simp at h hq; omega)) ?_
    | refine okAgain (q + 1, wPlaced x v) (Sv.mk' [0] rfl ⟨⟨rfl, rfl⟩, trivial⟩ ⟨rfl, rfl, rfl, rfl, rfl, trivial⟩) ⟨by have := (List.getElem?_eq_some_iff.1 hxq).1; show q + 1 ≤ l.length; omega, by show wPlaced x v = _; rw [he, List.take_add_one, hxq]; simp⟩ (by have := (List.getElem?_eq_some_iff.1 hxq).1; show l.length - (q + 1) < l.length - q; omega)
    | refine okOut ?_
    | (refine endTr (.inl rfl) rfl ⟨⟨rfl, rfl⟩, trivial⟩ (.refl _) ?_; unfold wL; rw [if_neg h4, show l.take q = l from List.take_of_length_le (by simp at h; omega)] at *; exact he)
theorem stBlock_s [Wd] (x : BlockD) (hx : dBlock.ok x) : FnT 61 [.agg (cBlock x)] (wBlock x) (262200 * tBlock.sz x) := by
  intro w hb
  have h1 := mkHead_sz x.header
  unfold tBlock at hb
  simp only [szM, szP, szL] at hb
  have hb0 : w.1.length + 262200 * (1 + (1 + (((x.placed.map tPlaced.sz).sum + 1) + 0))) + 1000 ≤ 140737488355328 := Nat.not_lt.1 fun _ => by (try simp only [List.length_cons, List.length_nil] at *); omega
  clear hb
  obtain ⟨w1, e1⟩ : ∃ z : WS, z = wM (mkHead x.header) w := ⟨_, rfl⟩
  have hb1 := room_go hb0 (b := w1.1.length) (by have b := (mkHead_wr x.header).len w; rw [← e1] at b; exact b)
  obtain ⟨w2, e2⟩ : ∃ z : WS, z = wBt x.batch w1 := ⟨_, rfl⟩
  have hb2 := room_go hb1 (b := w2.1.length) (by have b := (wBt_wr x.batch).len w1; rw [← e2] at b; exact b)
  obtain ⟨w3, e3⟩ : ∃ z : WS, z = wL wPlaced x.placed w2 := ⟨_, rfl⟩
  refine mkS 18 [] Tryz.func61 rfl (by kernel_rfl) ?_
  conv => arg 2; whnf
  refine okTr (w := w) (w' := w1) (stHeader_s x.header) e1 (room_le (k := 1) (r := (1 + (((x.placed.map tPlaced.sz).sum + 1) + 0))) hb0 (Nat.le_refl _)) ⟨⟨rfl, rfl⟩, trivial⟩ (Cos.refl _) rfl ?_
  conv => arg 2; whnf
  refine okTr (w := w1) (w' := w2) (stBatch_s x.batch hx.2.1) e2 (room_le (k := 1) (r := (((x.placed.map tPlaced.sz).sum + 1) + 0)) hb1 (show (4300 : Nat) ≤ 262200 * 1 by decide)) ⟨⟨rfl, rfl⟩, trivial⟩ (Cos.refl _) rfl ?_
  conv => arg 2; whnf
  refine okTr (w := w2) (w' := w3) (putsPlaced_s x.placed hx.2.2) e3 (room_le (k := ((x.placed.map tPlaced.sz).sum + 1)) (r := 0) hb2 (Nat.le_refl _)) ⟨⟨rfl, rfl⟩, trivial⟩ (Cos.refl _) rfl ?_
  conv => arg 2; whnf
  refine endTr (x := w3.1) (y := w3.2) (.inl rfl) rfl ⟨⟨rfl, rfl⟩, trivial⟩ (.refl _) ?_
  rw [e3, e2, e1]
  rfl
theorem putsBlock_s [Wd] (l : List BlockD) (hl : (dL dBlock).ok l) : FnT 60 [.list 7 (l.map cBlock), .fn 61 1 [.ptr 0 0]] (wL wBlock l) (262200 * ((l.map tBlock.sz).sum + 1)) := by
  intro w hb
  have HL : l.length ≤ 4194304 := hl.1
  have hF := fun q => Wr.fold (f := wBlock) (l.take q) (fun x hx => (show Wr _ _ _ (tBlock.sz x) from (by have hx := List.mem_of_mem_take hx; exact block_wr x (hl.2 x hx))))
  refine mkS 29 [] Tryz.func60 rfl (by kernel_rfl) ?_
  repeat'
    (conv => arg 2; whnf)
    first
    | refine okAsk (by kernel_rfl) ?_
    | refine okBoth ?_ ?_
    | refine okBrT ?_
    | refine okBrF ?_
    | refine okBr (fun h => ?_) (fun h => ?_)
    | (refine endTr (.inr rfl) rfl ⟨⟨rfl, rfl⟩, trivial⟩ (.refl _) ?_; unfold wL; rw [if_pos (len_gt _ h)]; done)
    | refine okTr (w := w) (w' := wN (l.length : Int) w) (stNum_s [((l.map cBlock).length : Int)] (by simp)) (by rw [List.length_map]; rfl) (by have : 10 * [((l.map cBlock).length : Int)].length = 10 := rfl; omega) ⟨⟨rfl, rfl⟩, trivial⟩ (Cos.refl _) rfl ?_
  have h4 : ¬ 4096 < l.length := len_le _ h
  clear h
  conv => arg 2; whnf
  refine okLoop (α := Nat × WS) (fun a => ⟨[(21, .int .i64 a.1), (20, .int .i64 (l.map cBlock).length), (19, .list 7 (l.map cBlock)), (2, .fn 61 1 [.ptr 0 0]), (0, .ptr 0 0)], oT a.2⟩) (fun a => a.1 ≤ l.length ∧ a.2 = (l.take a.1).foldl (fun w x => wBlock x w) (wN (l.length : Int) w)) (fun a => l.length - a.1) (0, wN (l.length : Int) w) ⟨Nat.zero_le _, rfl⟩ (Sv.mk' [0] rfl ⟨⟨rfl, rfl⟩, trivial⟩ ⟨rfl, rfl, rfl, rfl, rfl, trivial⟩) ?_
  rintro ⟨q, v⟩ ⟨hq, he⟩
  replace hq : q ≤ l.length := hq
  replace he : v = (l.take q).foldl (fun w x => wBlock x w) (wN (l.length : Int) w) := he
  have hv : v.1.length ≤ w.1.length + 262200 * (1 + ((l.take q).map tBlock.sz).sum) := by
    have h1 := (wN_wr (l.length : Int)).len w
    have h2 := (hF q).len (wN (l.length : Int) w)
    rw [he]
    omega
  repeat'
    (conv => arg 2; whnf)
    first
    | refine okAsk (by kernel_rfl) ?_
    | refine okBoth ?_ ?_
    | refine okBrT ?_
    | refine okBrF ?_
    | refine okBr (fun h => ?_) (fun h => ?_)
    | (refine okNthMap (l := l) (by simp at h; omega) (fun x hxq => ?_); replace hxq : l[q]? = some x := hxq; have hx := List.mem_of_getElem? hxq)
    | refine okTr (w := v) (stBlock_s x (hl.2 x hx)) rfl (Nat.not_lt.1 fun _ => by have := sum_at tBlock.sz hxq; omega) ⟨⟨rfl, rfl⟩, trivial⟩ (Cos.refl _) rfl ?_
    | refine okWrap (w64 (by simp at h hq; omega) (by simp at h hq; omega)) ?_
    | refine okAgain (q + 1, wBlock x v) (Sv.mk' [0] rfl ⟨⟨rfl, rfl⟩, trivial⟩ ⟨rfl, rfl, rfl, rfl, rfl, trivial⟩) ⟨by have := (List.getElem?_eq_some_iff.1 hxq).1; show q + 1 ≤ l.length; omega, by show wBlock x v = _; rw [he, List.take_add_one, hxq]; simp⟩ (by have := (List.getElem?_eq_some_iff.1 hxq).1; show l.length - (q + 1) < l.length - q; omega)
    | refine okOut ?_
    | (refine endTr (.inl rfl) rfl ⟨⟨rfl, rfl⟩, trivial⟩ (.refl _) ?_; unfold wL; rw [if_neg h4, show l.take q = l from List.take_of_length_le (by simp at h; omega)] at *; exact he)
theorem stVote_s [Wd] (x : VoteD) (hx : dVote.ok x) : FnT 65 [.agg (cVote x)] (wVote x) (262200 * tVote.sz x) := by
  intro w hb
  have h1 := sign_sz x.sign
  unfold tVote at hb
  simp only [szM, szP, szI] at hb
  have hb0 : w.1.length + 262200 * (([x.seq, x.digest] : List Int).length + (1 + 0)) + 1000 ≤ 140737488355328 := Nat.not_lt.1 fun _ => by (try simp only [List.length_cons, List.length_nil] at *); omega
  clear hb
  obtain ⟨w1, e1⟩ : ∃ z : WS, z = wNs [x.seq, x.digest] w := ⟨_, rfl⟩
  have hb1 := room_go hb0 (b := w1.1.length) (by have b := (wNs_wr [x.seq, x.digest]).len w; rw [← e1] at b; exact b)
  obtain ⟨w2, e2⟩ : ∃ z : WS, z = wSg x.sign w1 := ⟨_, rfl⟩
  refine mkS 15 [] Tryz.func65 rfl (by kernel_rfl) ?_
  conv => arg 2; whnf
  refine okTr (w := w) (w' := w1) (stNum_s [x.seq, x.digest] (by simp)) e1 (room_le (k := ([x.seq, x.digest] : List Int).length) (r := (1 + 0)) hb0 (num_m _)) ⟨⟨rfl, rfl⟩, trivial⟩ (Cos.refl _) rfl ?_
  conv => arg 2; whnf
  refine okTr (w := w1) (w' := w2) (stSign_s x.sign) e2 (room_le (k := 1) (r := 0) hb1 (show (20 : Nat) ≤ 262200 * 1 by decide)) ⟨⟨rfl, rfl⟩, trivial⟩ (Cos.refl _) rfl ?_
  conv => arg 2; whnf
  refine endTr (x := w2.1) (y := w2.2) (.inl rfl) rfl ⟨⟨rfl, rfl⟩, trivial⟩ (.refl _) ?_
  rw [e2, e1]
  rfl
theorem putsVote_s [Wd] (l : List VoteD) (hl : (dL dVote).ok l) : FnT 64 [.list 4 (l.map cVote), .fn 65 1 [.ptr 0 0]] (wL wVote l) (262200 * ((l.map tVote.sz).sum + 1)) := by
  intro w hb
  have HL : l.length ≤ 4194304 := hl.1
  have hF := fun q => Wr.fold (f := wVote) (l.take q) (fun x hx => (show Wr _ _ _ (tVote.sz x) from (by have hx := List.mem_of_mem_take hx; exact vote_wr x)))
  refine mkS 29 [] Tryz.func64 rfl (by kernel_rfl) ?_
  repeat'
    (conv => arg 2; whnf)
    first
    | refine okAsk (by kernel_rfl) ?_
    | refine okBoth ?_ ?_
    | refine okBrT ?_
    | refine okBrF ?_
    | refine okBr (fun h => ?_) (fun h => ?_)
    | (refine endTr (.inr rfl) rfl ⟨⟨rfl, rfl⟩, trivial⟩ (.refl _) ?_; unfold wL; rw [if_pos (len_gt _ h)]; done)
    | refine okTr (w := w) (w' := wN (l.length : Int) w) (stNum_s [((l.map cVote).length : Int)] (by simp)) (by rw [List.length_map]; rfl) (by have : 10 * [((l.map cVote).length : Int)].length = 10 := rfl; omega) ⟨⟨rfl, rfl⟩, trivial⟩ (Cos.refl _) rfl ?_
  have h4 : ¬ 4096 < l.length := len_le _ h
  clear h
  conv => arg 2; whnf
  refine okLoop (α := Nat × WS) (fun a => ⟨[(21, .int .i64 a.1), (20, .int .i64 (l.map cVote).length), (19, .list 4 (l.map cVote)), (2, .fn 65 1 [.ptr 0 0]), (0, .ptr 0 0)], oT a.2⟩) (fun a => a.1 ≤ l.length ∧ a.2 = (l.take a.1).foldl (fun w x => wVote x w) (wN (l.length : Int) w)) (fun a => l.length - a.1) (0, wN (l.length : Int) w) ⟨Nat.zero_le _, rfl⟩ (Sv.mk' [0] rfl ⟨⟨rfl, rfl⟩, trivial⟩ ⟨rfl, rfl, rfl, rfl, rfl, trivial⟩) ?_
  rintro ⟨q, v⟩ ⟨hq, he⟩
  replace hq : q ≤ l.length := hq
  replace he : v = (l.take q).foldl (fun w x => wVote x w) (wN (l.length : Int) w) := he
  have hv : v.1.length ≤ w.1.length + 262200 * (1 + ((l.take q).map tVote.sz).sum) := by
    have h1 := (wN_wr (l.length : Int)).len w
    have h2 := (hF q).len (wN (l.length : Int) w)
    rw [he]
    omega
  repeat'
    (conv => arg 2; whnf)
    first
    | refine okAsk (by kernel_rfl) ?_
    | refine okBoth ?_ ?_
    | refine okBrT ?_
    | refine okBrF ?_
    | refine okBr (fun h => ?_) (fun h => ?_)
    | (refine okNthMap (l := l) (by simp at h; omega) (fun x hxq => ?_); replace hxq : l[q]? = some x := hxq; have hx := List.mem_of_getElem? hxq)
    | refine okTr (w := v) (stVote_s x (hl.2 x hx)) rfl (Nat.not_lt.1 fun _ => by have := sum_at tVote.sz hxq; omega) ⟨⟨rfl, rfl⟩, trivial⟩ (Cos.refl _) rfl ?_
    | refine okWrap (w64 (by simp at h hq; omega) (by simp at h hq; omega)) ?_
    | refine okAgain (q + 1, wVote x v) (Sv.mk' [0] rfl ⟨⟨rfl, rfl⟩, trivial⟩ ⟨rfl, rfl, rfl, rfl, rfl, trivial⟩) ⟨by have := (List.getElem?_eq_some_iff.1 hxq).1; show q + 1 ≤ l.length; omega, by show wVote x v = _; rw [he, List.take_add_one, hxq]; simp⟩ (by have := (List.getElem?_eq_some_iff.1 hxq).1; show l.length - (q + 1) < l.length - q; omega)
    | refine okOut ?_
    | (refine endTr (.inl rfl) rfl ⟨⟨rfl, rfl⟩, trivial⟩ (.refl _) ?_; unfold wL; rw [if_neg h4, show l.take q = l from List.take_of_length_le (by simp at h; omega)] at *; exact he)
theorem putsCert_s [Wd] (l : List CertD) (hl : (dL dCert).ok l) : FnT 66 [.list 3 (l.map cCert), .fn 63 1 [.ptr 0 0]] (wL wCt l) (262200 * ((l.map tCert.sz).sum + 1)) := by
  intro w hb
  have HL : l.length ≤ 4194304 := hl.1
  have hF := fun q => Wr.fold (f := wCt) (l.take q) (fun x hx => (show Wr _ _ _ (tCert.sz x) from (by have hx := List.mem_of_mem_take hx; exact (mkCert_wr x).more (mkCert_sz x))))
  refine mkS 29 [] Tryz.func66 rfl (by kernel_rfl) ?_
  repeat'
    (conv => arg 2; whnf)
    first
    | refine okAsk (by kernel_rfl) ?_
    | refine okBoth ?_ ?_
    | refine okBrT ?_
    | refine okBrF ?_
    | refine okBr (fun h => ?_) (fun h => ?_)
    | (refine endTr (.inr rfl) rfl ⟨⟨rfl, rfl⟩, trivial⟩ (.refl _) ?_; unfold wL; rw [if_pos (len_gt _ h)]; done)
    | refine okTr (w := w) (w' := wN (l.length : Int) w) (stNum_s [((l.map cCert).length : Int)] (by simp)) (by rw [List.length_map]; rfl) (by have : 10 * [((l.map cCert).length : Int)].length = 10 := rfl; omega) ⟨⟨rfl, rfl⟩, trivial⟩ (Cos.refl _) rfl ?_
  have h4 : ¬ 4096 < l.length := len_le _ h
  clear h
  conv => arg 2; whnf
  refine okLoop (α := Nat × WS) (fun a => ⟨[(21, .int .i64 a.1), (20, .int .i64 (l.map cCert).length), (19, .list 3 (l.map cCert)), (2, .fn 63 1 [.ptr 0 0]), (0, .ptr 0 0)], oT a.2⟩) (fun a => a.1 ≤ l.length ∧ a.2 = (l.take a.1).foldl (fun w x => wCt x w) (wN (l.length : Int) w)) (fun a => l.length - a.1) (0, wN (l.length : Int) w) ⟨Nat.zero_le _, rfl⟩ (Sv.mk' [0] rfl ⟨⟨rfl, rfl⟩, trivial⟩ ⟨rfl, rfl, rfl, rfl, rfl, trivial⟩) ?_
  rintro ⟨q, v⟩ ⟨hq, he⟩
  replace hq : q ≤ l.length := hq
  replace he : v = (l.take q).foldl (fun w x => wCt x w) (wN (l.length : Int) w) := he
  have hv : v.1.length ≤ w.1.length + 262200 * (1 + ((l.take q).map tCert.sz).sum) := by
    have h1 := (wN_wr (l.length : Int)).len w
    have h2 := (hF q).len (wN (l.length : Int) w)
    rw [he]
    omega
  repeat'
    (conv => arg 2; whnf)
    first
    | refine okAsk (by kernel_rfl) ?_
    | refine okBoth ?_ ?_
    | refine okBrT ?_
    | refine okBrF ?_
    | refine okBr (fun h => ?_) (fun h => ?_)
    | (refine okNthMap (l := l) (by simp at h; omega) (fun x hxq => ?_); replace hxq : l[q]? = some x := hxq; have hx := List.mem_of_getElem? hxq)
    | refine okTr (w := v) (stCert_s x (hl.2 x hx)) rfl (Nat.not_lt.1 fun _ => by have := sum_at tCert.sz hxq; have := mkCert_sz x; omega) ⟨⟨rfl, rfl⟩, trivial⟩ (Cos.refl _) rfl ?_
    | refine okWrap (w64 (by simp at h hq; omega) (by simp at h hq; omega)) ?_
    | refine okAgain (q + 1, wCt x v) (Sv.mk' [0] rfl ⟨⟨rfl, rfl⟩, trivial⟩ ⟨rfl, rfl, rfl, rfl, rfl, trivial⟩) ⟨by have := (List.getElem?_eq_some_iff.1 hxq).1; show q + 1 ≤ l.length; omega, by show wCt x v = _; rw [he, List.take_add_one, hxq]; simp⟩ (by have := (List.getElem?_eq_some_iff.1 hxq).1; show l.length - (q + 1) < l.length - q; omega)
    | refine okOut ?_
    | (refine endTr (.inl rfl) rfl ⟨⟨rfl, rfl⟩, trivial⟩ (.refl _) ?_; unfold wL; rw [if_neg h4, show l.take q = l from List.take_of_length_le (by simp at h; omega)] at *; exact he)
theorem stMark_s [Wd] (x : MarkD) (hx : dMark.ok x) : FnT 68 [.agg (cMark x)] (wMark x) (262200 * tMark.sz x) := by
  intro w hb
  have h1 := mkHead_sz x.header
  unfold tMark at hb
  simp only [szM, szP, szY] at hb
  have hb0 : w.1.length + 262200 * (1 + ((x.topics.length + 1) + 0)) + 1000 ≤ 140737488355328 := Nat.not_lt.1 fun _ => by (try simp only [List.length_cons, List.length_nil] at *); omega
  clear hb
  obtain ⟨w1, e1⟩ : ∃ z : WS, z = wM (mkHead x.header) w := ⟨_, rfl⟩
  have hb1 := room_go hb0 (b := w1.1.length) (by have b := (mkHead_wr x.header).len w; rw [← e1] at b; exact b)
  obtain ⟨w2, e2⟩ : ∃ z : WS, z = wB x.topics w1 := ⟨_, rfl⟩
  refine mkS 12 [] Tryz.func68 rfl (by kernel_rfl) ?_
  conv => arg 2; whnf
  refine okTr (w := w) (w' := w1) (stHeader_s x.header) e1 (room_le (k := 1) (r := ((x.topics.length + 1) + 0)) hb0 (Nat.le_refl _)) ⟨⟨rfl, rfl⟩, trivial⟩ (Cos.refl _) rfl ?_
  conv => arg 2; whnf
  refine okTr (w := w1) (w' := w2) (stBytes_s x.topics hx.2) e2 (room_le (k := (x.topics.length + 1)) (r := 0) hb1 (byt_m _)) ⟨⟨rfl, rfl⟩, trivial⟩ (Cos.refl _) rfl ?_
  conv => arg 2; whnf
  refine endTr (x := w2.1) (y := w2.2) (.inl rfl) rfl ⟨⟨rfl, rfl⟩, trivial⟩ (.refl _) ?_
  rw [e2, e1]
  rfl
theorem putsMark_s [Wd] (l : List MarkD) (hl : (dL dMark).ok l) : FnT 67 [.list 6 (l.map cMark), .fn 68 1 [.ptr 0 0]] (wL wMark l) (262200 * ((l.map tMark.sz).sum + 1)) := by
  intro w hb
  have HL : l.length ≤ 4194304 := hl.1
  have hF := fun q => Wr.fold (f := wMark) (l.take q) (fun x hx => (show Wr _ _ _ (tMark.sz x) from (by have hx := List.mem_of_mem_take hx; exact mark_wr x (hl.2 x hx))))
  refine mkS 29 [] Tryz.func67 rfl (by kernel_rfl) ?_
  repeat'
    (conv => arg 2; whnf)
    first
    | refine okAsk (by kernel_rfl) ?_
    | refine okBoth ?_ ?_
    | refine okBrT ?_
    | refine okBrF ?_
    | refine okBr (fun h => ?_) (fun h => ?_)
    | (refine endTr (.inr rfl) rfl ⟨⟨rfl, rfl⟩, trivial⟩ (.refl _) ?_; unfold wL; rw [if_pos (len_gt _ h)]; done)
    | refine okTr (w := w) (w' := wN (l.length : Int) w) (stNum_s [((l.map cMark).length : Int)] (by simp)) (by rw [List.length_map]; rfl) (by have : 10 * [((l.map cMark).length : Int)].length = 10 := rfl; omega) ⟨⟨rfl, rfl⟩, trivial⟩ (Cos.refl _) rfl ?_
  have h4 : ¬ 4096 < l.length := len_le _ h
  clear h
  conv => arg 2; whnf
  refine okLoop (α := Nat × WS) (fun a => ⟨[(21, .int .i64 a.1), (20, .int .i64 (l.map cMark).length), (19, .list 6 (l.map cMark)), (2, .fn 68 1 [.ptr 0 0]), (0, .ptr 0 0)], oT a.2⟩) (fun a => a.1 ≤ l.length ∧ a.2 = (l.take a.1).foldl (fun w x => wMark x w) (wN (l.length : Int) w)) (fun a => l.length - a.1) (0, wN (l.length : Int) w) ⟨Nat.zero_le _, rfl⟩ (Sv.mk' [0] rfl ⟨⟨rfl, rfl⟩, trivial⟩ ⟨rfl, rfl, rfl, rfl, rfl, trivial⟩) ?_
  rintro ⟨q, v⟩ ⟨hq, he⟩
  replace hq : q ≤ l.length := hq
  replace he : v = (l.take q).foldl (fun w x => wMark x w) (wN (l.length : Int) w) := he
  have hv : v.1.length ≤ w.1.length + 262200 * (1 + ((l.take q).map tMark.sz).sum) := by
    have h1 := (wN_wr (l.length : Int)).len w
    have h2 := (hF q).len (wN (l.length : Int) w)
    rw [he]
    omega
  repeat'
    (conv => arg 2; whnf)
    first
    | refine okAsk (by kernel_rfl) ?_
    | refine okBoth ?_ ?_
    | refine okBrT ?_
    | refine okBrF ?_
    | refine okBr (fun h => ?_) (fun h => ?_)
    | (refine okNthMap (l := l) (by simp at h; omega) (fun x hxq => ?_); replace hxq : l[q]? = some x := hxq; have hx := List.mem_of_getElem? hxq)
    | refine okTr (w := v) (stMark_s x (hl.2 x hx)) rfl (Nat.not_lt.1 fun _ => by have := sum_at tMark.sz hxq; omega) ⟨⟨rfl, rfl⟩, trivial⟩ (Cos.refl _) rfl ?_
    | refine okWrap (w64 (by simp at h hq; omega) (by simp at h hq; omega)) ?_
    | refine okAgain (q + 1, wMark x v) (Sv.mk' [0] rfl ⟨⟨rfl, rfl⟩, trivial⟩ ⟨rfl, rfl, rfl, rfl, rfl, trivial⟩) ⟨by have := (List.getElem?_eq_some_iff.1 hxq).1; show q + 1 ≤ l.length; omega, by show wMark x v = _; rw [he, List.take_add_one, hxq]; simp⟩ (by have := (List.getElem?_eq_some_iff.1 hxq).1; show l.length - (q + 1) < l.length - q; omega)
    | refine okOut ?_
    | (refine endTr (.inl rfl) rfl ⟨⟨rfl, rfl⟩, trivial⟩ (.refl _) ?_; unfold wL; rw [if_neg h4, show l.take q = l from List.take_of_length_le (by simp at h; omega)] at *; exact he)
theorem stVoteOf_s [Wd] (x : VoteOfD) (hx : dVoteOf.ok x) : FnT 161 [.agg (cVoteOf x)] (wVoteOf x) (262200 * tVoteOf.sz x) := by
  intro w hb
  have h1 := sign_sz x.sign
  unfold tVoteOf at hb
  simp only [szM, szP, szI] at hb
  have hb0 : w.1.length + 262200 * (([x.digest] : List Int).length + (1 + 0)) + 1000 ≤ 140737488355328 := Nat.not_lt.1 fun _ => by (try simp only [List.length_cons, List.length_nil] at *); omega
  clear hb
  obtain ⟨w1, e1⟩ : ∃ z : WS, z = wNs [x.digest] w := ⟨_, rfl⟩
  have hb1 := room_go hb0 (b := w1.1.length) (by have b := (wNs_wr [x.digest]).len w; rw [← e1] at b; exact b)
  obtain ⟨w2, e2⟩ : ∃ z : WS, z = wSg x.sign w1 := ⟨_, rfl⟩
  refine mkS 13 [] Tryz.func161 rfl (by kernel_rfl) ?_
  conv => arg 2; whnf
  refine okTr (w := w) (w' := w1) (stNum_s [x.digest] (by simp)) e1 (room_le (k := ([x.digest] : List Int).length) (r := (1 + 0)) hb0 (num_m _)) ⟨⟨rfl, rfl⟩, trivial⟩ (Cos.refl _) rfl ?_
  conv => arg 2; whnf
  refine okTr (w := w1) (w' := w2) (stSign_s x.sign) e2 (room_le (k := 1) (r := 0) hb1 (show (20 : Nat) ≤ 262200 * 1 by decide)) ⟨⟨rfl, rfl⟩, trivial⟩ (Cos.refl _) rfl ?_
  conv => arg 2; whnf
  refine endTr (x := w2.1) (y := w2.2) (.inl rfl) rfl ⟨⟨rfl, rfl⟩, trivial⟩ (.refl _) ?_
  rw [e2, e1]
  rfl
theorem putsVoteOf_s [Wd] (l : List VoteOfD) (hl : (dL dVoteOf).ok l) : FnT 160 [.list 3 (l.map cVoteOf), .fn 161 1 [.ptr 0 0]] (wL wVoteOf l) (262200 * ((l.map tVoteOf.sz).sum + 1)) := by
  intro w hb
  have HL : l.length ≤ 4194304 := hl.1
  have hF := fun q => Wr.fold (f := wVoteOf) (l.take q) (fun x hx => (show Wr _ _ _ (tVoteOf.sz x) from (by have hx := List.mem_of_mem_take hx; exact voteOf_wr x)))
  refine mkS 29 [] Tryz.func160 rfl (by kernel_rfl) ?_
  repeat'
    (conv => arg 2; whnf)
    first
    | refine okAsk (by kernel_rfl) ?_
    | refine okBoth ?_ ?_
    | refine okBrT ?_
    | refine okBrF ?_
    | refine okBr (fun h => ?_) (fun h => ?_)
    | (refine endTr (.inr rfl) rfl ⟨⟨rfl, rfl⟩, trivial⟩ (.refl _) ?_; unfold wL; rw [if_pos (len_gt _ h)]; done)
    | refine okTr (w := w) (w' := wN (l.length : Int) w) (stNum_s [((l.map cVoteOf).length : Int)] (by simp)) (by rw [List.length_map]; rfl) (by have : 10 * [((l.map cVoteOf).length : Int)].length = 10 := rfl; omega) ⟨⟨rfl, rfl⟩, trivial⟩ (Cos.refl _) rfl ?_
  have h4 : ¬ 4096 < l.length := len_le _ h
  clear h
  conv => arg 2; whnf
  refine okLoop (α := Nat × WS) (fun a => ⟨[(21, .int .i64 a.1), (20, .int .i64 (l.map cVoteOf).length), (19, .list 3 (l.map cVoteOf)), (2, .fn 161 1 [.ptr 0 0]), (0, .ptr 0 0)], oT a.2⟩) (fun a => a.1 ≤ l.length ∧ a.2 = (l.take a.1).foldl (fun w x => wVoteOf x w) (wN (l.length : Int) w)) (fun a => l.length - a.1) (0, wN (l.length : Int) w) ⟨Nat.zero_le _, rfl⟩ (Sv.mk' [0] rfl ⟨⟨rfl, rfl⟩, trivial⟩ ⟨rfl, rfl, rfl, rfl, rfl, trivial⟩) ?_
  rintro ⟨q, v⟩ ⟨hq, he⟩
  replace hq : q ≤ l.length := hq
  replace he : v = (l.take q).foldl (fun w x => wVoteOf x w) (wN (l.length : Int) w) := he
  have hv : v.1.length ≤ w.1.length + 262200 * (1 + ((l.take q).map tVoteOf.sz).sum) := by
    have h1 := (wN_wr (l.length : Int)).len w
    have h2 := (hF q).len (wN (l.length : Int) w)
    rw [he]
    omega
  repeat'
    (conv => arg 2; whnf)
    first
    | refine okAsk (by kernel_rfl) ?_
    | refine okBoth ?_ ?_
    | refine okBrT ?_
    | refine okBrF ?_
    | refine okBr (fun h => ?_) (fun h => ?_)
    | (refine okNthMap (l := l) (by simp at h; omega) (fun x hxq => ?_); replace hxq : l[q]? = some x := hxq; have hx := List.mem_of_getElem? hxq)
    | refine okTr (w := v) (stVoteOf_s x (hl.2 x hx)) rfl (Nat.not_lt.1 fun _ => by have := sum_at tVoteOf.sz hxq; omega) ⟨⟨rfl, rfl⟩, trivial⟩ (Cos.refl _) rfl ?_
    | refine okWrap (w64 (by simp at h hq; omega) (by simp at h hq; omega)) ?_
    | refine okAgain (q + 1, wVoteOf x v) (Sv.mk' [0] rfl ⟨⟨rfl, rfl⟩, trivial⟩ ⟨rfl, rfl, rfl, rfl, rfl, trivial⟩) ⟨by have := (List.getElem?_eq_some_iff.1 hxq).1; show q + 1 ≤ l.length; omega, by show wVoteOf x v = _; rw [he, List.take_add_one, hxq]; simp⟩ (by have := (List.getElem?_eq_some_iff.1 hxq).1; show l.length - (q + 1) < l.length - q; omega)
    | refine okOut ?_
    | (refine endTr (.inl rfl) rfl ⟨⟨rfl, rfl⟩, trivial⟩ (.refl _) ?_; unfold wL; rw [if_neg h4, show l.take q = l from List.take_of_length_le (by simp at h; omega)] at *; exact he)
theorem putsSign_s [Wd] (l : List SignD) (hl : (dL dSign).ok l) : FnT 162 [.list 2 (l.map cSign), .fn 159 1 [.ptr 0 0]] (wL wSg l) (262200 * ((l.map tSign.sz).sum + 1)) := by
  intro w hb
  have HL : l.length ≤ 4194304 := hl.1
  have hF := fun q => Wr.fold (f := wSg) (l.take q) (fun x hx => (show Wr _ _ _ (tSign.sz x) from (by have hx := List.mem_of_mem_take hx; exact (wSg_wr x).more (sign_sz x))))
  refine mkS 29 [] Tryz.func162 rfl (by kernel_rfl) ?_
  repeat'
    (conv => arg 2; whnf)
    first
    | refine okAsk (by kernel_rfl) ?_
    | refine okBoth ?_ ?_
    | refine okBrT ?_
    | refine okBrF ?_
    | refine okBr (fun h => ?_) (fun h => ?_)
    | (refine endTr (.inr rfl) rfl ⟨⟨rfl, rfl⟩, trivial⟩ (.refl _) ?_; unfold wL; rw [if_pos (len_gt _ h)]; done)
    | refine okTr (w := w) (w' := wN (l.length : Int) w) (stNum_s [((l.map cSign).length : Int)] (by simp)) (by rw [List.length_map]; rfl) (by have : 10 * [((l.map cSign).length : Int)].length = 10 := rfl; omega) ⟨⟨rfl, rfl⟩, trivial⟩ (Cos.refl _) rfl ?_
  have h4 : ¬ 4096 < l.length := len_le _ h
  clear h
  conv => arg 2; whnf
  refine okLoop (α := Nat × WS) (fun a => ⟨[(21, .int .i64 a.1), (20, .int .i64 (l.map cSign).length), (19, .list 2 (l.map cSign)), (2, .fn 159 1 [.ptr 0 0]), (0, .ptr 0 0)], oT a.2⟩) (fun a => a.1 ≤ l.length ∧ a.2 = (l.take a.1).foldl (fun w x => wSg x w) (wN (l.length : Int) w)) (fun a => l.length - a.1) (0, wN (l.length : Int) w) ⟨Nat.zero_le _, rfl⟩ (Sv.mk' [0] rfl ⟨⟨rfl, rfl⟩, trivial⟩ ⟨rfl, rfl, rfl, rfl, rfl, trivial⟩) ?_
  rintro ⟨q, v⟩ ⟨hq, he⟩
  replace hq : q ≤ l.length := hq
  replace he : v = (l.take q).foldl (fun w x => wSg x w) (wN (l.length : Int) w) := he
  have hv : v.1.length ≤ w.1.length + 262200 * (1 + ((l.take q).map tSign.sz).sum) := by
    have h1 := (wN_wr (l.length : Int)).len w
    have h2 := (hF q).len (wN (l.length : Int) w)
    rw [he]
    omega
  repeat'
    (conv => arg 2; whnf)
    first
    | refine okAsk (by kernel_rfl) ?_
    | refine okBoth ?_ ?_
    | refine okBrT ?_
    | refine okBrF ?_
    | refine okBr (fun h => ?_) (fun h => ?_)
    | (refine okNthMap (l := l) (by simp at h; omega) (fun x hxq => ?_); replace hxq : l[q]? = some x := hxq; have hx := List.mem_of_getElem? hxq)
    | refine okTr (w := v) (stSign_s x) rfl (Nat.not_lt.1 fun _ => by have := sum_at tSign.sz hxq; have := sign_sz x; omega) ⟨⟨rfl, rfl⟩, trivial⟩ (Cos.refl _) rfl ?_
    | refine okWrap (w64 (by simp at h hq; omega) (by simp at h hq; omega)) ?_
    | refine okAgain (q + 1, wSg x v) (Sv.mk' [0] rfl ⟨⟨rfl, rfl⟩, trivial⟩ ⟨rfl, rfl, rfl, rfl, rfl, trivial⟩) ⟨by have := (List.getElem?_eq_some_iff.1 hxq).1; show q + 1 ≤ l.length; omega, by show wSg x v = _; rw [he, List.take_add_one, hxq]; simp⟩ (by have := (List.getElem?_eq_some_iff.1 hxq).1; show l.length - (q + 1) < l.length - q; omega)
    | refine okOut ?_
    | (refine endTr (.inl rfl) rfl ⟨⟨rfl, rfl⟩, trivial⟩ (.refl _) ?_; unfold wL; rw [if_neg h4, show l.take q = l from List.take_of_length_le (by simp at h; omega)] at *; exact he)
theorem stPrepared_s [Wd] (x : PreparedD) (hx : dPrepared.ok x) : FnT 72 [.agg (cPrepared x)] (wPrep x) (262200 * tPrepared.sz x) := by
  intro w hb
  have h1 := sign_sz x.firstS
  unfold tPrepared at hb
  simp only [szM, szP, szI, szL] at hb
  have hb0 : w.1.length + 262200 * (([x.view, x.seq, x.digest] : List Int).length + (1 + (((x.signs.map tSign.sz).sum + 1) + (1 + 0)))) + 1000 ≤ 140737488355328 := Nat.not_lt.1 fun _ => by (try simp only [List.length_cons, List.length_nil] at *); omega
  clear hb
  obtain ⟨w1, e1⟩ : ∃ z : WS, z = wNs [x.view, x.seq, x.digest] w := ⟨_, rfl⟩
  have hb1 := room_go hb0 (b := w1.1.length) (by have b := (wNs_wr [x.view, x.seq, x.digest]).len w; rw [← e1] at b; exact b)
  obtain ⟨w2, e2⟩ : ∃ z : WS, z = wSg x.firstS w1 := ⟨_, rfl⟩
  have hb2 := room_go hb1 (b := w2.1.length) (by have b := (wSg_wr x.firstS).len w1; rw [← e2] at b; exact b)
  obtain ⟨w3, e3⟩ : ∃ z : WS, z = wL wSg x.signs w2 := ⟨_, rfl⟩
  have hb3 := room_go hb2 (b := w3.1.length) (by have b := (wL_wr x.signs fun s _ => (wSg_wr s).more (sign_sz s)).len w2; rw [← e3] at b; exact b)
  obtain ⟨w4, e4⟩ : ∃ z : WS, z = wBt x.batch w3 := ⟨_, rfl⟩
  refine mkS 27 [] Tryz.func72 rfl (by kernel_rfl) ?_
  conv => arg 2; whnf
  refine okTr (w := w) (w' := w1) (stNum_s [x.view, x.seq, x.digest] (by simp)) e1 (room_le (k := ([x.view, x.seq, x.digest] : List Int).length) (r := (1 + (((x.signs.map tSign.sz).sum + 1) + (1 + 0)))) hb0 (num_m _)) ⟨⟨rfl, rfl⟩, trivial⟩ (Cos.refl _) rfl ?_
  conv => arg 2; whnf
  refine okTr (w := w1) (w' := w2) (stSign_s x.firstS) e2 (room_le (k := 1) (r := (((x.signs.map tSign.sz).sum + 1) + (1 + 0))) hb1 (show (20 : Nat) ≤ 262200 * 1 by decide)) ⟨⟨rfl, rfl⟩, trivial⟩ (Cos.refl _) rfl ?_
  conv => arg 2; whnf
  refine okTr (w := w2) (w' := w3) (putsSign_s x.signs hx.2.2.2.2.1) e3 (room_le (k := ((x.signs.map tSign.sz).sum + 1)) (r := (1 + 0)) hb2 (Nat.le_refl _)) ⟨⟨rfl, rfl⟩, trivial⟩ (Cos.refl _) rfl ?_
  conv => arg 2; whnf
  refine okTr (w := w3) (w' := w4) (stBatch_s x.batch hx.2.2.2.2.2) e4 (room_le (k := 1) (r := 0) hb3 (show (4300 : Nat) ≤ 262200 * 1 by decide)) ⟨⟨rfl, rfl⟩, trivial⟩ (Cos.refl _) rfl ?_
  conv => arg 2; whnf
  refine endTr (x := w4.1) (y := w4.2) (.inl rfl) rfl ⟨⟨rfl, rfl⟩, trivial⟩ (.refl _) ?_
  rw [e4, e3, e2, e1]
  rfl
theorem putsPrepared_s [Wd] (l : List PreparedD) (hl : (dL dPrepared).ok l) : FnT 71 [.list 7 (l.map cPrepared), .fn 72 1 [.ptr 0 0]] (wL wPrep l) (262200 * ((l.map tPrepared.sz).sum + 1)) := by
  intro w hb
  have HL : l.length ≤ 4194304 := hl.1
  have hF := fun q => Wr.fold (f := wPrep) (l.take q) (fun x hx => (show Wr _ _ _ (tPrepared.sz x) from (by have hx := List.mem_of_mem_take hx; exact sPrep_wr x)))
  refine mkS 29 [] Tryz.func71 rfl (by kernel_rfl) ?_
  repeat'
    (conv => arg 2; whnf)
    first
    | refine okAsk (by kernel_rfl) ?_
    | refine okBoth ?_ ?_
    | refine okBrT ?_
    | refine okBrF ?_
    | refine okBr (fun h => ?_) (fun h => ?_)
    | (refine endTr (.inr rfl) rfl ⟨⟨rfl, rfl⟩, trivial⟩ (.refl _) ?_; unfold wL; rw [if_pos (len_gt _ h)]; done)
    | refine okTr (w := w) (w' := wN (l.length : Int) w) (stNum_s [((l.map cPrepared).length : Int)] (by simp)) (by rw [List.length_map]; rfl) (by have : 10 * [((l.map cPrepared).length : Int)].length = 10 := rfl; omega) ⟨⟨rfl, rfl⟩, trivial⟩ (Cos.refl _) rfl ?_
  have h4 : ¬ 4096 < l.length := len_le _ h
  clear h
  conv => arg 2; whnf
  refine okLoop (α := Nat × WS) (fun a => ⟨[(21, .int .i64 a.1), (20, .int .i64 (l.map cPrepared).length), (19, .list 7 (l.map cPrepared)), (2, .fn 72 1 [.ptr 0 0]), (0, .ptr 0 0)], oT a.2⟩) (fun a => a.1 ≤ l.length ∧ a.2 = (l.take a.1).foldl (fun w x => wPrep x w) (wN (l.length : Int) w)) (fun a => l.length - a.1) (0, wN (l.length : Int) w) ⟨Nat.zero_le _, rfl⟩ (Sv.mk' [0] rfl ⟨⟨rfl, rfl⟩, trivial⟩ ⟨rfl, rfl, rfl, rfl, rfl, trivial⟩) ?_
  rintro ⟨q, v⟩ ⟨hq, he⟩
  replace hq : q ≤ l.length := hq
  replace he : v = (l.take q).foldl (fun w x => wPrep x w) (wN (l.length : Int) w) := he
  have hv : v.1.length ≤ w.1.length + 262200 * (1 + ((l.take q).map tPrepared.sz).sum) := by
    have h1 := (wN_wr (l.length : Int)).len w
    have h2 := (hF q).len (wN (l.length : Int) w)
    rw [he]
    omega
  repeat'
    (conv => arg 2; whnf)
    first
    | refine okAsk (by kernel_rfl) ?_
    | refine okBoth ?_ ?_
    | refine okBrT ?_
    | refine okBrF ?_
    | refine okBr (fun h => ?_) (fun h => ?_)
    | (refine okNthMap (l := l) (by simp at h; omega) (fun x hxq => ?_); replace hxq : l[q]? = some x := hxq; have hx := List.mem_of_getElem? hxq)
    | refine okTr (w := v) (stPrepared_s x (hl.2 x hx)) rfl (Nat.not_lt.1 fun _ => by have := sum_at tPrepared.sz hxq; omega) ⟨⟨rfl, rfl⟩, trivial⟩ (Cos.refl _) rfl ?_
    | refine okWrap (w64 (by simp at h hq; omega) (by simp at h hq; omega)) ?_
    | refine okAgain (q + 1, wPrep x v) (Sv.mk' [0] rfl ⟨⟨rfl, rfl⟩, trivial⟩ ⟨rfl, rfl, rfl, rfl, rfl, trivial⟩) ⟨by have := (List.getElem?_eq_some_iff.1 hxq).1; show q + 1 ≤ l.length; omega, by show wPrep x v = _; rw [he, List.take_add_one, hxq]; simp⟩ (by have := (List.getElem?_eq_some_iff.1 hxq).1; show l.length - (q + 1) < l.length - q; omega)
    | refine okOut ?_
    | (refine endTr (.inl rfl) rfl ⟨⟨rfl, rfl⟩, trivial⟩ (.refl _) ?_; unfold wL; rw [if_neg h4, show l.take q = l from List.take_of_length_le (by simp at h; omega)] at *; exact he)
theorem putsChange_s [Wd] (l : List ChangeD) (hl : (dL dChange).ok l) : FnT 73 [.list 8 (l.map cChange), .fn 74 1 [.ptr 0 0]] (wL wCg l) (262200 * ((l.map tChange.sz).sum + 1)) := by
  intro w hb
  have HL : l.length ≤ 4194304 := hl.1
  have hF := fun q => Wr.fold (f := wCg) (l.take q) (fun x hx => (show Wr _ _ _ (tChange.sz x) from (by have hx := List.mem_of_mem_take hx; exact (mkChg_wr x).more (mkChg_sz x))))
  refine mkS 29 [] Tryz.func73 rfl (by kernel_rfl) ?_
  repeat'
    (conv => arg 2; whnf)
    first
    | refine okAsk (by kernel_rfl) ?_
    | refine okBoth ?_ ?_
    | refine okBrT ?_
    | refine okBrF ?_
    | refine okBr (fun h => ?_) (fun h => ?_)
    | (refine endTr (.inr rfl) rfl ⟨⟨rfl, rfl⟩, trivial⟩ (.refl _) ?_; unfold wL; rw [if_pos (len_gt _ h)]; done)
    | refine okTr (w := w) (w' := wN (l.length : Int) w) (stNum_s [((l.map cChange).length : Int)] (by simp)) (by rw [List.length_map]; rfl) (by have : 10 * [((l.map cChange).length : Int)].length = 10 := rfl; omega) ⟨⟨rfl, rfl⟩, trivial⟩ (Cos.refl _) rfl ?_
  have h4 : ¬ 4096 < l.length := len_le _ h
  clear h
  conv => arg 2; whnf
  refine okLoop (α := Nat × WS) (fun a => ⟨[(21, .int .i64 a.1), (20, .int .i64 (l.map cChange).length), (19, .list 8 (l.map cChange)), (2, .fn 74 1 [.ptr 0 0]), (0, .ptr 0 0)], oT a.2⟩) (fun a => a.1 ≤ l.length ∧ a.2 = (l.take a.1).foldl (fun w x => wCg x w) (wN (l.length : Int) w)) (fun a => l.length - a.1) (0, wN (l.length : Int) w) ⟨Nat.zero_le _, rfl⟩ (Sv.mk' [0] rfl ⟨⟨rfl, rfl⟩, trivial⟩ ⟨rfl, rfl, rfl, rfl, rfl, trivial⟩) ?_
  rintro ⟨q, v⟩ ⟨hq, he⟩
  replace hq : q ≤ l.length := hq
  replace he : v = (l.take q).foldl (fun w x => wCg x w) (wN (l.length : Int) w) := he
  have hv : v.1.length ≤ w.1.length + 262200 * (1 + ((l.take q).map tChange.sz).sum) := by
    have h1 := (wN_wr (l.length : Int)).len w
    have h2 := (hF q).len (wN (l.length : Int) w)
    rw [he]
    omega
  repeat'
    (conv => arg 2; whnf)
    first
    | refine okAsk (by kernel_rfl) ?_
    | refine okBoth ?_ ?_
    | refine okBrT ?_
    | refine okBrF ?_
    | refine okBr (fun h => ?_) (fun h => ?_)
    | (refine okNthMap (l := l) (by simp at h; omega) (fun x hxq => ?_); replace hxq : l[q]? = some x := hxq; have hx := List.mem_of_getElem? hxq)
    | refine okTr (w := v) (stChange_s x (hl.2 x hx)) rfl (Nat.not_lt.1 fun _ => by have := sum_at tChange.sz hxq; have := mkChg_sz x; omega) ⟨⟨rfl, rfl⟩, trivial⟩ (Cos.refl _) rfl ?_
    | refine okWrap (w64 (by simp at h hq; omega) (by simp at h hq; omega)) ?_
    | refine okAgain (q + 1, wCg x v) (Sv.mk' [0] rfl ⟨⟨rfl, rfl⟩, trivial⟩ ⟨rfl, rfl, rfl, rfl, rfl, trivial⟩) ⟨by have := (List.getElem?_eq_some_iff.1 hxq).1; show q + 1 ≤ l.length; omega, by show wCg x v = _; rw [he, List.take_add_one, hxq]; simp⟩ (by have := (List.getElem?_eq_some_iff.1 hxq).1; show l.length - (q + 1) < l.length - q; omega)
    | refine okOut ?_
    | (refine endTr (.inl rfl) rfl ⟨⟨rfl, rfl⟩, trivial⟩ (.refl _) ?_; unfold wL; rw [if_neg h4, show l.take q = l from List.take_of_length_le (by simp at h; omega)] at *; exact he)
theorem stWaits_s [Wd] (x : SignedD) (hx : dSigned.ok x) : FnT 76 [.agg (cSigned x)] (wWait x) (262200 * tSigned.sz x) := by
  intro w hb
  have h1 := signed_sz x
  have hb0 : w.1.length + 262200 * (1 + 0) + 1000 ≤ 140737488355328 := Nat.not_lt.1 fun _ => by (try simp only [List.length_cons, List.length_nil] at *); omega
  clear hb
  obtain ⟨w1, e1⟩ : ∃ z : WS, z = wBt [x] w := ⟨_, rfl⟩
  refine mkS 8 [] Tryz.func76 rfl (by kernel_rfl) ?_
  conv => arg 2; whnf
  refine okTr (w := w) (w' := w1) (stBatch_s [x] ⟨by simp, fun y hy => by rw [List.mem_singleton.1 hy]; exact hx⟩) e1 (room_le (k := 1) (r := 0) hb0 (show (4300 : Nat) ≤ 262200 * 1 by decide)) ⟨⟨rfl, rfl⟩, trivial⟩ (Cos.refl _) rfl ?_
  conv => arg 2; whnf
  refine endTr (x := w1.1) (y := w1.2) (.inl rfl) rfl ⟨⟨rfl, rfl⟩, trivial⟩ (.refl _) ?_
  rw [e1]
  rfl
theorem putsSigned_s [Wd] (l : List SignedD) (hl : (dL dSigned).ok l) : FnT 75 [.list 9 (l.map cSigned), .fn 76 1 [.ptr 0 0]] (wL wWait l) (262200 * ((l.map tSigned.sz).sum + 1)) := by
  intro w hb
  have HL : l.length ≤ 4194304 := hl.1
  have hF := fun q => Wr.fold (f := wWait) (l.take q) (fun x hx => (show Wr _ _ _ (tSigned.sz x) from (by have hx := List.mem_of_mem_take hx; exact (wBt_wr [x]).more (signed_sz x))))
  refine mkS 29 [] Tryz.func75 rfl (by kernel_rfl) ?_
  repeat'
    (conv => arg 2; whnf)
    first
    | refine okAsk (by kernel_rfl) ?_
    | refine okBoth ?_ ?_
    | refine okBrT ?_
    | refine okBrF ?_
    | refine okBr (fun h => ?_) (fun h => ?_)
    | (refine endTr (.inr rfl) rfl ⟨⟨rfl, rfl⟩, trivial⟩ (.refl _) ?_; unfold wL; rw [if_pos (len_gt _ h)]; done)
    | refine okTr (w := w) (w' := wN (l.length : Int) w) (stNum_s [((l.map cSigned).length : Int)] (by simp)) (by rw [List.length_map]; rfl) (by have : 10 * [((l.map cSigned).length : Int)].length = 10 := rfl; omega) ⟨⟨rfl, rfl⟩, trivial⟩ (Cos.refl _) rfl ?_
  have h4 : ¬ 4096 < l.length := len_le _ h
  clear h
  conv => arg 2; whnf
  refine okLoop (α := Nat × WS) (fun a => ⟨[(21, .int .i64 a.1), (20, .int .i64 (l.map cSigned).length), (19, .list 9 (l.map cSigned)), (2, .fn 76 1 [.ptr 0 0]), (0, .ptr 0 0)], oT a.2⟩) (fun a => a.1 ≤ l.length ∧ a.2 = (l.take a.1).foldl (fun w x => wWait x w) (wN (l.length : Int) w)) (fun a => l.length - a.1) (0, wN (l.length : Int) w) ⟨Nat.zero_le _, rfl⟩ (Sv.mk' [0] rfl ⟨⟨rfl, rfl⟩, trivial⟩ ⟨rfl, rfl, rfl, rfl, rfl, trivial⟩) ?_
  rintro ⟨q, v⟩ ⟨hq, he⟩
  replace hq : q ≤ l.length := hq
  replace he : v = (l.take q).foldl (fun w x => wWait x w) (wN (l.length : Int) w) := he
  have hv : v.1.length ≤ w.1.length + 262200 * (1 + ((l.take q).map tSigned.sz).sum) := by
    have h1 := (wN_wr (l.length : Int)).len w
    have h2 := (hF q).len (wN (l.length : Int) w)
    rw [he]
    omega
  repeat'
    (conv => arg 2; whnf)
    first
    | refine okAsk (by kernel_rfl) ?_
    | refine okBoth ?_ ?_
    | refine okBrT ?_
    | refine okBrF ?_
    | refine okBr (fun h => ?_) (fun h => ?_)
    | (refine okNthMap (l := l) (by simp at h; omega) (fun x hxq => ?_); replace hxq : l[q]? = some x := hxq; have hx := List.mem_of_getElem? hxq)
    | refine okTr (w := v) (stWaits_s x (hl.2 x hx)) rfl (Nat.not_lt.1 fun _ => by have := sum_at tSigned.sz hxq; omega) ⟨⟨rfl, rfl⟩, trivial⟩ (Cos.refl _) rfl ?_
    | refine okWrap (w64 (by simp at h hq; omega) (by simp at h hq; omega)) ?_
    | refine okAgain (q + 1, wWait x v) (Sv.mk' [0] rfl ⟨⟨rfl, rfl⟩, trivial⟩ ⟨rfl, rfl, rfl, rfl, rfl, trivial⟩) ⟨by have := (List.getElem?_eq_some_iff.1 hxq).1; show q + 1 ≤ l.length; omega, by show wWait x v = _; rw [he, List.take_add_one, hxq]; simp⟩ (by have := (List.getElem?_eq_some_iff.1 hxq).1; show l.length - (q + 1) < l.length - q; omega)
    | refine okOut ?_
    | (refine endTr (.inl rfl) rfl ⟨⟨rfl, rfl⟩, trivial⟩ (.refl _) ?_; unfold wL; rw [if_neg h4, show l.take q = l from List.take_of_length_le (by simp at h; omega)] at *; exact he)
theorem putsMsg_s [Wd] (l : List MsgD) (hl : (dL dMsg).ok l) : FnT 77 [.list 30 (l.map cMsg), .fn 78 1 [.ptr 0 0]] (wL wMs l) (262200 * ((l.map tMsg.sz).sum + 1)) := by
  intro w hb
  have HL : l.length ≤ 4194304 := hl.1
  have hF := fun q => Wr.fold (f := wMs) (l.take q) (fun x hx => (show Wr _ _ _ (tMsg.sz x) from (by have hx := List.mem_of_mem_take hx; exact (mkMsg_wr x).more (mkMsg_sz x))))
  refine mkS 29 [] Tryz.func77 rfl (by kernel_rfl) ?_
  repeat'
    (conv => arg 2; whnf)
    first
    | refine okAsk (by kernel_rfl) ?_
    | refine okBoth ?_ ?_
    | refine okBrT ?_
    | refine okBrF ?_
    | refine okBr (fun h => ?_) (fun h => ?_)
    | (refine endTr (.inr rfl) rfl ⟨⟨rfl, rfl⟩, trivial⟩ (.refl _) ?_; unfold wL; rw [if_pos (len_gt _ h)]; done)
    | refine okTr (w := w) (w' := wN (l.length : Int) w) (stNum_s [((l.map cMsg).length : Int)] (by simp)) (by rw [List.length_map]; rfl) (by have : 10 * [((l.map cMsg).length : Int)].length = 10 := rfl; omega) ⟨⟨rfl, rfl⟩, trivial⟩ (Cos.refl _) rfl ?_
  have h4 : ¬ 4096 < l.length := len_le _ h
  clear h
  conv => arg 2; whnf
  refine okLoop (α := Nat × WS) (fun a => ⟨[(21, .int .i64 a.1), (20, .int .i64 (l.map cMsg).length), (19, .list 30 (l.map cMsg)), (2, .fn 78 1 [.ptr 0 0]), (0, .ptr 0 0)], oT a.2⟩) (fun a => a.1 ≤ l.length ∧ a.2 = (l.take a.1).foldl (fun w x => wMs x w) (wN (l.length : Int) w)) (fun a => l.length - a.1) (0, wN (l.length : Int) w) ⟨Nat.zero_le _, rfl⟩ (Sv.mk' [0] rfl ⟨⟨rfl, rfl⟩, trivial⟩ ⟨rfl, rfl, rfl, rfl, rfl, trivial⟩) ?_
  rintro ⟨q, v⟩ ⟨hq, he⟩
  replace hq : q ≤ l.length := hq
  replace he : v = (l.take q).foldl (fun w x => wMs x w) (wN (l.length : Int) w) := he
  have hv : v.1.length ≤ w.1.length + 262200 * (1 + ((l.take q).map tMsg.sz).sum) := by
    have h1 := (wN_wr (l.length : Int)).len w
    have h2 := (hF q).len (wN (l.length : Int) w)
    rw [he]
    omega
  repeat'
    (conv => arg 2; whnf)
    first
    | refine okAsk (by kernel_rfl) ?_
    | refine okBoth ?_ ?_
    | refine okBrT ?_
    | refine okBrF ?_
    | refine okBr (fun h => ?_) (fun h => ?_)
    | (refine okNthMap (l := l) (by simp at h; omega) (fun x hxq => ?_); replace hxq : l[q]? = some x := hxq; have hx := List.mem_of_getElem? hxq)
    | refine okTr (w := v) (stMessage_s x (hl.2 x hx)) rfl (Nat.not_lt.1 fun _ => by have := sum_at tMsg.sz hxq; have := mkMsg_sz x; omega) ⟨⟨rfl, rfl⟩, trivial⟩ (Cos.refl _) rfl ?_
    | refine okWrap (w64 (by simp at h hq; omega) (by simp at h hq; omega)) ?_
    | refine okAgain (q + 1, wMs x v) (Sv.mk' [0] rfl ⟨⟨rfl, rfl⟩, trivial⟩ ⟨rfl, rfl, rfl, rfl, rfl, trivial⟩) ⟨by have := (List.getElem?_eq_some_iff.1 hxq).1; show q + 1 ≤ l.length; omega, by show wMs x v = _; rw [he, List.take_add_one, hxq]; simp⟩ (by have := (List.getElem?_eq_some_iff.1 hxq).1; show l.length - (q + 1) < l.length - q; omega)
    | refine okOut ?_
    | (refine endTr (.inl rfl) rfl ⟨⟨rfl, rfl⟩, trivial⟩ (.refl _) ?_; unfold wL; rw [if_neg h4, show l.take q = l from List.take_of_length_le (by simp at h; omega)] at *; exact he)
theorem stSlot_s [Wd] (s : SlotD) (hs : dSlot.ok s) : FnT 70 [.agg (cSlot s)] (wSlot s) (262200 * tSlot.sz s) := by
  intro w hb
  have h1 := sign_sz s.firstS
  unfold tSlot at hb
  simp only [szM, szP, szI, szL, szB] at hb
  have hb0 : w.1.length + 262200 * (([s.seq] : List Int).length + (1 + (([s.digest] : List Int).length + (2 + (((s.prepares.map tVoteOf.sz).sum + 1) + (((s.commits.map tVoteOf.sz).sum + 1) + 0)))))) + 1000 ≤ 140737488355328 := Nat.not_lt.1 fun _ => by (try simp only [List.length_cons, List.length_nil] at *); omega
  clear hb
  obtain ⟨w1, e1⟩ : ∃ z : WS, z = wNs [s.seq] w := ⟨_, rfl⟩
  have hb1 := room_go hb0 (b := w1.1.length) (by have b := (wNs_wr [s.seq]).len w; rw [← e1] at b; exact b)
  obtain ⟨w2, e2⟩ : ∃ z : WS, z = wF s.has w1 := ⟨_, rfl⟩
  have hb2 := room_go hb1 (b := w2.1.length) (by have b := (wF_wr s.has).len w1; rw [← e2] at b; exact b)
  obtain ⟨w3, e3⟩ : ∃ z : WS, z = wNs [s.digest] w2 := ⟨_, rfl⟩
  have hb3 := room_go hb2 (b := w3.1.length) (by have b := (wNs_wr [s.digest]).len w2; rw [← e3] at b; exact b)
  obtain ⟨w4, e4⟩ : ∃ z : WS, z = wMid s w3 := ⟨_, rfl⟩
  have hb4 := room_go hb3 (b := w4.1.length) (by have b := (mid_wr s).len w3; rw [← e4] at b; exact b)
  obtain ⟨w5, e5⟩ : ∃ z : WS, z = wL wVoteOf s.prepares w4 := ⟨_, rfl⟩
  have hb5 := room_go hb4 (b := w5.1.length) (by have b := (wL_wr s.prepares fun x _ => voteOf_wr x).len w4; rw [← e5] at b; exact b)
  obtain ⟨w6, e6⟩ : ∃ z : WS, z = wL wVoteOf s.commits w5 := ⟨_, rfl⟩
  obtain ⟨m1, em⟩ : ∃ z : WS, z = wSg s.firstS w3 := ⟨_, rfl⟩
  have bm := (wSg_wr s.firstS).len w3
  rw [← em] at bm
  have E : wSlot s w = w6 := by rw [e6, e5, e4, e3, e2, e1]; rfl
  refine mkS 53 [] Tryz.func70 rfl (by kernel_rfl) ?_
  conv => arg 2; whnf
  refine okTr (w := w) (w' := w1) (stNum_s [s.seq] (by simp)) e1 (room_le (k := ([s.seq] : List Int).length) (r := (1 + (([s.digest] : List Int).length + (2 + (((s.prepares.map tVoteOf.sz).sum + 1) + (((s.commits.map tVoteOf.sz).sum + 1) + 0)))))) hb0 (num_m _)) ⟨⟨rfl, rfl⟩, trivial⟩ (Cos.refl _) rfl ?_
  conv => arg 2; whnf
  refine okTr (w := w1) (w' := w2) (stFlag_s s.has) e2 (room_le (k := 1) (r := (([s.digest] : List Int).length + (2 + (((s.prepares.map tVoteOf.sz).sum + 1) + (((s.commits.map tVoteOf.sz).sum + 1) + 0))))) hb1 (show (10 : Nat) ≤ 262200 * 1 by decide)) ⟨⟨rfl, rfl⟩, trivial⟩ (Cos.refl _) rfl ?_
  conv => arg 2; whnf
  refine okTr (w := w2) (w' := w3) (stNum_s [s.digest] (by simp)) e3 (room_le (k := ([s.digest] : List Int).length) (r := (2 + (((s.prepares.map tVoteOf.sz).sum + 1) + (((s.commits.map tVoteOf.sz).sum + 1) + 0)))) hb2 (num_m _)) ⟨⟨rfl, rfl⟩, trivial⟩ (Cos.refl _) rfl ?_
  conv => arg 2; whnf
  refine okBr (fun h => ?_) (fun h => ?_)
  · have hm : w4 = wBt s.batch m1 := by rw [e4, em]; unfold wMid; rw [if_pos h]
    conv => arg 2; whnf
    refine okTr (w := w3) (w' := m1) (stSign_s s.firstS) em (Nat.not_lt.1 fun _ => by omega) ⟨⟨rfl, rfl⟩, trivial⟩ (Cos.refl _) rfl ?_
    conv => arg 2; whnf
    refine okTr (w := m1) (w' := w4) (stBatch_s s.batch hs.2.2.2.2.1) hm (Nat.not_lt.1 fun _ => by omega) ⟨⟨rfl, rfl⟩, trivial⟩ (Cos.refl _) rfl ?_
    conv => arg 2; whnf
    refine okTr (w := w4) (w' := w5) (putsVoteOf_s s.prepares hs.2.2.2.2.2.1) e5 (Nat.not_lt.1 fun _ => by omega) ⟨⟨rfl, rfl⟩, trivial⟩ (Cos.refl _) rfl ?_
    conv => arg 2; whnf
    refine okTr (w := w5) (w' := w6) (putsVoteOf_s s.commits hs.2.2.2.2.2.2) e6 (Nat.not_lt.1 fun _ => by omega) ⟨⟨rfl, rfl⟩, trivial⟩ (Cos.refl _) rfl ?_
    conv => arg 2; whnf
    refine endTr (x := w6.1) (y := w6.2) (.inl rfl) rfl ⟨⟨rfl, rfl⟩, trivial⟩ (.refl _) E.symm
  · have hf : s.has = false := h
    have hz : w4 = if (s.firstS.key = 0 ∧ s.firstS.digest = 0) ∧ s.batch.length = 0 then w3 else (w3.1, true) := by
      rw [e4]; unfold wMid; rw [hf]; rfl
    by_cases hq : (s.firstS.key = 0 ∧ s.firstS.digest = 0) ∧ s.batch.length = 0
    · rw [if_pos hq] at hz
      rw [hz] at e5
      clear hz
      repeat'
        (conv => arg 2; whnf)
        first
        | refine okAsk (by kernel_rfl) ?_
        | refine okBoth ?_ ?_
        | refine okBrT ?_
        | refine okBrF ?_
        | refine okBr (fun k => ?_) (fun k => ?_)
        | refine okTr (w := w3) (w' := w5) (putsVoteOf_s s.prepares hs.2.2.2.2.2.1) (e5) (Nat.not_lt.1 fun _ => by omega) ⟨⟨rfl, rfl⟩, trivial⟩ (Cos.refl _) rfl ?_
        | refine okTr (w := w5) (w' := w6) (putsVoteOf_s s.commits hs.2.2.2.2.2.2) (e6) (Nat.not_lt.1 fun _ => by omega) ⟨⟨rfl, rfl⟩, trivial⟩ (Cos.refl _) rfl ?_
        | refine endTr (x := w6.1) (y := w6.2) (.inl rfl) rfl ⟨⟨rfl, rfl⟩, trivial⟩ (.refl _) E.symm
        | (exfalso; clear bm e1 e2 e3 e4 e5 e6 em E hb0 hb1 hb2 hb3 hb4 hb5; simp_all; done)
    · rw [if_neg hq] at hz
      rw [hz] at e5
      clear hz
      repeat'
        (conv => arg 2; whnf)
        first
        | refine okAsk (by kernel_rfl) ?_
        | refine okBoth ?_ ?_
        | refine okBrT ?_
        | refine okBrF ?_
        | refine okBr (fun k => ?_) (fun k => ?_)
        | refine okTp (x := w3.1) (y := true) (w' := w5) (putsVoteOf_s s.prepares hs.2.2.2.2.2.1) (e5) (Nat.not_lt.1 fun _ => by omega) ⟨⟨rfl, rfl⟩, trivial⟩ (Cos.refl _) rfl ?_
        | refine okTr (w := w5) (w' := w6) (putsVoteOf_s s.commits hs.2.2.2.2.2.2) (e6) (Nat.not_lt.1 fun _ => by omega) ⟨⟨rfl, rfl⟩, trivial⟩ (Cos.refl _) rfl ?_
        | refine endTr (x := w6.1) (y := w6.2) (.inl rfl) rfl ⟨⟨rfl, rfl⟩, trivial⟩ (.refl _) E.symm
        | (exfalso; clear bm e1 e2 e3 e4 e5 e6 em E hb0 hb1 hb2 hb3 hb4 hb5; simp_all; done)
theorem putsSlot_s [Wd] (l : List SlotD) (hl : (dL dSlot).ok l) : FnT 69 [.list 8 (l.map cSlot), .fn 70 1 [.ptr 0 0]] (wL wSlot l) (262200 * ((l.map tSlot.sz).sum + 1)) := by
  intro w hb
  have HL : l.length ≤ 4194304 := hl.1
  have hF := fun q => Wr.fold (f := wSlot) (l.take q) (fun x hx => (show Wr _ _ _ (tSlot.sz x) from (by have hx := List.mem_of_mem_take hx; exact slot_wr x)))
  refine mkS 29 [] Tryz.func69 rfl (by kernel_rfl) ?_
  repeat'
    (conv => arg 2; whnf)
    first
    | refine okAsk (by kernel_rfl) ?_
    | refine okBoth ?_ ?_
    | refine okBrT ?_
    | refine okBrF ?_
    | refine okBr (fun h => ?_) (fun h => ?_)
    | (refine endTr (.inr rfl) rfl ⟨⟨rfl, rfl⟩, trivial⟩ (.refl _) ?_; unfold wL; rw [if_pos (len_gt _ h)]; done)
    | refine okTr (w := w) (w' := wN (l.length : Int) w) (stNum_s [((l.map cSlot).length : Int)] (by simp)) (by rw [List.length_map]; rfl) (by have : 10 * [((l.map cSlot).length : Int)].length = 10 := rfl; omega) ⟨⟨rfl, rfl⟩, trivial⟩ (Cos.refl _) rfl ?_
  have h4 : ¬ 4096 < l.length := len_le _ h
  clear h
  conv => arg 2; whnf
  refine okLoop (α := Nat × WS) (fun a => ⟨[(21, .int .i64 a.1), (20, .int .i64 (l.map cSlot).length), (19, .list 8 (l.map cSlot)), (2, .fn 70 1 [.ptr 0 0]), (0, .ptr 0 0)], oT a.2⟩) (fun a => a.1 ≤ l.length ∧ a.2 = (l.take a.1).foldl (fun w x => wSlot x w) (wN (l.length : Int) w)) (fun a => l.length - a.1) (0, wN (l.length : Int) w) ⟨Nat.zero_le _, rfl⟩ (Sv.mk' [0] rfl ⟨⟨rfl, rfl⟩, trivial⟩ ⟨rfl, rfl, rfl, rfl, rfl, trivial⟩) ?_
  rintro ⟨q, v⟩ ⟨hq, he⟩
  replace hq : q ≤ l.length := hq
  replace he : v = (l.take q).foldl (fun w x => wSlot x w) (wN (l.length : Int) w) := he
  have hv : v.1.length ≤ w.1.length + 262200 * (1 + ((l.take q).map tSlot.sz).sum) := by
    have h1 := (wN_wr (l.length : Int)).len w
    have h2 := (hF q).len (wN (l.length : Int) w)
    rw [he]
    omega
  repeat'
    (conv => arg 2; whnf)
    first
    | refine okAsk (by kernel_rfl) ?_
    | refine okBoth ?_ ?_
    | refine okBrT ?_
    | refine okBrF ?_
    | refine okBr (fun h => ?_) (fun h => ?_)
    | (refine okNthMap (l := l) (by simp at h; omega) (fun x hxq => ?_); replace hxq : l[q]? = some x := hxq; have hx := List.mem_of_getElem? hxq)
    | refine okTr (w := v) (stSlot_s x (hl.2 x hx)) rfl (Nat.not_lt.1 fun _ => by have := sum_at tSlot.sz hxq; omega) ⟨⟨rfl, rfl⟩, trivial⟩ (Cos.refl _) rfl ?_
    | refine okWrap (w64 (by simp at h hq; omega) (by simp at h hq; omega)) ?_
    | refine okAgain (q + 1, wSlot x v) (Sv.mk' [0] rfl ⟨⟨rfl, rfl⟩, trivial⟩ ⟨rfl, rfl, rfl, rfl, rfl, trivial⟩) ⟨by have := (List.getElem?_eq_some_iff.1 hxq).1; show q + 1 ≤ l.length; omega, by show wSlot x v = _; rw [he, List.take_add_one, hxq]; simp⟩ (by have := (List.getElem?_eq_some_iff.1 hxq).1; show l.length - (q + 1) < l.length - q; omega)
    | refine okOut ?_
    | (refine endTr (.inl rfl) rfl ⟨⟨rfl, rfl⟩, trivial⟩ (.refl _) ?_; unfold wL; rw [if_neg h4, show l.take q = l from List.take_of_length_le (by simp at h; omega)] at *; exact he)
end Go.Proofs.YteaggenihhaajaaGreat

/- The reader of package codec, over data: what it answers, and what it leaves, whatever is asked. -/
namespace Go.Proofs.YteaggenihhaajaaGreat
open Go.RowKit
set_option linter.unusedVariables false
set_option maxRecDepth 20000

/-- a reader: the bytes ahead, the error -/
abbrev RS := List UInt8 × Int
abbrev oRd (s : RS) : List AO := [.cells 164 [.list 1 (s.1.map cByte), .int .i64 s.2, .bool true]]
def failR (k : Int) (s : RS) : RS := if s.2 = 0 then (s.1, k) else s
def numR (most : Nat) (s : RS) : Nat × RS :=
  if s.2 = 0 then (if (numGo most 0 0 s.1).2.2 = 0 then ((numGo most 0 0 s.1).1, ((numGo most 0 0 s.1).2.1, 0)) else (0, (s.1, (numGo most 0 0 s.1).2.2))) else (0, s)
def takeR (n : Int) (s : RS) : List UInt8 × RS :=
  if s.2 = 0 then (if n < 0 then ([], (s.1, 1)) else if (s.1.length : Int) < n then ([], (s.1, 10)) else (s.1.take n.toNat, (s.1.drop n.toNat, 0))) else ([], s)
def doneR (s : RS) : Int := if s.2 = 0 then (if s.1 = [] then 0 else 12) else s.2
/-- it answers so much, and leaves so much -/
abbrev FnR [Wd] (f : FuncId) (a0 : D) (ar : List D) (R : RS → D) (F : RS → RS) : Prop := ∀ s : RS, s.1.length ≤ 8388609 → FnS Tryz.prog f (a0 :: ar) (oRd s) (fun r h => r = R s ∧ h = oRd (F s))
section
variable {Q : Exit → S → Prop}
theorem okRd [Wd] {f : FuncId} {a0 : D} {ar ar' : List D} {R : RS → D} {F : RS → RS} {hb : List AO} {c : D → List AO → T} (o : Nat) (s s' : RS) (r : D) (hF : FnR f a0 ar R F) (hs : s.1.length ≤ 8388609) (e : s' = F s) (er : r = R s) (hv : vwP hb [o] [o] (oRd s)) (hc : Cos ar' (D.ren.rl [o] (a0 :: ar))) (hM : ([o].all fun o => (foot hb ar').elem o) = true) (kk : (c (r.ren (upS hb [o] (oRd s) (oRd s'))) (upH hb [o] (oRd s) (oRd s'))).ok Tryz.prog Q) : (T.call f ar' hb c).ok Tryz.prog Q := by
  subst e er
  exact okCall [o] (hF s hs) (.mk' rfl hv) hc hM kk
theorem endRd [Wd] {tb : TT} {rs : List ResultVar} {ex : Exit} {S0 : S} {x : List UInt8} {y : Int} {s s' : RS} {d R : D} {ds : List D} (he : ex = .normal ∨ ex = .ret) (hr : resD tb S0 rs = some ds) {ys : List (List D)} (hv : vwP S0.h [0] [0] [.cells 164 [.list 1 ys, .int .i64 y, .bool true]]) (hy : ys = x.map cByte) (hco : Co (resV ds) (d.ren [0])) (hx : (x, y) = s') (hd : d = R) : (T.leaf ex S0).ok Tryz.prog (Lf tb rs (oRd s) (fun r h => r = R ∧ h = oRd s')) := by
  subst hx hd hy
  exact endObj [0] he hr rfl hv ⟨⟨rfl, rfl⟩, trivial⟩ hco
end
theorem rdStuck_s [Wd] : FnR 229 (.ptr 0 0) [] (fun s => .bool (s.2 != 0)) (fun s => s) := by
  intro s hs
  refine mkS 19 [] Tryz.func229 rfl (by kernel_rfl) ?_
  repeat'
    (conv => arg 2; whnf)
    first
    | refine okAsk (by kernel_rfl) ?_
    | refine okBrT ?_
    | refine okBrF ?_
    | refine okBr (fun h => ?_) (fun h => ?_)
    | exact endRd (d := .bool (s.2 != 0)) (.inr rfl) rfl ⟨⟨rfl, rfl⟩, trivial⟩ rfl (.refl _) rfl rfl
theorem rdErr_s [Wd] : FnR 102 (.ptr 0 0) [] (fun s => .int .i64 s.2) (fun s => s) := by
  intro s hs
  refine mkS 16 [] Tryz.func102 rfl (by kernel_rfl) ?_
  repeat'
    (conv => arg 2; whnf)
    first
    | refine okAsk (by kernel_rfl) ?_
    | refine okBrT ?_
    | refine okBrF ?_
    | refine okBr (fun h => ?_) (fun h => ?_)
    | exact endRd (d := .int .i64 s.2) (.inr rfl) rfl ⟨⟨rfl, rfl⟩, trivial⟩ rfl (.refl _) rfl rfl
theorem rdFail_s [Wd] (k : Int) : FnR 181 (.ptr 0 0) [.int .i64 k] (fun _ => .tup []) (failR k) := by
  intro s hs
  refine mkS 11 [] Tryz.func181 rfl (by kernel_rfl) ?_
  repeat'
    (conv => arg 2; whnf)
    first
    | refine okAsk (by kernel_rfl) ?_
    | refine okRd 0 s s (.bool (s.2 != 0)) rdStuck_s hs rfl rfl ⟨⟨rfl, rfl⟩, trivial⟩ (Cos.refl _) rfl ?_
    | refine okBrT ?_
    | refine okBrF ?_
    | refine okBr (fun h => ?_) (fun h => ?_)
    | (refine endRd (d := .tup []) (.inl rfl) rfl ⟨⟨rfl, rfl⟩, trivial⟩ rfl (.refl _) ?_ rfl; unfold failR; simp at h; first | (rw [if_pos h]; done) | (rw [if_neg h]; done))
theorem rdDone_s [Wd] : FnR 20 (.ptr 0 0) [] (fun s => .int .i64 (doneR s)) (fun s => s) := by
  intro s hs
  refine mkS 15 [] Tryz.func20 rfl (by kernel_rfl) ?_
  repeat'
    (conv => arg 2; whnf)
    first
    | refine okAsk (by kernel_rfl) ?_
    | refine okRd 0 s s (.int .i64 s.2) rdErr_s hs rfl rfl ⟨⟨rfl, rfl⟩, trivial⟩ (Cos.refl _) rfl ?_
    | refine okBrT ?_
    | refine okBrF ?_
    | refine okBr (fun h => ?_) (fun h => ?_)
    | (refine endRd (d := .int .i64 _) (.inr rfl) rfl ⟨⟨rfl, rfl⟩, trivial⟩ rfl (.refl _) rfl ?_; unfold doneR; simp_all; done)
    | (refine endRd (d := .int .i64 _) (.inr rfl) rfl ⟨⟨rfl, rfl⟩, trivial⟩ rfl (.refl _) rfl ?_; unfold doneR; obtain ⟨x, y⟩ := s; cases x <;> simp_all; done)
/-- what a number's bytes say, one behind the other -/
theorem num_bad {most q m : Nat} {x : UInt8} {bs : List UInt8} {A : Int} (hx : bs[q]? = some x) (hI : numGo most 0 0 bs = numGo most q m (bs.drop q)) (hA : (q < 9 ∨ x.toNat ≤ 1) → A = ((m + x.toNat % 128 * 128 ^ q : Nat) : Int)) (hq : q ≤ 9) (h1 : x.toNat ≤ 127) (h2 : (0 < q ∧ x.toNat = 0) ∨ (q = 9 ∧ 1 < x.toNat) ∨ (most : Int) < A) : numR most (bs, 0) = (0, (bs, 11)) := by
  have e : numGo most 0 0 bs = (0, [], 11) := by
    rw [hI, drop_at hx]
    by_cases h9 : q = 9 ∧ 1 < x.toNat
    · exact numGo_over h9.1 h9.2
    · refine numGo_bad h1 ?_
      rcases h2 with h2 | h2 | h2
      · exact .inl h2
      · exact absurd h2 h9
      · rw [hA (by omega), Nat.mod_eq_of_lt (by omega)] at h2
        exact .inr (by omega)
  unfold numR
  rw [if_pos rfl]
  simp [e]
theorem num_good {most q m : Nat} {x : UInt8} {bs : List UInt8} {A : Int} (hx : bs[q]? = some x) (hI : numGo most 0 0 bs = numGo most q m (bs.drop q)) (hA : (q < 9 ∨ x.toNat ≤ 1) → A = ((m + x.toNat % 128 * 128 ^ q : Nat) : Int)) (hq : q ≤ 9) (h1 : x.toNat ≤ 127) (h2 : ¬ (0 < q ∧ x.toNat = 0)) (h3 : ¬ (q = 9 ∧ 1 < x.toNat)) (h4 : ¬ (most : Int) < A) : numR most (bs, 0) = (A.toNat, (bs.drop (q + 1), 0)) ∧ A = (A.toNat : Int) := by
  have hA' := hA (by omega)
  rw [Nat.mod_eq_of_lt (by omega)] at hA'
  have e : numGo most 0 0 bs = (m + x.toNat * 128 ^ q, bs.drop (q + 1), 0) := by
    rw [hI, drop_at hx]
    exact numGo_good h1 h3 (fun h => by
      rcases h with h | h
      · exact h2 h
      · exact h4 (by rw [hA']; omega))
  unfold numR
  rw [if_pos rfl]
  refine ⟨?_, by rw [hA']; omega⟩
  rw [e]
  rw [hA', Int.toNat_natCast]
  rfl
theorem num_end {most q m : Nat} {bs : List UInt8} (hI : numGo most 0 0 bs = numGo most q m (bs.drop q)) (hq : bs.length ≤ q) : numR most (bs, 0) = (0, (bs, 10)) := by
  have e : numGo most 0 0 bs = (0, [], 10) := by
    rw [hI, List.drop_eq_nil_of_le hq]
    rfl
  unfold numR
  rw [if_pos rfl]
  simp [e]
/-- a number's digits so far -/
structure NumI (most : Nat) (bs : List UInt8) (q : Nat) (A : Int) : Prop where
  go : q < 10 → q ≤ bs.length ∧ ∃ m : Nat, A = m ∧ m < 128 ^ q ∧ numGo most 0 0 bs = numGo most q m (bs.drop q)
  out : q = 10 → numR most (bs, 0) = (0, (bs, 11))
/-- one digit more, as the code has it -/
def dig (A : Int) (q : Nat) (x : UInt8) : Int := bits .or .u64 A (IntKind.u64.wrap (IntKind.u64.wrap (bits .and .u8 (x.toNat : Int) 127) * 2 ^ min (7 * (q : Int)).toNat IntKind.u64.bits))
theorem dig_ok {m q : Nat} {x : UInt8} (hm : m < 128 ^ q) (hq : q ≤ 9) : (∃ s : Nat, dig m q x = s) ∧ ((q < 9 ∨ x.toNat ≤ 1) → dig m q x = ((m + x.toNat % 128 * 128 ^ q : Nat) : Int)) := by
  obtain ⟨d, e, s, h1, h2, h3, h4⟩ := numStep m q x.toNat x.toNat_lt hq hm
  have hmin : min (7 * (q : Int)).toNat IntKind.u64.bits = 7 * q := by
    have : IntKind.u64.bits = 64 := rfl
    omega
  have hd : dig m q x = s := by
    unfold dig
    rw [hmin, h1, h2, h3]
  exact ⟨⟨s, hd⟩, fun h => by rw [hd, h4 h]⟩
theorem NumI.next {most : Nat} {bs : List UInt8} {q : Nat} {A : Int} {x : UInt8} (h : NumI most bs q A) (hq : q < 10) (hx : bs[q]? = some x) (h1 : 127 < x.toNat) : NumI most bs (q + 1) (dig A q x) := by
  obtain ⟨h2, m, rfl, h3, h4⟩ := h.go hq
  have hl := (List.getElem?_eq_some_iff.1 hx).1
  obtain ⟨_, h5⟩ := dig_ok (x := x) h3 (show q ≤ 9 by omega)
  constructor
  · intro h9
    refine ⟨by omega, m + x.toNat % 128 * 128 ^ q, h5 (.inl (by omega)), acc_lt h3 (Nat.mod_lt _ (by decide)), ?_⟩
    rw [h4, drop_at hx, numGo_more h1 (by omega)]
  · intro h10
    have e : numGo most 0 0 bs = (0, [], 11) := by
      rw [h4, drop_at hx, numGo_over (by omega) (by omega)]
    unfold numR
    rw [if_pos rfl]
    simp [e]
theorem from_ (bs : List UInt8) (q : Nat) : (((bs.map cByte).drop ((q : Int) + 1).toNat).take ((((bs.map cByte).length : Nat) : Int).toNat - ((q : Int) + 1).toNat)) = (bs.drop (q + 1)).map cByte := by
  have e : ((q : Int) + 1).toNat = q + 1 := by omega
  rw [e, List.take_of_length_le (by simp), List.map_drop]
theorem rdNum_s [Wd] (most : Nat) : FnR 165 (.ptr 0 0) [.int .u64 (most : Int)] (fun s => .int .u64 ((numR most s).1 : Int)) (fun s => (numR most s).2) := by
  rintro ⟨bs, e⟩ hs
  replace hs : bs.length ≤ 8388609 := hs
  by_cases he : e = 0
  · subst he
    refine mkS 72 [] Tryz.func165 rfl (by kernel_rfl) ?_
    repeat'
      (conv => arg 2; whnf)
      first
      | refine okAsk (by kernel_rfl) ?_
      | refine okRd 0 (bs, 0) (bs, 0) (.bool ((0 : Int) != 0)) rdStuck_s hs rfl rfl ⟨⟨rfl, rfl⟩, trivial⟩ (Cos.refl _) rfl ?_
      | refine okBrT ?_
      | refine okBrF ?_
    conv => arg 2; whnf
    refine okLoop (α := Nat × Int) (fun a => ⟨[(10, .int .i64 a.1), (5, .int .u64 a.2), (1, .int .u64 (most : Int)), (0, .ptr 0 0)], oRd (bs, 0)⟩) (fun a => a.1 ≤ 10 ∧ NumI most bs a.1 a.2) (fun a => 10 - a.1) (0, 0) ⟨Nat.zero_le _, ⟨fun _ => ⟨Nat.zero_le _, 0, rfl, by decide, rfl⟩, fun h => by cases h⟩⟩ (Sv.mk' [0] rfl ⟨⟨rfl, rfl⟩, trivial⟩ ⟨rfl, rfl, rfl, rfl, trivial⟩) ?_
    rintro ⟨q, A⟩ ⟨hq, hI⟩
    replace hq : q ≤ 10 := hq
    replace hI : NumI most bs q A := hI
    have f1 : q < 10 → bs.length ≤ q → numR most (bs, 0) = (0, (bs, 10)) := fun a b => by
      obtain ⟨_, m, _, _, h⟩ := hI.go a
      exact num_end h b
    have f2 : ∀ x, bs[q]? = some x → q < 10 → x.toNat ≤ 127 → ((0 < q ∧ x.toNat = 0) ∨ (q = 9 ∧ 1 < x.toNat) ∨ (most : Int) < dig A q x) → numR most (bs, 0) = (0, (bs, 11)) := fun x hx a b c => by
      obtain ⟨_, m, rfl, h3, h⟩ := hI.go a
      exact num_bad hx h (dig_ok h3 (by omega)).2 (by omega) b c
    have f3 : ∀ x, bs[q]? = some x → q < 10 → x.toNat ≤ 127 → ¬ (0 < q ∧ x.toNat = 0) → ¬ (q = 9 ∧ 1 < x.toNat) → ¬ (most : Int) < dig A q x → numR most (bs, 0) = ((dig A q x).toNat, (bs.drop (q + 1), 0)) ∧ dig A q x = ((dig A q x).toNat : Int) := fun x hx a b c d e => by
      obtain ⟨_, m, rfl, h3, h⟩ := hI.go a
      exact num_good hx h (dig_ok h3 (by omega)).2 (by omega) b c d e
    conv => arg 2; whnf
    refine okBr (fun hlt => ?_) (fun hge => ?_)
    · replace hlt : q < 10 := by simp at hlt; omega
      repeat'
        (conv => arg 2; whnf)
        first
        | refine okAsk (by kernel_rfl) ?_
        | refine okAsk (by omega) ?_
        | refine okAsk ⟨by omega, by have := (List.getElem?_eq_some_iff.1 hx).1; simp; omega, by simp⟩ ?_
        | refine okBoth ?_ ?_
        | refine okBrT ?_
        | refine okBrF ?_
        | refine okBr (fun h => ?_) (fun h => ?_)
        | (refine okNthMap (l := bs) (by simp at h; omega) (fun x hx => ?_); replace hx : bs[q]? = some x := hx)
        | refine okWrap (w64 (by omega) (by omega)) ?_
        | refine okRaw ?_
        | refine okRd 0 (bs, 0) (bs, 10) (.tup []) (rdFail_s 10) hs rfl rfl ⟨⟨rfl, rfl⟩, trivial⟩ (Cos.refl _) rfl ?_
        | refine okRd 0 (bs, 0) (bs, 11) (.tup []) (rdFail_s 11) hs rfl rfl ⟨⟨rfl, rfl⟩, trivial⟩ (Cos.refl _) rfl ?_
        | refine okAgain (q + 1, dig A q x) (Sv.mk' [0] rfl ⟨⟨rfl, rfl⟩, trivial⟩ ⟨rfl, rfl, rfl, rfl, trivial⟩) ⟨hlt, hI.next hlt hx (by simp at h; omega)⟩ (by show 10 - (q + 1) < 10 - q; omega)
        | refine okOut ?_
        | refine okRet ?_
        | (refine endRd (d := .int .u64 0) (.inr rfl) rfl ⟨⟨rfl, rfl⟩, trivial⟩ rfl (.refl _) (congrArg Prod.snd (f1 hlt (by simp at h; omega))).symm (congrArg (fun r : Nat × RS => D.int .u64 (r.1 : Int)) (f1 hlt (by simp at h; omega))).symm)
        | (have g := f2 x hx hlt (by clear f1 f2 f3 hI; simp_all <;> omega) (by clear f1 f2 f3 hI; first | (refine .inr (.inr ?_); simp_all [dig]; done) | (refine .inl ?_; simp_all <;> omega) | (refine .inr (.inl ?_); simp_all <;> omega))
           refine endRd (d := .int .u64 0) (.inr rfl) rfl ⟨⟨rfl, rfl⟩, trivial⟩ rfl (.refl _) (congrArg Prod.snd g).symm (congrArg (fun r : Nat × RS => D.int .u64 (r.1 : Int)) g).symm)
        | (have g := f3 x hx hlt (by clear f1 f2 f3 hI; simp_all <;> omega) (by clear f1 f2 f3 hI; simp_all <;> omega) (by clear f1 f2 f3 hI; simp_all <;> omega) (by clear f1 f2 f3 hI; simp_all [dig] <;> omega)
           refine endRd (x := bs.drop (q + 1)) (d := .int .u64 (dig A q x)) (.inr rfl) rfl ⟨⟨rfl, rfl⟩, trivial⟩ (from_ bs q) (.refl _) (congrArg Prod.snd g.1).symm ((congrArg (D.int .u64) g.2).trans (congrArg (fun r : Nat × RS => D.int .u64 (r.1 : Int)) g.1).symm))
    · replace hge : ¬ q < 10 := by simp at hge; omega
      repeat'
        (conv => arg 2; whnf)
        first
        | refine okRd 0 (bs, 0) (bs, 11) (.tup []) (rdFail_s 11) hs rfl rfl ⟨⟨rfl, rfl⟩, trivial⟩ (Cos.refl _) rfl ?_
        | refine okOut ?_
        | (refine endRd (d := .int .u64 0) (.inr rfl) rfl ⟨⟨rfl, rfl⟩, trivial⟩ rfl (.refl _) (congrArg Prod.snd (hI.out (by omega))).symm (congrArg (fun r : Nat × RS => D.int .u64 (r.1 : Int)) (hI.out (by omega))).symm)
  · have e1 : numR most (bs, e) = (0, (bs, e)) := by unfold numR; rw [if_neg he]
    refine mkS 72 [] Tryz.func165 rfl (by kernel_rfl) ?_
    repeat'
      (conv => arg 2; whnf)
      first
      | refine okAsk (by kernel_rfl) ?_
      | refine okRd 0 (bs, e) (bs, e) (.bool (e != 0)) rdStuck_s hs rfl rfl ⟨⟨rfl, rfl⟩, trivial⟩ (Cos.refl _) rfl ?_
      | refine okBrT ?_
      | refine okBr (fun h => ?_) (fun h => ?_)
      | (refine endRd (d := .int .u64 0) (.inr rfl) rfl ⟨⟨rfl, rfl⟩, trivial⟩ rfl (.refl _) (congrArg Prod.snd e1).symm (congrArg (fun r : Nat × RS => D.int .u64 (r.1 : Int)) e1).symm)
      | (exfalso; simp_all; done)
end Go.Proofs.YteaggenihhaajaaGreat

/- The reader of package codec, over data: byte strings; a new reader; package state's taker: numbers, flags, byte strings. -/
namespace Go.Proofs.YteaggenihhaajaaGreat
open Go.RowKit
set_option linter.unusedVariables false
set_option maxRecDepth 20000

theorem numR_le (most : Nat) (s : RS) : (numR most s).1 ≤ most := by
  unfold numR
  split
  · split
    · exact numGo_le most s.1 0 0
    · exact Nat.zero_le _
  · exact Nat.zero_le _
theorem numR_len (most : Nat) (s : RS) : (numR most s).2.1.length ≤ s.1.length := by
  unfold numR
  split
  · split
    · exact (numGo_len most s.1 0 0).1
    · exact Nat.le_refl _
  · exact Nat.le_refl _
theorem takeR_len (n : Int) (s : RS) : (takeR n s).2.1.length ≤ s.1.length := by
  unfold takeR
  split
  · split
    · exact Nat.le_refl _
    · split
      · exact Nat.le_refl _
      · simp
  · exact Nat.le_refl _
def bytesR (most : Nat) (s : RS) : List UInt8 × RS := takeR ((numR most s).1 : Int) (numR most s).2
theorem bytesR_len (most : Nat) (s : RS) : (bytesR most s).2.1.length ≤ s.1.length := Nat.le_trans (takeR_len _ _) (numR_len _ _)
theorem cosE {a b : List D} (h : a = b) : Cos a b := h ▸ Cos.refl a
theorem take_ (bs : List UInt8) (n : Nat) : ((bs.map cByte).drop (0 : Int).toNat).take (((n : Nat) : Int).toNat - (0 : Int).toNat) = (bs.take n).map cByte := by
  simp [List.map_take]
theorem drop_ (bs : List UInt8) (n : Nat) : ((bs.map cByte).drop ((n : Nat) : Int).toNat).take ((((bs.map cByte).length : Nat) : Int).toNat - ((n : Nat) : Int).toNat) = (bs.drop n).map cByte := by
  have e : ((n : Nat) : Int).toNat = n := Int.toNat_natCast n
  rw [e, List.take_of_length_le (by simp), List.map_drop]
theorem rdClone_s [Wd] (bs : List UInt8) (hl : bs.length ≤ 8388609) : FnP Tryz.prog 79 [.list 1 (bs.map cByte)] (.list 1 (bs.map cByte)) :=
  fresh_s (by unfold big; omega) (by kernel_rfl) (fun w I vs hv => by
    obtain ⟨v, rfl, h1⟩ := hv.one_inv
    exact clone63 (h1.bs (by unfold big; omega))) rfl
theorem rdTake_s [Wd] (n : Nat) : FnR 230 (.ptr 0 0) [.int .i64 (n : Int)] (fun s => .list 1 ((takeR n s).1.map cByte)) (fun s => (takeR n s).2) := by
  rintro ⟨bs, e⟩ hs
  replace hs : bs.length ≤ 8388609 := hs
  by_cases he : e = 0
  · subst he
    by_cases hn : (bs.length : Int) < n
    · have g : takeR n (bs, 0) = ([], (bs, 10)) := by unfold takeR; rw [if_pos rfl, if_neg (by omega), if_pos hn]
      refine mkS 43 [] Tryz.func230 rfl (by kernel_rfl) ?_
      repeat'
        (conv => arg 2; whnf)
        first
        | refine okAsk (by kernel_rfl) ?_
        | refine okRd 0 (bs, 0) (bs, 0) (.bool ((0 : Int) != 0)) rdStuck_s hs rfl rfl ⟨⟨rfl, rfl⟩, trivial⟩ (Cos.refl _) rfl ?_
        | refine okRd 0 (bs, 0) (bs, 10) (.tup []) (rdFail_s 10) hs rfl rfl ⟨⟨rfl, rfl⟩, trivial⟩ (Cos.refl _) rfl ?_
        | refine okRd 0 (bs, 10) (bs, 10) (.bool ((10 : Int) != 0)) rdStuck_s hs rfl rfl ⟨⟨rfl, rfl⟩, trivial⟩ (Cos.refl _) rfl ?_
        | refine okBrT ?_
        | refine okBrF ?_
        | refine okBr (fun h => ?_) (fun h => ?_)
        | refine endRd (d := .list 1 []) (.inr rfl) rfl ⟨⟨rfl, rfl⟩, trivial⟩ rfl (.nil _) (congrArg Prod.snd g).symm (congrArg (fun r : List UInt8 × RS => D.list 1 (r.1.map cByte)) g).symm
        | (exfalso; simp at h; omega)
    · have g : takeR n (bs, 0) = (bs.take n, (bs.drop n, 0)) := by unfold takeR; rw [if_pos rfl, if_neg (by omega), if_neg hn, Int.toNat_natCast]
      refine mkS 43 [] Tryz.func230 rfl (by kernel_rfl) ?_
      repeat'
        (conv => arg 2; whnf)
        first
        | refine okAsk (by kernel_rfl) ?_
        | refine okAsk ⟨by omega, by simp; omega, by simp⟩ ?_
        | refine okAsk ⟨by omega, by omega, by simp; omega⟩ ?_
        | refine okRd 0 (bs, 0) (bs, 0) (.bool ((0 : Int) != 0)) rdStuck_s hs rfl rfl ⟨⟨rfl, rfl⟩, trivial⟩ (Cos.refl _) rfl ?_
        | refine okFn (rdClone_s (bs.take n) (by rw [List.length_take]; omega)) rfl (cosE (congrArg (fun z => [D.list 1 z]) (take_ bs n))) ?_
        | refine okBrT ?_
        | refine okBrF ?_
        | refine okBr (fun h => ?_) (fun h => ?_)
        | refine endRd (d := .list 1 ((bs.take n).map cByte)) (.inr rfl) rfl ⟨⟨rfl, rfl⟩, trivial⟩ (drop_ bs n) (.refl _) (congrArg Prod.snd g).symm (congrArg (fun r : List UInt8 × RS => D.list 1 (r.1.map cByte)) g).symm
        | (exfalso; simp at h; omega)
  · have g : takeR n (bs, e) = ([], (bs, e)) := by unfold takeR; rw [if_neg he]
    refine mkS 43 [] Tryz.func230 rfl (by kernel_rfl) ?_
    repeat'
      (conv => arg 2; whnf)
      first
      | refine okAsk (by kernel_rfl) ?_
      | refine okRd 0 (bs, e) (bs, e) (.bool (e != 0)) rdStuck_s hs rfl rfl ⟨⟨rfl, rfl⟩, trivial⟩ (Cos.refl _) rfl ?_
      | refine okBrT ?_
      | refine okBrF ?_
      | refine okBr (fun h => ?_) (fun h => ?_)
      | refine endRd (d := .list 1 []) (.inr rfl) rfl ⟨⟨rfl, rfl⟩, trivial⟩ rfl (.nil _) (congrArg Prod.snd g).symm (congrArg (fun r : List UInt8 × RS => D.list 1 (r.1.map cByte)) g).symm
      | (exfalso; simp_all; done)
      | (exfalso; simp at h; omega)
theorem rdBytes_s [Wd] (most : Nat) (hm : most ≤ 4194304) : FnR 171 (.ptr 0 0) [.int .i64 (most : Int)] (fun s => .list 1 ((bytesR most s).1.map cByte)) (fun s => (bytesR most s).2) := by
  intro s hs
  have h1 := numR_le most s
  have h2 := numR_len most s
  have hmax : (if (0 : Int) < (most : Int) then (most : Int) else 0) = (most : Int) := by split <;> omega
  have hu : IntKind.u64.wrap (most : Int) = (most : Int) := u64_id (by omega)
  refine mkS 13 [] Tryz.func171 rfl (by kernel_rfl) ?_
  repeat'
    (conv => arg 2; whnf)
    first
    | refine okAsk (by kernel_rfl) ?_
    | refine okWrap (w64 (by omega) (by omega)) ?_
    | refine okRaw ?_
    | refine okRd 0 s (numR most s).2 (.int .u64 ((numR most s).1 : Int)) (rdNum_s most) hs rfl rfl ⟨⟨rfl, rfl⟩, trivial⟩ (cosE (by rw [hmax, hu]; rfl)) rfl ?_
    | refine okRd 0 (numR most s).2 (bytesR most s).2 (.list 1 ((bytesR most s).1.map cByte)) (rdTake_s (numR most s).1) (by omega) rfl rfl ⟨⟨rfl, rfl⟩, trivial⟩ (Cos.refl _) rfl ?_
    | refine endRd (d := .list 1 ((bytesR most s).1.map cByte)) (.inr rfl) rfl ⟨⟨rfl, rfl⟩, trivial⟩ rfl (.refl _) rfl rfl
theorem rdRead_s [Wd] (bs : List UInt8) (hl : bs.length ≤ 8388609) : FnS Tryz.prog 18 [.list 1 (bs.map cByte)] [] (fun r h => r = .ptr 0 0 ∧ h = oRd (bs, 0)) := by
  refine mkS 7 [] Tryz.func18 rfl (by kernel_rfl) ?_
  repeat'
    (conv => arg 2; whnf)
    first
    | refine okAsk (by kernel_rfl) ?_
    | refine okFn (rdClone_s bs hl) rfl (Cos.refl _) ?_
    | refine endObj [0] (.inr rfl) rfl rfl ⟨⟨rfl, rfl⟩, trivial⟩ trivial (.refl _)
/-! package state's taker -/
abbrev MX : Nat := 9007199254740992
theorem tkNum_s [Wd] : FnR 80 (.agg [.ptr 0 0]) [] (fun s => .int .i64 ((numR MX s).1 : Int)) (fun s => (numR MX s).2) := by
  intro s hs
  have h1 : (numR MX s).1 ≤ 9007199254740992 := numR_le MX s
  refine mkS 7 [] Tryz.func80 rfl (by kernel_rfl) ?_
  repeat'
    (conv => arg 2; whnf)
    first
    | refine okAsk (by kernel_rfl) ?_
    | refine okWrap (w64 (by omega) (by omega)) ?_
    | refine okRd 0 s (numR MX s).2 (.int .u64 ((numR MX s).1 : Int)) (rdNum_s MX) hs rfl rfl ⟨⟨rfl, rfl⟩, trivial⟩ (Cos.refl _) rfl ?_
    | refine endRd (d := .int .i64 ((numR MX s).1 : Int)) (.inr rfl) rfl ⟨⟨rfl, rfl⟩, trivial⟩ rfl (.refl _) rfl rfl
theorem tkFlag_s [Wd] : FnR 81 (.agg [.ptr 0 0]) [] (fun s => .bool (((numR 1 s).1 : Int) == 1)) (fun s => (numR 1 s).2) := by
  intro s hs
  refine mkS 7 [] Tryz.func81 rfl (by kernel_rfl) ?_
  repeat'
    (conv => arg 2; whnf)
    first
    | refine okAsk (by kernel_rfl) ?_
    | refine okRd 0 s (numR 1 s).2 (.int .u64 ((numR 1 s).1 : Int)) (rdNum_s 1) hs rfl rfl ⟨⟨rfl, rfl⟩, trivial⟩ (Cos.refl _) rfl ?_
    | refine endRd (d := .bool (((numR 1 s).1 : Int) == 1)) (.inr rfl) rfl ⟨⟨rfl, rfl⟩, trivial⟩ rfl (.refl _) rfl rfl
theorem tkStr_s [Wd] : FnR 85 (.agg [.ptr 0 0]) [] (fun s => .list 1 ((bytesR 4194304 s).1.map cByte)) (fun s => (bytesR 4194304 s).2) := by
  intro s hs
  refine mkS 6 [] Tryz.func85 rfl (by kernel_rfl) ?_
  repeat'
    (conv => arg 2; whnf)
    first
    | refine okAsk (by kernel_rfl) ?_
    | refine okRd 0 s (bytesR 4194304 s).2 (.list 1 ((bytesR 4194304 s).1.map cByte)) (rdBytes_s 4194304 (Nat.le_refl _)) hs rfl rfl ⟨⟨rfl, rfl⟩, trivial⟩ (Cos.refl _) rfl ?_
    | refine endRd (d := .list 1 ((bytesR 4194304 s).1.map cByte)) (.inr rfl) rfl ⟨⟨rfl, rfl⟩, trivial⟩ rfl (.refl _) rfl rfl
end Go.Proofs.YteaggenihhaajaaGreat

/- Package message's taker, over data: numbers, what must be, how many; a signature. -/
namespace Go.Proofs.YteaggenihhaajaaGreat
open Go.RowKit
set_option linter.unusedVariables false
set_option maxRecDepth 20000

def mNumR (least : Int) (s : RS) : Int × RS :=
  if (numR MX s).2.2 = 0 then (if ((numR MX s).1 : Int) < least then (0, ((numR MX s).2.1, 100)) else ((numR MX s).1, (numR MX s).2)) else (0, (numR MX s).2)
def mustR (b : Bool) (s : RS) : RS := if s.2 = 0 then (if b then s else (s.1, 100)) else s
def manyR (most : Int) (s : RS) : Int × RS :=
  if (mustR (decide ((mNumR 0 s).1 ≤ most)) (mNumR 0 s).2).2 = 0 then ((mNumR 0 s).1, mustR (decide ((mNumR 0 s).1 ≤ most)) (mNumR 0 s).2) else (0, mustR (decide ((mNumR 0 s).1 ≤ most)) (mNumR 0 s).2)
def signR (s : RS) : SignD × RS :=
  if (numR MX (numR 20 s).2).2.2 = 0 then (if (numR MX (numR 20 s).2).1 = 0 then (zSign, ((numR MX (numR 20 s).2).2.1, 81)) else (⟨(numR 20 s).1, (numR MX (numR 20 s).2).1⟩, (numR MX (numR 20 s).2).2)) else (zSign, (numR MX (numR 20 s).2).2)
theorem numR_pair (most : Nat) (s : RS) : ∃ (n : Nat) (b : List UInt8) (e : Int), numR most s = (n, (b, e)) ∧ n ≤ most ∧ b.length ≤ s.1.length :=
  ⟨_, _, _, rfl, numR_le most s, numR_len most s⟩
theorem mNumR_pair (least : Int) (s : RS) : ∃ (n : Int) (b : List UInt8) (e : Int), mNumR least s = (n, (b, e)) ∧ 0 ≤ n ∧ n ≤ 9007199254740992 ∧ b.length ≤ s.1.length := by
  have h1 : (numR MX s).1 ≤ 9007199254740992 := numR_le MX s
  have h2 := numR_len MX s
  refine ⟨(mNumR least s).1, (mNumR least s).2.1, (mNumR least s).2.2, rfl, ?_, ?_, ?_⟩ <;> unfold mNumR <;> split <;> (try split) <;> first | omega | exact h2 | decide
section
variable [Wd]
theorem mtNum_s (least : Int) : FnR 270 (.agg [.ptr 0 0]) [.int .i64 least] (fun s => .int .i64 (mNumR least s).1) (fun s => (mNumR least s).2) := by
  intro s hs
  obtain ⟨n, b, e, en, hn, hb⟩ := numR_pair MX s
  replace hn : n ≤ 9007199254740992 := hn
  have hb' : b.length ≤ 8388609 := by omega
  refine mkS 27 [] Tryz.func270 rfl (by kernel_rfl) ?_
  repeat'
    (conv => arg 2; whnf)
    first
    | refine okAsk (by kernel_rfl) ?_
    | refine okWrap (w64 (by omega) (by omega)) ?_
    | refine okRd 0 s (b, e) (.int .u64 (n : Int)) (rdNum_s MX) hs (congrArg Prod.snd en).symm (congrArg (fun r : Nat × RS => D.int .u64 (r.1 : Int)) en).symm ⟨⟨rfl, rfl⟩, trivial⟩ (Cos.refl _) rfl ?_
    | refine okRd 0 (b, e) (b, e) (.int .i64 e) rdErr_s hb' rfl rfl ⟨⟨rfl, rfl⟩, trivial⟩ (Cos.refl _) rfl ?_
    | refine okBoth ?_ ?_
    | refine okBrT ?_
    | refine okBrF ?_
    | refine okBr (fun h => ?_) (fun h => ?_)
    | refine okRd 0 (b, e) (b, 100) (.tup []) (rdFail_s 100) hb' (by unfold failR; rw [if_pos (by simp_all)]) rfl ⟨⟨rfl, rfl⟩, trivial⟩ (Cos.refl _) rfl ?_
    | refine okRd 0 (b, 100) (b, 100) (.int .i64 100) rdErr_s hb' rfl rfl ⟨⟨rfl, rfl⟩, trivial⟩ (Cos.refl _) rfl ?_
    | (refine endRd (d := .int .i64 _) (.inr rfl) rfl ⟨⟨rfl, rfl⟩, trivial⟩ rfl (.refl _) ?_ ?_ <;> (simp only [mNumR, en]; (repeat' split) <;> first | rfl | (exfalso; simp_all <;> omega)))
    | (exfalso; simp_all; done)
theorem mtDigest_s (least : Int) : FnR 271 (.agg [.ptr 0 0]) [.int .i64 least] (fun s => .int .i64 (mNumR least s).1) (fun s => (mNumR least s).2) := by
  intro s hs
  obtain ⟨n, b, e, en, hn0, hn, hb⟩ := mNumR_pair least s
  refine mkS 8 [] Tryz.func271 rfl (by kernel_rfl) ?_
  repeat'
    (conv => arg 2; whnf)
    first
    | refine okAsk (by kernel_rfl) ?_
    | refine okWrap (w64 (by omega) (by omega)) ?_
    | refine okRd 0 s (b, e) (.int .i64 n) (mtNum_s least) hs (congrArg Prod.snd en).symm (congrArg (fun r : Int × RS => D.int .i64 r.1) en).symm ⟨⟨rfl, rfl⟩, trivial⟩ (Cos.refl _) rfl ?_
    | refine endRd (d := .int .i64 n) (.inr rfl) rfl ⟨⟨rfl, rfl⟩, trivial⟩ rfl (.refl _) (congrArg Prod.snd en).symm (congrArg (fun r : Int × RS => D.int .i64 r.1) en).symm
theorem mtMust_s (c : Bool) : FnR 272 (.agg [.ptr 0 0]) [.bool c] (fun _ => .tup []) (mustR c) := by
  intro s hs
  obtain ⟨b, e⟩ := s
  replace hs : b.length ≤ 8388609 := hs
  refine mkS 15 [] Tryz.func272 rfl (by kernel_rfl) ?_
  repeat'
    (conv => arg 2; whnf)
    first
    | refine okAsk (by kernel_rfl) ?_
    | refine okRd 0 (b, e) (b, e) (.int .i64 e) rdErr_s hs rfl rfl ⟨⟨rfl, rfl⟩, trivial⟩ (Cos.refl _) rfl ?_
    | refine okBoth ?_ ?_
    | refine okBrT ?_
    | refine okBrF ?_
    | refine okBr (fun h => ?_) (fun h => ?_)
    | refine okRd 0 (b, e) (b, 100) (.tup []) (rdFail_s 100) hs (by unfold failR; rw [if_pos (by simp_all)]) rfl ⟨⟨rfl, rfl⟩, trivial⟩ (Cos.refl _) rfl ?_
    | (refine endRd (d := .tup []) (.inl rfl) rfl ⟨⟨rfl, rfl⟩, trivial⟩ rfl (.refl _) ?_ rfl; simp only [mustR]; (repeat' split) <;> first | rfl | (exfalso; simp_all <;> omega))
    | (exfalso; simp_all; done)
theorem mtMany_s (most : Int) : FnR 318 (.agg [.ptr 0 0]) [.int .i64 most] (fun s => .int .i64 (manyR most s).1) (fun s => (manyR most s).2) := by
  intro s hs
  obtain ⟨n, b, e, en, hn0, hn, hb⟩ := mNumR_pair 0 s
  have hb' : b.length ≤ 8388609 := by omega
  obtain ⟨b2, e2, em⟩ : ∃ (b2 : List UInt8) (e2 : Int), mustR (decide (n ≤ most)) (b, e) = (b2, e2) := ⟨_, _, rfl⟩
  have hb2 : b2.length ≤ 8388609 := by
    have h := congrArg Prod.fst em
    have h2 : (mustR (decide (n ≤ most)) (b, e)).1 = b := by
      unfold mustR
      split
      · split <;> rfl
      · rfl
    have h3 : b2 = b := h.symm.trans h2
    rw [h3]
    exact hb'
  have eR : manyR most s = if e2 = 0 then (n, (b2, e2)) else (0, (b2, e2)) := by unfold manyR; rw [en]; simp only [em]
  refine mkS 18 [] Tryz.func318 rfl (by kernel_rfl) ?_
  repeat'
    (conv => arg 2; whnf)
    first
    | refine okAsk (by kernel_rfl) ?_
    | refine okRd 0 s (b, e) (.int .i64 n) (mtNum_s 0) hs (congrArg Prod.snd en).symm (congrArg (fun r : Int × RS => D.int .i64 r.1) en).symm ⟨⟨rfl, rfl⟩, trivial⟩ (Cos.refl _) rfl ?_
    | refine okRd 0 (b, e) (b2, e2) (.tup []) (mtMust_s (decide (n ≤ most))) hb' em.symm rfl ⟨⟨rfl, rfl⟩, trivial⟩ (Cos.refl _) rfl ?_
    | refine okRd 0 (b2, e2) (b2, e2) (.int .i64 e2) rdErr_s hb2 rfl rfl ⟨⟨rfl, rfl⟩, trivial⟩ (Cos.refl _) rfl ?_
    | refine okBoth ?_ ?_
    | refine okBrT ?_
    | refine okBrF ?_
    | refine okBr (fun h => ?_) (fun h => ?_)
    | (refine endRd (d := .int .i64 _) (.inr rfl) rfl ⟨⟨rfl, rfl⟩, trivial⟩ rfl (.refl _) ?_ ?_ <;> (simp only [eR]; (repeat' split) <;> first | rfl | (exfalso; simp_all <;> omega)))
theorem qTakeSign_s : FnR 235 (.ptr 0 0) [] (fun s => .agg (cSign (signR s).1)) (fun s => (signR s).2) := by
  intro s hs
  obtain ⟨n, b, e, en, hn, hb⟩ := numR_pair 20 s
  have hb' : b.length ≤ 8388609 := by omega
  obtain ⟨m, b2, e2, em, hm, hb2⟩ := numR_pair MX (b, e)
  replace hm : m ≤ 9007199254740992 := hm
  replace hb2 : b2.length ≤ b.length := hb2
  have hb2' : b2.length ≤ 8388609 := by omega
  refine mkS 27 [] Tryz.func235 rfl (by kernel_rfl) ?_
  repeat'
    (conv => arg 2; whnf)
    first
    | refine okAsk (by kernel_rfl) ?_
    | refine okWrap (w64 (by omega) (by omega)) ?_
    | refine okRd 0 s (b, e) (.int .u64 (n : Int)) (rdNum_s 20) hs (congrArg Prod.snd en).symm (congrArg (fun r : Nat × RS => D.int .u64 (r.1 : Int)) en).symm ⟨⟨rfl, rfl⟩, trivial⟩ (Cos.refl _) rfl ?_
    | refine okRd 0 (b, e) (b2, e2) (.int .u64 (m : Int)) (rdNum_s MX) hb' (congrArg Prod.snd em).symm (congrArg (fun r : Nat × RS => D.int .u64 (r.1 : Int)) em).symm ⟨⟨rfl, rfl⟩, trivial⟩ (Cos.refl _) rfl ?_
    | refine okRd 0 (b2, e2) (b2, e2) (.int .i64 e2) rdErr_s hb2' rfl rfl ⟨⟨rfl, rfl⟩, trivial⟩ (Cos.refl _) rfl ?_
    | refine okBoth ?_ ?_
    | refine okBrT ?_
    | refine okBrF ?_
    | refine okBr (fun h => ?_) (fun h => ?_)
    | refine okRd 0 (b2, e2) (b2, 81) (.tup []) (rdFail_s 81) hb2' (by unfold failR; rw [if_pos (by simp_all)]) rfl ⟨⟨rfl, rfl⟩, trivial⟩ (Cos.refl _) rfl ?_
    | refine okRd 0 (b2, 81) (b2, 81) (.int .i64 81) rdErr_s hb2' rfl rfl ⟨⟨rfl, rfl⟩, trivial⟩ (Cos.refl _) rfl ?_
    | (refine endRd (d := .agg [.int .i64 _, .int .i64 _]) (.inr rfl) rfl ⟨⟨rfl, rfl⟩, trivial⟩ rfl (.refl _) ?_ ?_ <;> (simp only [signR, en, em]; (repeat' split) <;> first | rfl | (exfalso; simp_all <;> omega)))
    | (exfalso; simp_all; done)
end
end Go.Proofs.YteaggenihhaajaaGreat

/- Lists that are read one by one, over data: package message's (printed by gen_dk.py). -/
namespace Go.Proofs.YteaggenihhaajaaGreat
open Go.RowKit
set_option linter.unusedVariables false
set_option maxRecDepth 20000

/-- so many, one by one, while nothing is wrong -/
def goR {α : Type} (p : RS → α × RS) : Nat → RS → List α × RS
  | 0, s => ([], s)
  | n + 1, s => if s.2 = 0 then ((p s).1 :: (goR p n (p s).2).1, (goR p n (p s).2).2) else ([], s)
theorem goR_stop {α : Type} (p : RS → α × RS) (n : Nat) (s : RS) (h : ¬ s.2 = 0) : goR p n s = ([], s) := by
  cases n with
  | zero => rfl
  | succ n => unfold goR; rw [if_neg h]
theorem goR_step {α : Type} (p : RS → α × RS) {n : Int} {s : RS} (hn : 0 < n) (h : s.2 = 0) : goR p n.toNat s = ((p s).1 :: (goR p (n - 1).toNat (p s).2).1, (goR p (n - 1).toNat (p s).2).2) := by
  obtain ⟨k, rfl⟩ : ∃ k : Nat, n = (k : Int) + 1 := ⟨(n - 1).toNat, by omega⟩
  have e1 : ((k : Int) + 1).toNat = k + 1 := by omega
  have e2 : ((k : Int) + 1 - 1).toNat = k := by omega
  rw [e1, e2]
  conv => lhs; unfold goR
  rw [if_pos h]
theorem goR_len {α : Type} {p : RS → α × RS} (hp : ∀ s, (p s).2.1.length ≤ s.1.length) : ∀ (n : Nat) (s : RS), (goR p n s).2.1.length ≤ s.1.length
  | 0, s => Nat.le_refl _
  | n + 1, s => by
    unfold goR
    split
    · exact Nat.le_trans (goR_len hp n _) (hp s)
    · exact Nat.le_refl _
def listR {α : Type} (p : RS → α × RS) (most : Int) (s : RS) : List α × RS := goR p (manyR most s).1.toNat (manyR most s).2
theorem mustR_len (c : Bool) (s : RS) : (mustR c s).1 = s.1 := by
  unfold mustR
  split
  · split <;> rfl
  · rfl
theorem manyR_pair (most : Int) (hm : 0 ≤ most) (s : RS) : ∃ (n : Int) (b : List UInt8) (e : Int), manyR most s = (n, (b, e)) ∧ 0 ≤ n ∧ n ≤ most ∧ b.length ≤ s.1.length := by
  obtain ⟨n, b, e, en, h0, h1, h2⟩ := mNumR_pair 0 s
  refine ⟨(manyR most s).1, (manyR most s).2.1, (manyR most s).2.2, rfl, ?_, ?_, ?_⟩
  · unfold manyR
    rw [en]
    split
    · exact h0
    · exact Int.le_refl _
  · unfold manyR
    rw [en]
    split
    · rename_i h
      show n ≤ most
      by_cases hn : n ≤ most
      · exact hn
      · exfalso
        have hd : decide (n ≤ most) = false := by simpa using hn
        simp only [hd, mustR] at h
        split at h
        · cases h
        · contradiction
    · exact hm
  · unfold manyR
    rw [en]
    split
    · show (mustR _ (b, e)).1.length ≤ _; rw [mustR_len]; exact h2
    · show (mustR _ (b, e)).1.length ≤ _; rw [mustR_len]; exact h2
theorem listR_len {α : Type} {p : RS → α × RS} (hp : ∀ s, (p s).2.1.length ≤ s.1.length) (most : Int) (hm : 0 ≤ most) (s : RS) : (listR p most s).2.1.length ≤ s.1.length := by
  obtain ⟨n, b, e, en, _, _, h2⟩ := manyR_pair most hm s
  unfold listR
  rw [en]
  exact Nat.le_trans (goR_len hp _ _) h2
theorem signR_len (s : RS) : (signR s).2.1.length ≤ s.1.length := by
  have h1 := numR_len 20 s
  have h2 := numR_len MX (numR 20 s).2
  unfold signR
  split
  · split
    · show (numR MX (numR 20 s).2).2.1.length ≤ _; omega
    · show (numR MX (numR 20 s).2).2.1.length ≤ _; omega
  · show (numR MX (numR 20 s).2).2.1.length ≤ _; omega
theorem endRdF [Wd] (fz : List Nat) {tb : TT} {rs : List ResultVar} {ex : Exit} {S0 : S} {x : List UInt8} {y : Int} {s s' : RS} {d R : D} {ds : List D} {ys : List (List D)} (he : ex = .normal ∨ ex = .ret) (hr : resD tb (S0.frz fz) rs = some ds) (hv : vwP (S0.frz fz).h [0] [0] [.cells 164 [.list 1 ys, .int .i64 y, .bool true]]) (hy : ys = x.map cByte) (hco : Co (resV ds) (d.ren [0])) (hx : (x, y) = s') (hd : d = R) : (T.leaf ex S0).ok Tryz.prog (Lf tb rs (oRd s) (fun r h => r = R ∧ h = oRd s')) := by
  subst hx hd hy
  exact endObjF fz [0] he hr rfl hv ⟨⟨rfl, rfl⟩, trivial⟩ hco
theorem mtSign_s [Wd] : FnR 274 (.agg [.ptr 0 0]) [] (fun s => .agg (cSign (signR s).1)) (fun s => (signR s).2) := by
  intro s hs
  refine mkS 6 [] Tryz.func274 rfl (by kernel_rfl) ?_
  repeat'
    (conv => arg 2; whnf)
    first
    | refine okAsk (by kernel_rfl) ?_
    | refine okRd 0 s (signR s).2 (.agg (cSign (signR s).1)) qTakeSign_s hs rfl rfl ⟨⟨rfl, rfl⟩, trivial⟩ (Cos.refl _) rfl ?_
    | refine endRd (d := .agg (cSign (signR s).1)) (.inr rfl) rfl ⟨⟨rfl, rfl⟩, trivial⟩ rfl (.refl _) rfl rfl
theorem mlistSign_s [Wd] (most : Int) (hm0 : 0 ≤ most) (hm : most ≤ 4096) : FnR 273 (.agg [.ptr 0 0]) [.int .i64 most, .fn 274 0 []] (fun s => .list 2 ((listR signR most s).1.map cSign)) (fun s => (listR signR most s).2) := by
  intro s0 hs
  obtain ⟨N, b0, e0, en, hN0, hN, hb0⟩ := manyR_pair most hm0 s0
  have eL : listR signR most s0 = goR signR N.toNat (b0, e0) := by unfold listR; rw [en]
  refine mkS 29 [] Tryz.func273 rfl (by kernel_rfl) ?_
  repeat'
    (conv => arg 2; whnf)
    first
    | refine okAsk (by kernel_rfl) ?_
    | refine okRd 0 s0 (b0, e0) (.int .i64 N) (mtMany_s most) hs (congrArg Prod.snd en).symm (congrArg (fun r : Int × RS => D.int .i64 r.1) en).symm ⟨⟨rfl, rfl⟩, trivial⟩ (Cos.refl _) rfl ?_
  conv => arg 2; whnf
  refine okLoop (α := Int × RS × List SignD) (fun a => match a.2.2 with
    | [] => ⟨[(8, .int .i64 a.1), (7, .nils), (3, .ptr 1 0), (2, .fn 274 0 [])], [.cells 164 [.list 1 (a.2.1.1.map cByte), .int .i64 a.2.1.2, .bool true], .cells 306 [.ptr 0 0]]⟩
    | x :: l => ⟨[(8, .int .i64 a.1), (7, .row 2), (3, .ptr 1 0), (2, .fn 274 0 [])], [.cells 164 [.list 1 (a.2.1.1.map cByte), .int .i64 a.2.1.2, .bool true], .cells 306 [.ptr 0 0], .row 59 2 ((x :: l).map cSign)]⟩) (fun a => 0 ≤ a.1 ∧ a.1 ≤ 4096 ∧ a.2.1.1.length ≤ 8388609 ∧ a.2.2.length + a.1.toNat ≤ 4096 ∧ goR signR N.toNat (b0, e0) = (a.2.2 ++ (goR signR a.1.toNat a.2.1).1, (goR signR a.1.toNat a.2.1).2)) (fun a => a.1.toNat) (N, (b0, e0), []) ⟨hN0, by omega, by show b0.length ≤ _; omega, by simp; omega, rfl⟩ (Sv.mk' [0, 1] rfl ⟨⟨rfl, rfl⟩, ⟨rfl, rfl⟩, trivial⟩ ⟨rfl, rfl, rfl, rfl, trivial⟩) ?_
  rintro ⟨n, ⟨b, e⟩, out⟩ ⟨h0, h1, hl, ho, hg⟩
  replace h0 : 0 ≤ n := h0
  replace h1 : n ≤ 4096 := h1
  replace hl : b.length ≤ 8388609 := hl
  replace ho : out.length + n.toNat ≤ 4096 := ho
  replace hg : goR signR N.toNat (b0, e0) = (out ++ (goR signR n.toNat (b, e)).1, (goR signR n.toNat (b, e)).2) := hg
  obtain ⟨x, b2, e2, ep⟩ : ∃ (x : SignD) (b2 : List UInt8) (e2 : Int), signR (b, e) = (x, (b2, e2)) := ⟨_, _, _, rfl⟩
  have hl2 : b2.length ≤ 8388609 := by
    have h := signR_len (b, e)
    rw [ep] at h
    exact Nat.le_trans h hl
  have hstop : (n ≤ 0 ∨ ¬ e = 0) → listR signR most s0 = (out, (b, e)) := fun h => by
    rw [eL, hg]
    rcases h with h | h
    · rw [show n.toNat = 0 by omega]; simp [goR]
    · rw [goR_stop _ _ _ h]; simp
  have hnext : 0 < n → e = 0 → goR signR N.toNat (b0, e0) = ((out ++ [x]) ++ (goR signR (n - 1).toNat (b2, e2)).1, (goR signR (n - 1).toNat (b2, e2)).2) := fun hn h => by
    rw [hg, goR_step _ hn h, ep]
    simp
  cases out with
  | nil =>
    conv => arg 2; whnf
    refine okBr (fun hn => ?_) (fun hn => ?_)
    · replace hn : 0 < n := by simpa using hn
      repeat'
        (conv => arg 2; whnf)
        first
        | refine okRd 0 (b, e) (b, e) (.int .i64 e) rdErr_s hl rfl rfl ⟨⟨rfl, rfl⟩, trivial⟩ (Cos.refl _) rfl ?_
        | refine okBoth ?_ ?_
        | refine okBrT ?_
        | refine okBrF ?_
        | refine okBr (fun h => ?_) (fun h => ?_)
        | refine okRd 0 (b, e) (b2, e2) (.agg (cSign x)) mtSign_s hl (congrArg Prod.snd ep).symm (congrArg (fun r : SignD × RS => D.agg (cSign r.1)) ep).symm ⟨⟨rfl, rfl⟩, trivial⟩ (Cos.refl _) rfl ?_
        | refine okAsk (by constructor <;> (simp only [List.length_cons, List.length_nil]; decide)) ?_
        | refine okWrap (w64 (by show _ ≤ n - 1; omega) (by show n - 1 ≤ _; omega)) ?_
        | refine okAgain (n - 1, (b2, e2), [x]) (Sv.mk' [0, 1, 4] rfl ⟨⟨rfl, rfl⟩, ⟨rfl, rfl⟩, ⟨rfl, rfl⟩, trivial⟩ ⟨rfl, rfl, rfl, rfl, trivial⟩) ⟨by show 0 ≤ n - 1; omega, by show n - 1 ≤ 4096; omega, hl2, by show ([x]).length + (n - 1).toNat ≤ 4096; simp at ho ⊢; omega, hnext hn (by simpa using h)⟩ (by show (n - 1).toNat < n.toNat; omega)
        | refine okOut ?_
        | refine endRd (d := .list 2 []) (.inr rfl) rfl ⟨⟨rfl, rfl⟩, trivial⟩ rfl (.nil _) (congrArg Prod.snd (hstop (.inr (by simpa using h)))).symm (congrArg (fun r : List SignD × RS => D.list 2 (r.1.map cSign)) (hstop (.inr (by simpa using h)))).symm
    · replace hn : n ≤ 0 := by simpa using hn
      repeat'
        (conv => arg 2; whnf)
        first
        | refine okRd 0 (b, e) (b, e) (.int .i64 e) rdErr_s hl rfl rfl ⟨⟨rfl, rfl⟩, trivial⟩ (Cos.refl _) rfl ?_
        | refine okBoth ?_ ?_
        | refine okBrT ?_
        | refine okBrF ?_
        | refine okBr (fun h => ?_) (fun h => ?_)
        | refine okOut ?_
        | refine endRd (d := .list 2 []) (.inr rfl) rfl ⟨⟨rfl, rfl⟩, trivial⟩ rfl (.nil _) (congrArg Prod.snd (hstop (.inl hn))).symm (congrArg (fun r : List SignD × RS => D.list 2 (r.1.map cSign)) (hstop (.inl hn))).symm
  | cons y out =>
    conv => arg 2; whnf
    refine okBr (fun hn => ?_) (fun hn => ?_)
    · replace hn : 0 < n := by simpa using hn
      repeat'
        (conv => arg 2; whnf)
        first
        | refine okRd 0 (b, e) (b, e) (.int .i64 e) rdErr_s hl rfl rfl ⟨⟨rfl, rfl⟩, trivial⟩ (Cos.refl _) rfl ?_
        | refine okBoth ?_ ?_
        | refine okBrT ?_
        | refine okBrF ?_
        | refine okBr (fun h => ?_) (fun h => ?_)
        | refine okRd 0 (b, e) (b2, e2) (.agg (cSign x)) mtSign_s hl (congrArg Prod.snd ep).symm (congrArg (fun r : SignD × RS => D.agg (cSign r.1)) ep).symm ⟨⟨rfl, rfl⟩, trivial⟩ (Cos.refl _) rfl ?_
        | refine okAsk (by constructor <;> (simp only [List.length_cons, List.length_nil, List.length_map, maxLen] at ho ⊢; omega)) ?_
        | refine okWrap (w64 (by show _ ≤ n - 1; omega) (by show n - 1 ≤ _; omega)) ?_
        | refine okAgain (n - 1, (b2, e2), (y :: out) ++ [x]) (Sv.mk' [0, 1, 5] rfl ⟨⟨rfl, rfl⟩, ⟨rfl, rfl⟩, ⟨rfl, by simp; rfl⟩, trivial⟩ ⟨rfl, rfl, rfl, rfl, trivial⟩) ⟨by show 0 ≤ n - 1; omega, by show n - 1 ≤ 4096; omega, hl2, by show ((y :: out) ++ [x]).length + (n - 1).toNat ≤ 4096; simp at ho ⊢; omega, hnext hn (by simpa using h)⟩ (by show (n - 1).toNat < n.toNat; omega)
        | refine okOut ?_
        | refine endRdF [2] (d := .list 2 ((y :: out).map cSign)) (.inr rfl) rfl ⟨⟨rfl, rfl⟩, trivial⟩ rfl (.refl _) (congrArg Prod.snd (hstop (.inr (by simpa using h)))).symm (congrArg (fun r : List SignD × RS => D.list 2 (r.1.map cSign)) (hstop (.inr (by simpa using h)))).symm
    · replace hn : n ≤ 0 := by simpa using hn
      repeat'
        (conv => arg 2; whnf)
        first
        | refine okRd 0 (b, e) (b, e) (.int .i64 e) rdErr_s hl rfl rfl ⟨⟨rfl, rfl⟩, trivial⟩ (Cos.refl _) rfl ?_
        | refine okBoth ?_ ?_
        | refine okBrT ?_
        | refine okBrF ?_
        | refine okBr (fun h => ?_) (fun h => ?_)
        | refine okOut ?_
        | refine endRdF [2] (d := .list 2 ((y :: out).map cSign)) (.inr rfl) rfl ⟨⟨rfl, rfl⟩, trivial⟩ rfl (.refl _) (congrArg Prod.snd (hstop (.inl hn))).symm (congrArg (fun r : List SignD × RS => D.list 2 (r.1.map cSign)) (hstop (.inl hn))).symm
end Go.Proofs.YteaggenihhaajaaGreat

/- A certificate, read by package message, over data; message.ParseCert. -/
namespace Go.Proofs.YteaggenihhaajaaGreat
open Go.RowKit
set_option linter.unusedVariables false
set_option maxRecDepth 20000

def certR (s : RS) : CertD × RS :=
  let a := mNumR 0 s
  let d := mNumR 0 a.2
  let l := listR signR (if a.1 = 0 then 0 else 13) (mustR ((a.1 == 0) == (d.1 == 0)) d.2)
  (⟨a.1, d.1, l.1⟩, l.2)
theorem listR_pair {α : Type} {p : RS → α × RS} (hp : ∀ s, (p s).2.1.length ≤ s.1.length) (most : Int) (hm : 0 ≤ most) (s : RS) : ∃ (l : List α) (b : List UInt8) (e : Int), listR p most s = (l, (b, e)) ∧ b.length ≤ s.1.length :=
  ⟨_, _, _, rfl, listR_len hp most hm s⟩
theorem certR_len (s : RS) : (certR s).2.1.length ≤ s.1.length := by
  obtain ⟨n, b, e, en, _, _, h1⟩ := mNumR_pair 0 s
  obtain ⟨d, b2, e2, ed, _, _, h2⟩ := mNumR_pair 0 (b, e)
  have h3 := mustR_len ((n == 0) == (d == 0)) (b2, e2)
  have h4 := listR_len signR_len (if n = 0 then 0 else 13) (by split <;> decide) (mustR ((n == 0) == (d == 0)) (b2, e2))
  unfold certR
  simp only [en, ed]
  rw [h3] at h4
  exact Nat.le_trans h4 (Nat.le_trans h2 h1)
theorem mtCert_s [Wd] : FnR 234 (.agg [.ptr 0 0]) [] (fun s => .agg (cCert (certR s).1)) (fun s => (certR s).2) := by
  intro s hs
  obtain ⟨n, b, e, en, hn0, hn, hb⟩ := mNumR_pair 0 s
  obtain ⟨d, b2, e2, ed, hd0, hd, hb2⟩ := mNumR_pair 0 (b, e)
  replace hb2 : b2.length ≤ b.length := hb2
  have hb' : b.length ≤ 8388609 := by omega
  have hb2' : b2.length ≤ 8388609 := by omega
  obtain ⟨b3, e3, em⟩ : ∃ (b3 : List UInt8) (e3 : Int), mustR ((n == 0) == (d == 0)) (b2, e2) = (b3, e3) := ⟨_, _, rfl⟩
  have hb3' : b3.length ≤ 8388609 := by
    have h := mustR_len ((n == 0) == (d == 0)) (b2, e2)
    rw [em] at h
    have h' : b3 = b2 := h
    rw [h']
    exact hb2'
  obtain ⟨M, hM, hM0, hM1⟩ : ∃ M : Int, (if n = 0 then 0 else 13) = M ∧ 0 ≤ M ∧ M ≤ 4096 := ⟨_, rfl, by split <;> decide, by split <;> decide⟩
  obtain ⟨l, b4, e4, el, _⟩ := listR_pair signR_len M hM0 (b3, e3)
  have eR : certR s = (⟨n, d, l⟩, (b4, e4)) := by unfold certR; simp only [en, ed, em, hM, el]
  refine mkS 28 [] Tryz.func234 rfl (by kernel_rfl) ?_
  by_cases hz : n = 0
  all_goals
    first
    | rw [if_pos hz] at hM
    | rw [if_neg hz] at hM
    subst hM
    repeat'
      (conv => arg 2; whnf)
      first
      | refine okAsk (by kernel_rfl) ?_
      | refine okRd 0 s (b, e) (.int .i64 n) (mtNum_s 0) hs (congrArg Prod.snd en).symm (congrArg (fun r : Int × RS => D.int .i64 r.1) en).symm ⟨⟨rfl, rfl⟩, trivial⟩ (Cos.refl _) rfl ?_
      | refine okRd 0 (b, e) (b2, e2) (.int .i64 d) (mtDigest_s 0) hb' (congrArg Prod.snd ed).symm (congrArg (fun r : Int × RS => D.int .i64 r.1) ed).symm ⟨⟨rfl, rfl⟩, trivial⟩ (Cos.refl _) rfl ?_
      | refine okRd 0 (b2, e2) (b3, e3) (.tup []) (mtMust_s ((n == 0) == (d == 0))) hb2' em.symm rfl ⟨⟨rfl, rfl⟩, trivial⟩ (Cos.refl _) rfl ?_
      | refine okRd 0 (b3, e3) (b4, e4) (.list 2 (l.map cSign)) (mlistSign_s _ hM0 hM1) hb3' (congrArg Prod.snd el).symm (congrArg (fun r : List SignD × RS => D.list 2 (r.1.map cSign)) el).symm ⟨⟨rfl, rfl⟩, trivial⟩ (Cos.refl _) rfl ?_
      | refine okBoth ?_ ?_
      | refine okBrT ?_
      | refine okBrF ?_
      | refine okBr (fun h => ?_) (fun h => ?_)
      | refine endRd (d := .agg (cCert ⟨n, d, l⟩)) (.inr rfl) rfl ⟨⟨rfl, rfl⟩, trivial⟩ rfl (.refl _) (congrArg Prod.snd eR).symm (congrArg (fun r : CertD × RS => D.agg (cCert r.1)) eR).symm
      | (exfalso; simp_all; done)
/-- all of bytes as one thing -/
def parseR {α : Type} (p : RS → α × RS) (z : α) (b : List UInt8) : α × Int :=
  if 262144 < b.length then (z, 3) else if doneR (p (b, 0)).2 = 0 then ((p (b, 0)).1, 0) else (z, doneR (p (b, 0)).2)
theorem parse_big {α : Type} {p : RS → α × RS} {z : α} {b : List UInt8} (h : 262144 < b.length) : parseR p z b = (z, 3) := by unfold parseR; rw [if_pos h]
theorem parse_bad {α : Type} {p : RS → α × RS} {z c : α} {b : List UInt8} {s : RS} (h : ¬ 262144 < b.length) (e : p (b, 0) = (c, s)) (hd : ¬ doneR s = 0) : parseR p z b = (z, doneR s) := by unfold parseR; rw [if_neg h, e, if_neg hd]
theorem parse_ok {α : Type} {p : RS → α × RS} {z c : α} {b : List UInt8} {s : RS} (h : ¬ 262144 < b.length) (e : p (b, 0) = (c, s)) (hd : doneR s = 0) : parseR p z b = (c, 0) := by unfold parseR; rw [if_neg h, e, if_pos hd]
theorem mparseCert_s [Wd] (bs : List UInt8) (hl : bs.length ≤ 4194304) : FnP Tryz.prog 233 [.list 1 (bs.map cByte), .fn 234 0 []] (.tup [.agg (cCert (parseR certR zCert bs).1), .int .i64 (parseR certR zCert bs).2]) := by
  obtain ⟨c, b, e, ec⟩ : ∃ (c : CertD) (b : List UInt8) (e : Int), certR (bs, 0) = (c, (b, e)) := ⟨_, _, _, rfl⟩
  have hb : b.length ≤ 8388609 := by
    have h := certR_len (bs, 0)
    rw [ec] at h
    have h' : b.length ≤ bs.length := h
    omega
  refine mkS 28 [] Tryz.func233 rfl (by kernel_rfl) ?_
  repeat'
    (conv => arg 2; whnf)
    first
    | refine okAsk (by kernel_rfl) ?_
    | refine okCall [] (rdRead_s bs (by omega)) (.mk' rfl trivial) (Cos.refl _) rfl ?_
    | refine okRd 2 (bs, 0) (b, e) (.agg (cCert c)) mtCert_s (by show bs.length ≤ _; omega) (congrArg Prod.snd ec).symm (congrArg (fun r : CertD × RS => D.agg (cCert r.1)) ec).symm ⟨⟨rfl, rfl⟩, trivial⟩ (Cos.refl _) rfl ?_
    | refine okRd 2 (b, e) (b, e) (.int .i64 (doneR (b, e))) rdDone_s hb rfl rfl ⟨⟨rfl, rfl⟩, trivial⟩ (Cos.refl _) rfl ?_
    | refine okBoth ?_ ?_
    | refine okBrT ?_
    | refine okBrF ?_
    | refine okBr (fun h => ?_) (fun h => ?_)
    | (have g : parseR certR zCert bs = (zCert, 3) := parse_big (by simp at h; omega)
       rw [g]; refine endFn0 (.inr rfl) rfl (Cos.mkTup (Cos.cons (Cos.mkAgg (Cos.cons (.refl _) (Cos.cons (.refl _) (Cos.cons (.nil _) .nil)))) (Cos.cons (.refl _) .nil))) rfl)
    | (have g : parseR certR zCert bs = (zCert, doneR (b, e)) := parse_bad (by simp_all <;> omega) ec (by simp_all)
       rw [g]; refine endFn0 (.inr rfl) rfl (Cos.mkTup (Cos.cons (Cos.mkAgg (Cos.cons (.refl _) (Cos.cons (.refl _) (Cos.cons (.nil _) .nil)))) (Cos.cons (.refl _) .nil))) rfl)
    | (have g : parseR certR zCert bs = (c, 0) := parse_ok (by simp_all <;> omega) ec (by simp_all)
       rw [g]; refine endFn0 (.inr rfl) rfl (.refl _) rfl)
theorem mParseCert_s [Wd] (bs : List UInt8) (hl : bs.length ≤ 4194304) : FnP Tryz.prog 173 [.list 1 (bs.map cByte)] (.tup [.agg (cCert (parseR certR zCert bs).1), .int .i64 (parseR certR zCert bs).2]) := by
  refine mkS 8 [] Tryz.func173 rfl (by kernel_rfl) ?_
  repeat'
    (conv => arg 2; whnf)
    first
    | refine okAsk (by kernel_rfl) ?_
    | refine okFn (mparseCert_s bs hl) rfl (Cos.refl _) ?_
    | refine endFn0 (.inr rfl) rfl (.refl _) rfl
end Go.Proofs.YteaggenihhaajaaGreat

/- A header, read by package block, over data; what package state reads within byte strings: headers, certificates. -/
namespace Go.Proofs.YteaggenihhaajaaGreat
open Go.RowKit
set_option linter.unusedVariables false
set_option maxRecDepth 20000

theorem takeR_pair (n : Nat) (s : RS) : ∃ (x b : List UInt8) (e : Int), takeR n s = (x, (b, e)) ∧ b.length ≤ s.1.length ∧ x.length ≤ n := by
  refine ⟨(takeR n s).1, (takeR n s).2.1, (takeR n s).2.2, rfl, takeR_len n s, ?_⟩
  unfold takeR
  split
  · split
    · exact Nat.zero_le _
    · split
      · exact Nat.zero_le _
      · rw [List.length_take, Int.toNat_natCast]; omega
  · exact Nat.zero_le _
theorem bytesR_pair (most : Nat) (s : RS) : ∃ (x b : List UInt8) (e : Int), bytesR most s = (x, (b, e)) ∧ b.length ≤ s.1.length ∧ x.length ≤ most := by
  obtain ⟨n, b, e, en, h1, h2⟩ := numR_pair most s
  obtain ⟨x, b2, e2, ex, h3, h4⟩ := takeR_pair n (b, e)
  refine ⟨x, b2, e2, ?_, Nat.le_trans h3 h2, Nat.le_trans h4 h1⟩
  unfold bytesR
  rw [en]
  exact ex
def zHd : HeaderD := ⟨0, 0, 0, 0, 0⟩
/-- the header of bytes, as package block reads it -/
def hdR (b : List UInt8) : HeaderD × Int :=
  let k := takeR (1 : Nat) (b, 0)
  let n1 := numR MX k.2
  let n2 := numR MX n1.2
  let n3 := numR MX n2.2
  let n4 := numR MX n3.2
  let n5 := numR MX n4.2
  if doneR n5.2 = 0 ∧ k.1 = [3] then (⟨n1.1, n2.1, n3.1, n4.1, n5.1⟩, 0) else (zHd, 90)
theorem bkParse1_s [Wd] (s : RS) (hs : s.1.length ≤ 8388609) : FnS Tryz.prog 231 [.ptr 0 0] [.cells 91 [.ptr 1 0], .cells 164 [.list 1 (s.1.map cByte), .int .i64 s.2, .bool true]] (fun r h => r = .int .i64 ((numR MX s).1 : Int) ∧ h = [.cells 91 [.ptr 1 0], .cells 164 [.list 1 ((numR MX s).2.1.map cByte), .int .i64 (numR MX s).2.2, .bool true]]) := by
  have h1 : (numR MX s).1 ≤ 9007199254740992 := numR_le MX s
  refine mkS 5 [] Tryz.func231 rfl (by kernel_rfl) ?_
  repeat'
    (conv => arg 2; whnf)
    first
    | refine okAsk (by kernel_rfl) ?_
    | refine okWrap (w64 (by omega) (by omega)) ?_
    | refine okRd 1 s (numR MX s).2 (.int .u64 ((numR MX s).1 : Int)) (rdNum_s MX) hs rfl rfl ⟨⟨rfl, rfl⟩, trivial⟩ (Cos.refl _) rfl ?_
    | refine endObj [0, 1] (.inr rfl) rfl rfl ⟨⟨rfl, rfl⟩, ⟨rfl, rfl⟩, trivial⟩ ⟨⟨rfl, rfl⟩, ⟨rfl, rfl⟩, trivial⟩ (.refl _)
theorem bkParse_s [Wd] (bs : List UInt8) (hl : bs.length ≤ 4194304) : FnP Tryz.prog 167 [.list 1 (bs.map cByte)] (.tup [.agg (cHeader (hdR bs).1), .int .i64 (hdR bs).2]) := by
  obtain ⟨k, b0, e0, ek, k0, kl⟩ := takeR_pair 1 (bs, 0)
  replace k0 : b0.length ≤ bs.length := k0
  have q0 : b0.length ≤ 8388609 := by omega
  obtain ⟨n1, b1, e1, en1, m1, k1⟩ := numR_pair MX (b0, e0)
  replace k1 : b1.length ≤ b0.length := k1
  have q1 : b1.length ≤ 8388609 := by omega
  obtain ⟨n2, b2, e2, en2, m2, k2⟩ := numR_pair MX (b1, e1)
  replace k2 : b2.length ≤ b1.length := k2
  have q2 : b2.length ≤ 8388609 := by omega
  obtain ⟨n3, b3, e3, en3, m3, k3⟩ := numR_pair MX (b2, e2)
  replace k3 : b3.length ≤ b2.length := k3
  have q3 : b3.length ≤ 8388609 := by omega
  obtain ⟨n4, b4, e4, en4, m4, k4⟩ := numR_pair MX (b3, e3)
  replace k4 : b4.length ≤ b3.length := k4
  have q4 : b4.length ≤ 8388609 := by omega
  obtain ⟨n5, b5, e5, en5, m5, k5⟩ := numR_pair MX (b4, e4)
  replace k5 : b5.length ≤ b4.length := k5
  have q5 : b5.length ≤ 8388609 := by omega
  replace m1 : n1 ≤ 9007199254740992 := m1
  have eR : hdR bs = if doneR (b5, e5) = 0 ∧ k = [3] then (⟨n1, n2, n3, n4, n5⟩, 0) else (zHd, 90) := by unfold hdR; simp only [ek, en1, en2, en3, en4, en5]
  have cl : ∀ {n m : Nat} {b b' : List UInt8} {e e' : Int}, numR MX (b, e) = (n, (b', e')) → b.length ≤ 8388609 → FnS Tryz.prog 231 [.ptr 0 0] [.cells 91 [.ptr 1 0], .cells 164 [.list 1 (b.map cByte), .int .i64 e, .bool true]] (fun r h => r = .int .i64 (n : Int) ∧ h = [.cells 91 [.ptr 1 0], .cells 164 [.list 1 (b'.map cByte), .int .i64 e', .bool true]]) := fun {n m b b' e e'} h hb => by
    have := bkParse1_s (b, e) hb
    rw [h] at this
    exact this
  refine mkS 40 [] Tryz.func167 rfl (by kernel_rfl) ?_
  repeat'
    (conv => arg 2; whnf)
    first
    | refine okAsk (by kernel_rfl) ?_
    | refine okWrap (w64 (by omega) (by omega)) ?_
    | refine okCall [] (rdRead_s bs (by omega)) (.mk' rfl trivial) (Cos.refl _) rfl ?_
    | refine okRd 1 (bs, 0) (b0, e0) (.list 1 (k.map cByte)) (rdTake_s 1) (by show bs.length ≤ _; omega) (congrArg Prod.snd ek).symm (congrArg (fun r : List UInt8 × RS => D.list 1 (r.1.map cByte)) ek).symm ⟨⟨rfl, rfl⟩, trivial⟩ (Cos.refl _) rfl ?_
    | refine okRd 1 (b0, e0) (b1, e1) (.int .u64 (n1 : Int)) (rdNum_s MX) q0 (congrArg Prod.snd en1).symm (congrArg (fun r : Nat × RS => D.int .u64 (r.1 : Int)) en1).symm ⟨⟨rfl, rfl⟩, trivial⟩ (Cos.refl _) rfl ?_
    | refine okCall [2, 1] (cl (m := 0) en2 q1) (.mk' rfl ⟨⟨rfl, rfl⟩, ⟨rfl, rfl⟩, trivial⟩) (Cos.refl _) rfl ?_
    | refine okCall [2, 1] (cl (m := 0) en3 q2) (.mk' rfl ⟨⟨rfl, rfl⟩, ⟨rfl, rfl⟩, trivial⟩) (Cos.refl _) rfl ?_
    | refine okCall [2, 1] (cl (m := 0) en4 q3) (.mk' rfl ⟨⟨rfl, rfl⟩, ⟨rfl, rfl⟩, trivial⟩) (Cos.refl _) rfl ?_
    | refine okCall [2, 1] (cl (m := 0) en5 q4) (.mk' rfl ⟨⟨rfl, rfl⟩, ⟨rfl, rfl⟩, trivial⟩) (Cos.refl _) rfl ?_
    | refine okRd 1 (b5, e5) (b5, e5) (.int .i64 (doneR (b5, e5))) rdDone_s q5 rfl rfl ⟨⟨rfl, rfl⟩, trivial⟩ (Cos.refl _) rfl ?_
    | refine okFn (bEq_s k [3] (by omega) (by decide)) rfl (Cos.refl _) ?_
    | refine okBoth ?_ ?_
    | refine okBrT ?_
    | refine okBrF ?_
    | refine okBr (fun h => ?_) (fun h => ?_)
    | (have g : hdR bs = (zHd, 90) := by (rw [eR]; first | (exact if_neg (fun g => by rw [g.1] at h; cases h)) | (exact if_neg (fun g => by rw [eqB_true g.2] at h; cases h)))
       rw [g]; refine endFn0 (.inr rfl) rfl (.refl _) rfl)
    | (have g : hdR bs = (⟨n1, n2, n3, n4, n5⟩, 0) := by (rw [eR]; refine if_pos ⟨?_, ?_⟩; simp_all; first | (exact eqB_iff.1 (by simp_all)) | simp_all)
       rw [g]; refine endFn0 (.inr rfl) rfl (.refl _) rfl)
end Go.Proofs.YteaggenihhaajaaGreat

/- What package state reads within byte strings; lists of nothing; over data (printed by gen_dp.py). -/
namespace Go.Proofs.YteaggenihhaajaaGreat
open Go.RowKit
set_option linter.unusedVariables false
set_option maxRecDepth 20000

/-- what a byte string says -/
def withinR {α : Type} (p : List UInt8 → α × Int) (z : α) (s : RS) : α × RS :=
  if (bytesR 4194304 s).2.2 = 0 then ((p (bytesR 4194304 s).1).1, if (p (bytesR 4194304 s).1).2 = 0 then (bytesR 4194304 s).2 else ((bytesR 4194304 s).2.1, 200)) else (z, (bytesR 4194304 s).2)
theorem withinHeader_s [Wd] : FnR 166 (.agg [.ptr 0 0]) [.fn 167 0 []] (fun s => .agg (cHeader (withinR hdR zHd s).1)) (fun s => (withinR hdR zHd s).2) := by
  intro s hs
  obtain ⟨x, b, e, ex, h1, h2⟩ := bytesR_pair 4194304 s
  have hb : b.length ≤ 8388609 := by omega
  obtain ⟨v, k, ev⟩ : ∃ (v : HeaderD) (k : Int), hdR x = (v, k) := ⟨_, _, rfl⟩
  have eR : withinR hdR zHd s = if e = 0 then (v, if k = 0 then (b, e) else (b, 200)) else (zHd, (b, e)) := by unfold withinR; simp only [ex, ev]
  have hc : FnP Tryz.prog 167 [.list 1 (x.map cByte)] (.tup [.agg (cHeader v), .int .i64 k]) := by
    have := bkParse_s x h2
    rw [ev] at this
    exact this
  refine mkS 28 [] Tryz.func166 rfl (by kernel_rfl) ?_
  repeat'
    (conv => arg 2; whnf)
    first
    | refine okAsk (by kernel_rfl) ?_
    | refine okRd 0 s (b, e) (.list 1 (x.map cByte)) tkStr_s hs (congrArg Prod.snd ex).symm (congrArg (fun r : List UInt8 × RS => D.list 1 (r.1.map cByte)) ex).symm ⟨⟨rfl, rfl⟩, trivial⟩ (Cos.refl _) rfl ?_
    | refine okRd 0 (b, e) (b, e) (.int .i64 e) rdErr_s hb rfl rfl ⟨⟨rfl, rfl⟩, trivial⟩ (Cos.refl _) rfl ?_
    | refine okFn hc rfl (Cos.refl _) ?_
    | refine okBoth ?_ ?_
    | refine okBrT ?_
    | refine okBrF ?_
    | refine okBr (fun h => ?_) (fun h => ?_)
    | refine okRd 0 (b, e) (b, 200) (.tup []) (rdFail_s 200) hb (by unfold failR; rw [if_pos (by simp_all)]) rfl ⟨⟨rfl, rfl⟩, trivial⟩ (Cos.refl _) rfl ?_
    | (have g : withinR hdR zHd s = (zHd, (b, e)) := by (rw [eR]; exact if_neg (fun g => by rw [g] at h; cases h))
       refine endRd (d := .agg (cHeader zHd)) (.inr rfl) rfl ⟨⟨rfl, rfl⟩, trivial⟩ rfl (.refl _) (congrArg Prod.snd g).symm (congrArg (fun r : HeaderD × RS => D.agg (cHeader r.1)) g).symm)
    | (have g : withinR hdR zHd s = (v, (b, 200)) := by (rw [eR, if_pos (by simp_all)]; exact congrArg (Prod.mk v) (if_neg (fun g => by rw [g] at h; cases h)))
       refine endRd (d := .agg (cHeader v)) (.inr rfl) rfl ⟨⟨rfl, rfl⟩, trivial⟩ rfl (.refl _) (congrArg Prod.snd g).symm (congrArg (fun r : HeaderD × RS => D.agg (cHeader r.1)) g).symm)
    | (have g : withinR hdR zHd s = (v, (b, e)) := by (rw [eR, if_pos (by simp_all)]; exact congrArg (Prod.mk v) (if_pos (by simp_all)))
       refine endRd (d := .agg (cHeader v)) (.inr rfl) rfl ⟨⟨rfl, rfl⟩, trivial⟩ rfl (.refl _) (congrArg Prod.snd g).symm (congrArg (fun r : HeaderD × RS => D.agg (cHeader r.1)) g).symm)
theorem tkHeader_s [Wd] : FnR 82 (.agg [.ptr 0 0]) [] (fun s => .agg (cHeader (withinR hdR zHd s).1)) (fun s => (withinR hdR zHd s).2) := by
  intro s hs
  refine mkS 5 [] Tryz.func82 rfl (by kernel_rfl) ?_
  repeat'
    (conv => arg 2; whnf)
    first
    | refine okAsk (by kernel_rfl) ?_
    | refine okRd 0 s (withinR hdR zHd s).2 (.agg (cHeader (withinR hdR zHd s).1)) withinHeader_s hs rfl rfl ⟨⟨rfl, rfl⟩, trivial⟩ (Cos.refl _) rfl ?_
    | refine endRd (d := .agg (cHeader (withinR hdR zHd s).1)) (.inr rfl) rfl ⟨⟨rfl, rfl⟩, trivial⟩ rfl (.refl _) rfl rfl
theorem withinCert_s [Wd] : FnR 172 (.agg [.ptr 0 0]) [.fn 173 0 []] (fun s => .agg (cCert (withinR (parseR certR zCert) zCert s).1)) (fun s => (withinR (parseR certR zCert) zCert s).2) := by
  intro s hs
  obtain ⟨x, b, e, ex, h1, h2⟩ := bytesR_pair 4194304 s
  have hb : b.length ≤ 8388609 := by omega
  obtain ⟨v, k, ev⟩ : ∃ (v : CertD) (k : Int), (parseR certR zCert) x = (v, k) := ⟨_, _, rfl⟩
  have eR : withinR (parseR certR zCert) zCert s = if e = 0 then (v, if k = 0 then (b, e) else (b, 200)) else (zCert, (b, e)) := by unfold withinR; simp only [ex, ev]
  have hc : FnP Tryz.prog 173 [.list 1 (x.map cByte)] (.tup [.agg (cCert v), .int .i64 k]) := by
    have := mParseCert_s x h2
    rw [ev] at this
    exact this
  refine mkS 28 [] Tryz.func172 rfl (by kernel_rfl) ?_
  repeat'
    (conv => arg 2; whnf)
    first
    | refine okAsk (by kernel_rfl) ?_
    | refine okRd 0 s (b, e) (.list 1 (x.map cByte)) tkStr_s hs (congrArg Prod.snd ex).symm (congrArg (fun r : List UInt8 × RS => D.list 1 (r.1.map cByte)) ex).symm ⟨⟨rfl, rfl⟩, trivial⟩ (Cos.refl _) rfl ?_
    | refine okRd 0 (b, e) (b, e) (.int .i64 e) rdErr_s hb rfl rfl ⟨⟨rfl, rfl⟩, trivial⟩ (Cos.refl _) rfl ?_
    | refine okFn hc rfl (Cos.refl _) ?_
    | refine okBoth ?_ ?_
    | refine okBrT ?_
    | refine okBrF ?_
    | refine okBr (fun h => ?_) (fun h => ?_)
    | refine okRd 0 (b, e) (b, 200) (.tup []) (rdFail_s 200) hb (by unfold failR; rw [if_pos (by simp_all)]) rfl ⟨⟨rfl, rfl⟩, trivial⟩ (Cos.refl _) rfl ?_
    | (have g : withinR (parseR certR zCert) zCert s = (zCert, (b, e)) := by (rw [eR]; exact if_neg (fun g => by rw [g] at h; cases h))
       refine endRd (d := .agg (cCert zCert)) (.inr rfl) rfl ⟨⟨rfl, rfl⟩, trivial⟩ rfl (Cos.mkAgg (Cos.cons (.refl _) (Cos.cons (.refl _) (Cos.cons (.nil _) .nil)))) (congrArg Prod.snd g).symm (congrArg (fun r : CertD × RS => D.agg (cCert r.1)) g).symm)
    | (have g : withinR (parseR certR zCert) zCert s = (v, (b, 200)) := by (rw [eR, if_pos (by simp_all)]; exact congrArg (Prod.mk v) (if_neg (fun g => by rw [g] at h; cases h)))
       refine endRd (d := .agg (cCert v)) (.inr rfl) rfl ⟨⟨rfl, rfl⟩, trivial⟩ rfl (.refl _) (congrArg Prod.snd g).symm (congrArg (fun r : CertD × RS => D.agg (cCert r.1)) g).symm)
    | (have g : withinR (parseR certR zCert) zCert s = (v, (b, e)) := by (rw [eR, if_pos (by simp_all)]; exact congrArg (Prod.mk v) (if_pos (by simp_all)))
       refine endRd (d := .agg (cCert v)) (.inr rfl) rfl ⟨⟨rfl, rfl⟩, trivial⟩ rfl (.refl _) (congrArg Prod.snd g).symm (congrArg (fun r : CertD × RS => D.agg (cCert r.1)) g).symm)
theorem tkCert_s [Wd] : FnR 86 (.agg [.ptr 0 0]) [] (fun s => .agg (cCert (withinR (parseR certR zCert) zCert s).1)) (fun s => (withinR (parseR certR zCert) zCert s).2) := by
  intro s hs
  refine mkS 5 [] Tryz.func86 rfl (by kernel_rfl) ?_
  repeat'
    (conv => arg 2; whnf)
    first
    | refine okAsk (by kernel_rfl) ?_
    | refine okRd 0 s (withinR (parseR certR zCert) zCert s).2 (.agg (cCert (withinR (parseR certR zCert) zCert s).1)) withinCert_s hs rfl rfl ⟨⟨rfl, rfl⟩, trivial⟩ (Cos.refl _) rfl ?_
    | refine endRd (d := .agg (cCert (withinR (parseR certR zCert) zCert s).1)) (.inr rfl) rfl ⟨⟨rfl, rfl⟩, trivial⟩ rfl (.refl _) rfl rfl
theorem takes0Block_s [Wd] {s : RS} {b : List UInt8} {e : Int} (hs : s.1.length ≤ 8388609) (h : numR 4096 s = (0, (b, e))) : FnS Tryz.prog 83 [.agg [.ptr 0 0], .fn 84 0 []] (oRd s) (fun r h => r = .list 7 [] ∧ h = oRd (b, e)) := by
  refine mkS 27 [] Tryz.func83 rfl (by kernel_rfl) ?_
  repeat'
    (conv => arg 2; whnf)
    first
    | refine okAsk (by kernel_rfl) ?_
    | refine okRd 0 s (b, e) (.int .u64 0) (rdNum_s 4096) hs (congrArg Prod.snd h).symm (congrArg (fun r : Nat × RS => D.int .u64 (r.1 : Int)) h).symm ⟨⟨rfl, rfl⟩, trivial⟩ (Cos.refl _) rfl ?_
  conv => arg 2; whnf
  refine okLoop (α := Unit) (fun _ => ⟨[(6, .int .u64 0), (5, .nils), (2, .ptr 1 0), (1, .fn 84 0 [])], [.cells 164 [.list 1 (b.map cByte), .int .i64 e, .bool true], .cells 94 [.ptr 0 0]]⟩) (fun _ => True) (fun _ => 0) () trivial (Sv.mk' [0, 1] rfl ⟨⟨rfl, rfl⟩, ⟨rfl, rfl⟩, trivial⟩ ⟨rfl, rfl, rfl, rfl, trivial⟩) ?_
  rintro _ _
  repeat'
    (conv => arg 2; whnf)
    first
    | refine okBrT ?_
    | refine okBrF ?_
    | refine okOut ?_
    | refine endRd (d := .list 7 []) (.inr rfl) rfl ⟨⟨rfl, rfl⟩, trivial⟩ rfl (.nil _) rfl rfl
theorem takes0Vote_s [Wd] {s : RS} {b : List UInt8} {e : Int} (hs : s.1.length ≤ 8388609) (h : numR 4096 s = (0, (b, e))) : FnS Tryz.prog 87 [.agg [.ptr 0 0], .fn 88 0 []] (oRd s) (fun r h => r = .list 4 [] ∧ h = oRd (b, e)) := by
  refine mkS 27 [] Tryz.func87 rfl (by kernel_rfl) ?_
  repeat'
    (conv => arg 2; whnf)
    first
    | refine okAsk (by kernel_rfl) ?_
    | refine okRd 0 s (b, e) (.int .u64 0) (rdNum_s 4096) hs (congrArg Prod.snd h).symm (congrArg (fun r : Nat × RS => D.int .u64 (r.1 : Int)) h).symm ⟨⟨rfl, rfl⟩, trivial⟩ (Cos.refl _) rfl ?_
  conv => arg 2; whnf
  refine okLoop (α := Unit) (fun _ => ⟨[(6, .int .u64 0), (5, .nils), (2, .ptr 1 0), (1, .fn 88 0 [])], [.cells 164 [.list 1 (b.map cByte), .int .i64 e, .bool true], .cells 94 [.ptr 0 0]]⟩) (fun _ => True) (fun _ => 0) () trivial (Sv.mk' [0, 1] rfl ⟨⟨rfl, rfl⟩, ⟨rfl, rfl⟩, trivial⟩ ⟨rfl, rfl, rfl, rfl, trivial⟩) ?_
  rintro _ _
  repeat'
    (conv => arg 2; whnf)
    first
    | refine okBrT ?_
    | refine okBrF ?_
    | refine okOut ?_
    | refine endRd (d := .list 4 []) (.inr rfl) rfl ⟨⟨rfl, rfl⟩, trivial⟩ rfl (.nil _) rfl rfl
theorem takes0Cert_s [Wd] {s : RS} {b : List UInt8} {e : Int} (hs : s.1.length ≤ 8388609) (h : numR 4096 s = (0, (b, e))) : FnS Tryz.prog 89 [.agg [.ptr 0 0], .fn 86 0 []] (oRd s) (fun r h => r = .list 3 [] ∧ h = oRd (b, e)) := by
  refine mkS 27 [] Tryz.func89 rfl (by kernel_rfl) ?_
  repeat'
    (conv => arg 2; whnf)
    first
    | refine okAsk (by kernel_rfl) ?_
    | refine okRd 0 s (b, e) (.int .u64 0) (rdNum_s 4096) hs (congrArg Prod.snd h).symm (congrArg (fun r : Nat × RS => D.int .u64 (r.1 : Int)) h).symm ⟨⟨rfl, rfl⟩, trivial⟩ (Cos.refl _) rfl ?_
  conv => arg 2; whnf
  refine okLoop (α := Unit) (fun _ => ⟨[(6, .int .u64 0), (5, .nils), (2, .ptr 1 0), (1, .fn 86 0 [])], [.cells 164 [.list 1 (b.map cByte), .int .i64 e, .bool true], .cells 94 [.ptr 0 0]]⟩) (fun _ => True) (fun _ => 0) () trivial (Sv.mk' [0, 1] rfl ⟨⟨rfl, rfl⟩, ⟨rfl, rfl⟩, trivial⟩ ⟨rfl, rfl, rfl, rfl, trivial⟩) ?_
  rintro _ _
  repeat'
    (conv => arg 2; whnf)
    first
    | refine okBrT ?_
    | refine okBrF ?_
    | refine okOut ?_
    | refine endRd (d := .list 3 []) (.inr rfl) rfl ⟨⟨rfl, rfl⟩, trivial⟩ rfl (.nil _) rfl rfl
theorem takes0Slot_s [Wd] {s : RS} {b : List UInt8} {e : Int} (hs : s.1.length ≤ 8388609) (h : numR 4096 s = (0, (b, e))) : FnS Tryz.prog 92 [.agg [.ptr 0 0], .fn 93 0 []] (oRd s) (fun r h => r = .list 8 [] ∧ h = oRd (b, e)) := by
  refine mkS 27 [] Tryz.func92 rfl (by kernel_rfl) ?_
  repeat'
    (conv => arg 2; whnf)
    first
    | refine okAsk (by kernel_rfl) ?_
    | refine okRd 0 s (b, e) (.int .u64 0) (rdNum_s 4096) hs (congrArg Prod.snd h).symm (congrArg (fun r : Nat × RS => D.int .u64 (r.1 : Int)) h).symm ⟨⟨rfl, rfl⟩, trivial⟩ (Cos.refl _) rfl ?_
  conv => arg 2; whnf
  refine okLoop (α := Unit) (fun _ => ⟨[(6, .int .u64 0), (5, .nils), (2, .ptr 1 0), (1, .fn 93 0 [])], [.cells 164 [.list 1 (b.map cByte), .int .i64 e, .bool true], .cells 94 [.ptr 0 0]]⟩) (fun _ => True) (fun _ => 0) () trivial (Sv.mk' [0, 1] rfl ⟨⟨rfl, rfl⟩, ⟨rfl, rfl⟩, trivial⟩ ⟨rfl, rfl, rfl, rfl, trivial⟩) ?_
  rintro _ _
  repeat'
    (conv => arg 2; whnf)
    first
    | refine okBrT ?_
    | refine okBrF ?_
    | refine okOut ?_
    | refine endRd (d := .list 8 []) (.inr rfl) rfl ⟨⟨rfl, rfl⟩, trivial⟩ rfl (.nil _) rfl rfl
theorem takes0Prepared_s [Wd] {s : RS} {b : List UInt8} {e : Int} (hs : s.1.length ≤ 8388609) (h : numR 4096 s = (0, (b, e))) : FnS Tryz.prog 94 [.agg [.ptr 0 0], .fn 95 0 []] (oRd s) (fun r h => r = .list 7 [] ∧ h = oRd (b, e)) := by
  refine mkS 27 [] Tryz.func94 rfl (by kernel_rfl) ?_
  repeat'
    (conv => arg 2; whnf)
    first
    | refine okAsk (by kernel_rfl) ?_
    | refine okRd 0 s (b, e) (.int .u64 0) (rdNum_s 4096) hs (congrArg Prod.snd h).symm (congrArg (fun r : Nat × RS => D.int .u64 (r.1 : Int)) h).symm ⟨⟨rfl, rfl⟩, trivial⟩ (Cos.refl _) rfl ?_
  conv => arg 2; whnf
  refine okLoop (α := Unit) (fun _ => ⟨[(6, .int .u64 0), (5, .nils), (2, .ptr 1 0), (1, .fn 95 0 [])], [.cells 164 [.list 1 (b.map cByte), .int .i64 e, .bool true], .cells 94 [.ptr 0 0]]⟩) (fun _ => True) (fun _ => 0) () trivial (Sv.mk' [0, 1] rfl ⟨⟨rfl, rfl⟩, ⟨rfl, rfl⟩, trivial⟩ ⟨rfl, rfl, rfl, rfl, trivial⟩) ?_
  rintro _ _
  repeat'
    (conv => arg 2; whnf)
    first
    | refine okBrT ?_
    | refine okBrF ?_
    | refine okOut ?_
    | refine endRd (d := .list 7 []) (.inr rfl) rfl ⟨⟨rfl, rfl⟩, trivial⟩ rfl (.nil _) rfl rfl
theorem takes0Change_s [Wd] {s : RS} {b : List UInt8} {e : Int} (hs : s.1.length ≤ 8388609) (h : numR 4096 s = (0, (b, e))) : FnS Tryz.prog 96 [.agg [.ptr 0 0], .fn 97 0 []] (oRd s) (fun r h => r = .list 8 [] ∧ h = oRd (b, e)) := by
  refine mkS 27 [] Tryz.func96 rfl (by kernel_rfl) ?_
  repeat'
    (conv => arg 2; whnf)
    first
    | refine okAsk (by kernel_rfl) ?_
    | refine okRd 0 s (b, e) (.int .u64 0) (rdNum_s 4096) hs (congrArg Prod.snd h).symm (congrArg (fun r : Nat × RS => D.int .u64 (r.1 : Int)) h).symm ⟨⟨rfl, rfl⟩, trivial⟩ (Cos.refl _) rfl ?_
  conv => arg 2; whnf
  refine okLoop (α := Unit) (fun _ => ⟨[(6, .int .u64 0), (5, .nils), (2, .ptr 1 0), (1, .fn 97 0 [])], [.cells 164 [.list 1 (b.map cByte), .int .i64 e, .bool true], .cells 94 [.ptr 0 0]]⟩) (fun _ => True) (fun _ => 0) () trivial (Sv.mk' [0, 1] rfl ⟨⟨rfl, rfl⟩, ⟨rfl, rfl⟩, trivial⟩ ⟨rfl, rfl, rfl, rfl, trivial⟩) ?_
  rintro _ _
  repeat'
    (conv => arg 2; whnf)
    first
    | refine okBrT ?_
    | refine okBrF ?_
    | refine okOut ?_
    | refine endRd (d := .list 8 []) (.inr rfl) rfl ⟨⟨rfl, rfl⟩, trivial⟩ rfl (.nil _) rfl rfl
theorem takes0Signed_s [Wd] {s : RS} {b : List UInt8} {e : Int} (hs : s.1.length ≤ 8388609) (h : numR 4096 s = (0, (b, e))) : FnS Tryz.prog 98 [.agg [.ptr 0 0], .fn 99 0 []] (oRd s) (fun r h => r = .list 9 [] ∧ h = oRd (b, e)) := by
  refine mkS 27 [] Tryz.func98 rfl (by kernel_rfl) ?_
  repeat'
    (conv => arg 2; whnf)
    first
    | refine okAsk (by kernel_rfl) ?_
    | refine okRd 0 s (b, e) (.int .u64 0) (rdNum_s 4096) hs (congrArg Prod.snd h).symm (congrArg (fun r : Nat × RS => D.int .u64 (r.1 : Int)) h).symm ⟨⟨rfl, rfl⟩, trivial⟩ (Cos.refl _) rfl ?_
  conv => arg 2; whnf
  refine okLoop (α := Unit) (fun _ => ⟨[(6, .int .u64 0), (5, .nils), (2, .ptr 1 0), (1, .fn 99 0 [])], [.cells 164 [.list 1 (b.map cByte), .int .i64 e, .bool true], .cells 94 [.ptr 0 0]]⟩) (fun _ => True) (fun _ => 0) () trivial (Sv.mk' [0, 1] rfl ⟨⟨rfl, rfl⟩, ⟨rfl, rfl⟩, trivial⟩ ⟨rfl, rfl, rfl, rfl, trivial⟩) ?_
  rintro _ _
  repeat'
    (conv => arg 2; whnf)
    first
    | refine okBrT ?_
    | refine okBrF ?_
    | refine okOut ?_
    | refine endRd (d := .list 9 []) (.inr rfl) rfl ⟨⟨rfl, rfl⟩, trivial⟩ rfl (.nil _) rfl rfl
theorem takes0Msg_s [Wd] {s : RS} {b : List UInt8} {e : Int} (hs : s.1.length ≤ 8388609) (h : numR 4096 s = (0, (b, e))) : FnS Tryz.prog 100 [.agg [.ptr 0 0], .fn 101 0 []] (oRd s) (fun r h => r = .list 30 [] ∧ h = oRd (b, e)) := by
  refine mkS 27 [] Tryz.func100 rfl (by kernel_rfl) ?_
  repeat'
    (conv => arg 2; whnf)
    first
    | refine okAsk (by kernel_rfl) ?_
    | refine okRd 0 s (b, e) (.int .u64 0) (rdNum_s 4096) hs (congrArg Prod.snd h).symm (congrArg (fun r : Nat × RS => D.int .u64 (r.1 : Int)) h).symm ⟨⟨rfl, rfl⟩, trivial⟩ (Cos.refl _) rfl ?_
  conv => arg 2; whnf
  refine okLoop (α := Unit) (fun _ => ⟨[(6, .int .u64 0), (5, .nils), (2, .ptr 1 0), (1, .fn 101 0 [])], [.cells 164 [.list 1 (b.map cByte), .int .i64 e, .bool true], .cells 94 [.ptr 0 0]]⟩) (fun _ => True) (fun _ => 0) () trivial (Sv.mk' [0, 1] rfl ⟨⟨rfl, rfl⟩, ⟨rfl, rfl⟩, trivial⟩ ⟨rfl, rfl, rfl, rfl, trivial⟩) ?_
  rintro _ _
  repeat'
    (conv => arg 2; whnf)
    first
    | refine okBrT ?_
    | refine okBrF ?_
    | refine okOut ?_
    | refine endRd (d := .list 30 []) (.inr rfl) rfl ⟨⟨rfl, rfl⟩, trivial⟩ rfl (.nil _) rfl rfl
end Go.Proofs.YteaggenihhaajaaGreat

/- Marks, read by package state, over data (printed by gen_dq.py). -/
namespace Go.Proofs.YteaggenihhaajaaGreat
open Go.RowKit
set_option linter.unusedVariables false
set_option maxRecDepth 20000

theorem u64i {e : Int} (h1 : 0 ≤ e) (h2 : e < 18446744073709551616) : IntKind.u64.wrap e = e := by
  simp only [IntKind.wrap, IntKind.signed, IntKind.bits]
  simp
  omega
theorem withinR_len {α : Type} (p : List UInt8 → α × Int) (z : α) (s : RS) : (withinR p z s).2.1.length ≤ s.1.length := by
  have h := bytesR_len 4194304 s
  unfold withinR
  split
  · show (if _ then _ else _ : RS).1.length ≤ _
    split
    · exact h
    · exact h
  · exact h
def takesR {α : Type} (p : RS → α × RS) (s : RS) : List α × RS := goR p (numR 4096 s).1 (numR 4096 s).2
def markR (s : RS) : MarkD × RS :=
  (⟨(withinR hdR zHd s).1, (bytesR 4194304 (withinR hdR zHd s).2).1⟩, (bytesR 4194304 (withinR hdR zHd s).2).2)
theorem markR_len (s : RS) : (markR s).2.1.length ≤ s.1.length := Nat.le_trans (bytesR_len _ _) (withinR_len _ _ _)
theorem tkMark_s [Wd] : FnR 91 (.agg [.ptr 0 0]) [] (fun s => .agg (cMark (markR s).1)) (fun s => (markR s).2) := by
  intro s hs
  have h1 := withinR_len hdR zHd s
  refine mkS 11 [] Tryz.func91 rfl (by kernel_rfl) ?_
  repeat'
    (conv => arg 2; whnf)
    first
    | refine okAsk (by kernel_rfl) ?_
    | refine okRd 0 s (withinR hdR zHd s).2 (.agg (cHeader (withinR hdR zHd s).1)) tkHeader_s hs rfl rfl ⟨⟨rfl, rfl⟩, trivial⟩ (Cos.refl _) rfl ?_
    | refine okRd 0 (withinR hdR zHd s).2 (markR s).2 (.list 1 ((markR s).1.topics.map cByte)) tkStr_s (by omega) rfl rfl ⟨⟨rfl, rfl⟩, trivial⟩ (Cos.refl _) rfl ?_
    | refine endRd (d := .agg (cMark (markR s).1)) (.inr rfl) rfl ⟨⟨rfl, rfl⟩, trivial⟩ rfl (.refl _) rfl rfl
theorem takesMark_s [Wd] : FnR 90 (.agg [.ptr 0 0]) [.fn 91 0 []] (fun s => .list 6 ((takesR markR s).1.map cMark)) (fun s => (takesR markR s).2) := by
  intro s0 hs
  obtain ⟨N0, b0, e0, en, hN1, hb0⟩ := numR_pair 4096 s0
  obtain ⟨N, hNN⟩ : ∃ N : Int, N = (N0 : Int) := ⟨_, rfl⟩
  have hN0 : 0 ≤ N := by omega
  have hN : N ≤ 4096 := by omega
  have eL : takesR markR s0 = goR markR N.toNat (b0, e0) := by unfold takesR; rw [en, hNN, Int.toNat_natCast]
  refine mkS 27 [] Tryz.func90 rfl (by kernel_rfl) ?_
  repeat'
    (conv => arg 2; whnf)
    first
    | refine okAsk (by kernel_rfl) ?_
    | refine okRd 0 s0 (b0, e0) (.int .u64 N) (rdNum_s 4096) hs (congrArg Prod.snd en).symm (by rw [hNN]; exact (congrArg (fun r : Nat × RS => D.int .u64 (r.1 : Int)) en).symm) ⟨⟨rfl, rfl⟩, trivial⟩ (Cos.refl _) rfl ?_
  conv => arg 2; whnf
  refine okLoop (α := Int × RS × List MarkD) (fun a => match a.2.2 with
    | [] => ⟨[(6, .int .u64 a.1), (5, .nils), (2, .ptr 1 0), (1, .fn 91 0 [])], [.cells 164 [.list 1 (a.2.1.1.map cByte), .int .i64 a.2.1.2, .bool true], .cells 94 [.ptr 0 0]]⟩
    | x :: l => ⟨[(6, .int .u64 a.1), (5, .row 2), (2, .ptr 1 0), (1, .fn 91 0 [])], [.cells 164 [.list 1 (a.2.1.1.map cByte), .int .i64 a.2.1.2, .bool true], .cells 94 [.ptr 0 0], .row 73 6 ((x :: l).map cMark)]⟩) (fun a => 0 ≤ a.1 ∧ a.1 ≤ 4096 ∧ a.2.1.1.length ≤ 8388609 ∧ a.2.2.length + a.1.toNat ≤ 4096 ∧ goR markR N.toNat (b0, e0) = (a.2.2 ++ (goR markR a.1.toNat a.2.1).1, (goR markR a.1.toNat a.2.1).2)) (fun a => a.1.toNat) (N, (b0, e0), []) ⟨hN0, by omega, by show b0.length ≤ _; omega, by simp; omega, rfl⟩ (Sv.mk' [0, 1] rfl ⟨⟨rfl, rfl⟩, ⟨rfl, rfl⟩, trivial⟩ ⟨rfl, rfl, rfl, rfl, trivial⟩) ?_
  rintro ⟨n, ⟨b, e⟩, out⟩ ⟨h0, h1, hl, ho, hg⟩
  replace h0 : 0 ≤ n := h0
  replace h1 : n ≤ 4096 := h1
  replace hl : b.length ≤ 8388609 := hl
  replace ho : out.length + n.toNat ≤ 4096 := ho
  replace hg : goR markR N.toNat (b0, e0) = (out ++ (goR markR n.toNat (b, e)).1, (goR markR n.toNat (b, e)).2) := hg
  obtain ⟨x, b2, e2, ep⟩ : ∃ (x : MarkD) (b2 : List UInt8) (e2 : Int), markR (b, e) = (x, (b2, e2)) := ⟨_, _, _, rfl⟩
  have hl2 : b2.length ≤ 8388609 := by
    have h := markR_len (b, e)
    rw [ep] at h
    exact Nat.le_trans h hl
  have hstop : (n ≤ 0 ∨ ¬ e = 0) → takesR markR s0 = (out, (b, e)) := fun h => by
    rw [eL, hg]
    rcases h with h | h
    · rw [show n.toNat = 0 by omega]; simp [goR]
    · rw [goR_stop _ _ _ h]; simp
  have hnext : 0 < n → e = 0 → goR markR N.toNat (b0, e0) = ((out ++ [x]) ++ (goR markR (n - 1).toNat (b2, e2)).1, (goR markR (n - 1).toNat (b2, e2)).2) := fun hn h => by
    rw [hg, goR_step _ hn h, ep]
    simp
  cases out with
  | nil =>
    conv => arg 2; whnf
    refine okBr (fun hn => ?_) (fun hn => ?_)
    · replace hn : 0 < n := by simpa using hn
      repeat'
        (conv => arg 2; whnf)
        first
        | refine okRd 0 (b, e) (b, e) (.int .i64 e) rdErr_s hl rfl rfl ⟨⟨rfl, rfl⟩, trivial⟩ (Cos.refl _) rfl ?_
        | refine okBoth ?_ ?_
        | refine okBrT ?_
        | refine okBrF ?_
        | refine okBr (fun h => ?_) (fun h => ?_)
        | refine okRd 0 (b, e) (b2, e2) (.agg (cMark x)) tkMark_s hl (congrArg Prod.snd ep).symm (congrArg (fun r : MarkD × RS => D.agg (cMark r.1)) ep).symm ⟨⟨rfl, rfl⟩, trivial⟩ (Cos.refl _) rfl ?_
        | refine okAsk (by constructor <;> (simp only [List.length_cons, List.length_nil]; decide)) ?_
        | refine okWrap (u64i (by show 0 ≤ n - 1; omega) (by show n - 1 < _; omega)) ?_
        | refine okAgain (n - 1, (b2, e2), [x]) (Sv.mk' [0, 1, 4] rfl ⟨⟨rfl, rfl⟩, ⟨rfl, rfl⟩, ⟨rfl, rfl⟩, trivial⟩ ⟨rfl, rfl, rfl, rfl, trivial⟩) ⟨by show 0 ≤ n - 1; omega, by show n - 1 ≤ 4096; omega, hl2, by show ([x]).length + (n - 1).toNat ≤ 4096; simp at ho ⊢; omega, hnext hn (by simpa using h)⟩ (by show (n - 1).toNat < n.toNat; omega)
        | refine okOut ?_
        | refine endRd (d := .list 6 []) (.inr rfl) rfl ⟨⟨rfl, rfl⟩, trivial⟩ rfl (.nil _) (congrArg Prod.snd (hstop (.inr (by simpa using h)))).symm (congrArg (fun r : List MarkD × RS => D.list 6 (r.1.map cMark)) (hstop (.inr (by simpa using h)))).symm
    · replace hn : n ≤ 0 := by simpa using hn
      repeat'
        (conv => arg 2; whnf)
        first
        | refine okRd 0 (b, e) (b, e) (.int .i64 e) rdErr_s hl rfl rfl ⟨⟨rfl, rfl⟩, trivial⟩ (Cos.refl _) rfl ?_
        | refine okBoth ?_ ?_
        | refine okBrT ?_
        | refine okBrF ?_
        | refine okBr (fun h => ?_) (fun h => ?_)
        | refine okOut ?_
        | refine endRd (d := .list 6 []) (.inr rfl) rfl ⟨⟨rfl, rfl⟩, trivial⟩ rfl (.nil _) (congrArg Prod.snd (hstop (.inl hn))).symm (congrArg (fun r : List MarkD × RS => D.list 6 (r.1.map cMark)) (hstop (.inl hn))).symm
  | cons y out =>
    conv => arg 2; whnf
    refine okBr (fun hn => ?_) (fun hn => ?_)
    · replace hn : 0 < n := by simpa using hn
      repeat'
        (conv => arg 2; whnf)
        first
        | refine okRd 0 (b, e) (b, e) (.int .i64 e) rdErr_s hl rfl rfl ⟨⟨rfl, rfl⟩, trivial⟩ (Cos.refl _) rfl ?_
        | refine okBoth ?_ ?_
        | refine okBrT ?_
        | refine okBrF ?_
        | refine okBr (fun h => ?_) (fun h => ?_)
        | refine okRd 0 (b, e) (b2, e2) (.agg (cMark x)) tkMark_s hl (congrArg Prod.snd ep).symm (congrArg (fun r : MarkD × RS => D.agg (cMark r.1)) ep).symm ⟨⟨rfl, rfl⟩, trivial⟩ (Cos.refl _) rfl ?_
        | refine okAsk (by constructor <;> (simp only [List.length_cons, List.length_nil, List.length_map, maxLen] at ho ⊢; omega)) ?_
        | refine okWrap (u64i (by show 0 ≤ n - 1; omega) (by show n - 1 < _; omega)) ?_
        | refine okAgain (n - 1, (b2, e2), (y :: out) ++ [x]) (Sv.mk' [0, 1, 5] rfl ⟨⟨rfl, rfl⟩, ⟨rfl, rfl⟩, ⟨rfl, by simp; rfl⟩, trivial⟩ ⟨rfl, rfl, rfl, rfl, trivial⟩) ⟨by show 0 ≤ n - 1; omega, by show n - 1 ≤ 4096; omega, hl2, by show ((y :: out) ++ [x]).length + (n - 1).toNat ≤ 4096; simp at ho ⊢; omega, hnext hn (by simpa using h)⟩ (by show (n - 1).toNat < n.toNat; omega)
        | refine okOut ?_
        | refine endRdF [2] (d := .list 6 ((y :: out).map cMark)) (.inr rfl) rfl ⟨⟨rfl, rfl⟩, trivial⟩ rfl (.refl _) (congrArg Prod.snd (hstop (.inr (by simpa using h)))).symm (congrArg (fun r : List MarkD × RS => D.list 6 (r.1.map cMark)) (hstop (.inr (by simpa using h)))).symm
    · replace hn : n ≤ 0 := by simpa using hn
      repeat'
        (conv => arg 2; whnf)
        first
        | refine okRd 0 (b, e) (b, e) (.int .i64 e) rdErr_s hl rfl rfl ⟨⟨rfl, rfl⟩, trivial⟩ (Cos.refl _) rfl ?_
        | refine okBoth ?_ ?_
        | refine okBrT ?_
        | refine okBrF ?_
        | refine okBr (fun h => ?_) (fun h => ?_)
        | refine okOut ?_
        | refine endRdF [2] (d := .list 6 ((y :: out).map cMark)) (.inr rfl) rfl ⟨⟨rfl, rfl⟩, trivial⟩ rfl (.refl _) (congrArg Prod.snd (hstop (.inl hn))).symm (congrArg (fun r : List MarkD × RS => D.list 6 (r.1.map cMark)) (hstop (.inl hn))).symm
end Go.Proofs.YteaggenihhaajaaGreat

/- The writer of package state over a whole core; state.Check, state.Bytes, over data (printed by gen_dd.py). -/
namespace Go.Proofs.YteaggenihhaajaaGreat
open Go.RowKit
set_option linter.unusedVariables false
set_option maxRecDepth 20000

set_option maxHeartbeats 4000000 in
theorem stCore_s [Wd] (c : CoreD) (hc : dCore.ok c) : FnT 17 [.agg (cCore c)] (wCore c) (262200 * tCore.sz c) := by
  intro w hb
  have q1 := mkHead_sz c.base
  have q2 := mkCert_sz c.points.stable
  unfold tCore tPoints tPool tTimer at hb
  simp only [szM, szP, szI, szY, szL, szB] at hb
  have hb0 : w.1.length + 262200 * (([c.view] : List Int).length + (1 + (([c.ticks, c.floor] : List Int).length + (1 + (((c.blocks.map tBlock.sz).sum + 1) + ((c.topics.length + 1) + (1 + (((c.points.votes.map tVote.sz).sum + 1) + (((c.points.certs.map tCert.sz).sum + 1) + (((c.certs.map tCert.sz).sum + 1) + (((c.marks.map tMark.sz).sum + 1) + (((c.slots.map tSlot.sz).sum + 1) + (((c.held.map tPrepared.sz).sum + 1) + (((c.changes.map tChange.sz).sum + 1) + (((c.pool.waiting.map tSigned.sz).sum + 1) + (([c.timer.length, c.timer.left] : List Int).length + (((c.news.map tMsg.sz).sum + 1) + (([c.wants] : List Int).length + 0)))))))))))))))))) + 1000 ≤ 140737488355328 := Nat.not_lt.1 fun _ => by (try simp only [List.length_cons, List.length_nil] at *); omega
  clear hb
  obtain ⟨w1, e1⟩ : ∃ z : WS, z = wNs [c.view] w := ⟨_, rfl⟩
  have hb1 := room_go hb0 (b := w1.1.length) (by have b := (wNs_wr [c.view]).len w; rw [← e1] at b; exact b)
  obtain ⟨w2, e2⟩ : ∃ z : WS, z = wF c.active w1 := ⟨_, rfl⟩
  have hb2 := room_go hb1 (b := w2.1.length) (by have b := (wF_wr c.active).len w1; rw [← e2] at b; exact b)
  obtain ⟨w3, e3⟩ : ∃ z : WS, z = wNs [c.ticks, c.floor] w2 := ⟨_, rfl⟩
  have hb3 := room_go hb2 (b := w3.1.length) (by have b := (wNs_wr [c.ticks, c.floor]).len w2; rw [← e3] at b; exact b)
  obtain ⟨w4, e4⟩ : ∃ z : WS, z = wM (mkHead c.base) w3 := ⟨_, rfl⟩
  have hb4 := room_go hb3 (b := w4.1.length) (by have b := (mkHead_wr c.base).len w3; rw [← e4] at b; exact b)
  obtain ⟨w5, e5⟩ : ∃ z : WS, z = wL wBlock c.blocks w4 := ⟨_, rfl⟩
  have hb5 := room_go hb4 (b := w5.1.length) (by have b := (wL_wr (f := wBlock) c.blocks fun x hx => block_wr x (hc.2.2.2.2.2.1.2 x hx)).len w4; rw [← e5] at b; exact b)
  obtain ⟨w6, e6⟩ : ∃ z : WS, z = wB c.topics w5 := ⟨_, rfl⟩
  have hb6 := room_go hb5 (b := w6.1.length) (by have b := (wB_wr c.topics hc.2.2.2.2.2.2.1).len w5; rw [← e6] at b; exact b)
  obtain ⟨w7, e7⟩ : ∃ z : WS, z = wM (mkCert c.points.stable) w6 := ⟨_, rfl⟩
  have hb7 := room_go hb6 (b := w7.1.length) (by have b := (mkCert_wr c.points.stable).len w6; rw [← e7] at b; exact b)
  obtain ⟨w8, e8⟩ : ∃ z : WS, z = wL wVote c.points.votes w7 := ⟨_, rfl⟩
  have hb8 := room_go hb7 (b := w8.1.length) (by have b := (wL_wr (f := wVote) c.points.votes fun x _ => vote_wr x).len w7; rw [← e8] at b; exact b)
  obtain ⟨w9, e9⟩ : ∃ z : WS, z = wL wCt c.points.certs w8 := ⟨_, rfl⟩
  have hb9 := room_go hb8 (b := w9.1.length) (by have b := (wL_wr (f := wCt) c.points.certs fun x _ => (mkCert_wr x).more (mkCert_sz x)).len w8; rw [← e9] at b; exact b)
  obtain ⟨w10, e10⟩ : ∃ z : WS, z = wL wCt c.certs w9 := ⟨_, rfl⟩
  have hb10 := room_go hb9 (b := w10.1.length) (by have b := (wL_wr (f := wCt) c.certs fun x _ => (mkCert_wr x).more (mkCert_sz x)).len w9; rw [← e10] at b; exact b)
  obtain ⟨w11, e11⟩ : ∃ z : WS, z = wL wMark c.marks w10 := ⟨_, rfl⟩
  have hb11 := room_go hb10 (b := w11.1.length) (by have b := (wL_wr (f := wMark) c.marks fun x hx => mark_wr x (hc.2.2.2.2.2.2.2.2.2.1.2 x hx)).len w10; rw [← e11] at b; exact b)
  obtain ⟨w12, e12⟩ : ∃ z : WS, z = wL wSlot c.slots w11 := ⟨_, rfl⟩
  have hb12 := room_go hb11 (b := w12.1.length) (by have b := (wL_wr (f := wSlot) c.slots fun x _ => slot_wr x).len w11; rw [← e12] at b; exact b)
  obtain ⟨w13, e13⟩ : ∃ z : WS, z = wL wPrep c.held w12 := ⟨_, rfl⟩
  have hb13 := room_go hb12 (b := w13.1.length) (by have b := (wL_wr (f := wPrep) c.held fun x _ => sPrep_wr x).len w12; rw [← e13] at b; exact b)
  obtain ⟨w14, e14⟩ : ∃ z : WS, z = wL wCg c.changes w13 := ⟨_, rfl⟩
  have hb14 := room_go hb13 (b := w14.1.length) (by have b := (wL_wr (f := wCg) c.changes fun x _ => (mkChg_wr x).more (mkChg_sz x)).len w13; rw [← e14] at b; exact b)
  obtain ⟨w15, e15⟩ : ∃ z : WS, z = wL wWait c.pool.waiting w14 := ⟨_, rfl⟩
  have hb15 := room_go hb14 (b := w15.1.length) (by have b := (wL_wr (f := wWait) c.pool.waiting fun x _ => (show Wr (wWait x) _ _ _ from (wBt_wr [x]).more (signed_sz x))).len w14; rw [← e15] at b; exact b)
  obtain ⟨w16, e16⟩ : ∃ z : WS, z = wNs [c.timer.length, c.timer.left] w15 := ⟨_, rfl⟩
  have hb16 := room_go hb15 (b := w16.1.length) (by have b := (wNs_wr [c.timer.length, c.timer.left]).len w15; rw [← e16] at b; exact b)
  obtain ⟨w17, e17⟩ : ∃ z : WS, z = wL wMs c.news w16 := ⟨_, rfl⟩
  have hb17 := room_go hb16 (b := w17.1.length) (by have b := (wL_wr (f := wMs) c.news fun x _ => (mkMsg_wr x).more (mkMsg_sz x)).len w16; rw [← e17] at b; exact b)
  obtain ⟨w18, e18⟩ : ∃ z : WS, z = wNs [c.wants] w17 := ⟨_, rfl⟩
  have hb18 := room_go hb17 (b := w18.1.length) (by have b := (wNs_wr [c.wants]).len w17; rw [← e18] at b; exact b)
  refine mkS 110 [] Tryz.func17 rfl (by kernel_rfl) ?_
  conv => arg 2; whnf
  refine okTr (w := w) (w' := w1) (stNum_s [c.view] (by simp)) e1 (room_le (k := ([c.view] : List Int).length) (r := (1 + (([c.ticks, c.floor] : List Int).length + (1 + (((c.blocks.map tBlock.sz).sum + 1) + ((c.topics.length + 1) + (1 + (((c.points.votes.map tVote.sz).sum + 1) + (((c.points.certs.map tCert.sz).sum + 1) + (((c.certs.map tCert.sz).sum + 1) + (((c.marks.map tMark.sz).sum + 1) + (((c.slots.map tSlot.sz).sum + 1) + (((c.held.map tPrepared.sz).sum + 1) + (((c.changes.map tChange.sz).sum + 1) + (((c.pool.waiting.map tSigned.sz).sum + 1) + (([c.timer.length, c.timer.left] : List Int).length + (((c.news.map tMsg.sz).sum + 1) + (([c.wants] : List Int).length + 0)))))))))))))))))) hb0 (num_m _)) ⟨⟨rfl, rfl⟩, trivial⟩ (Cos.refl _) rfl ?_
  conv => arg 2; whnf
  refine okTr (w := w1) (w' := w2) (stFlag_s c.active) e2 (room_le (k := 1) (r := (([c.ticks, c.floor] : List Int).length + (1 + (((c.blocks.map tBlock.sz).sum + 1) + ((c.topics.length + 1) + (1 + (((c.points.votes.map tVote.sz).sum + 1) + (((c.points.certs.map tCert.sz).sum + 1) + (((c.certs.map tCert.sz).sum + 1) + (((c.marks.map tMark.sz).sum + 1) + (((c.slots.map tSlot.sz).sum + 1) + (((c.held.map tPrepared.sz).sum + 1) + (((c.changes.map tChange.sz).sum + 1) + (((c.pool.waiting.map tSigned.sz).sum + 1) + (([c.timer.length, c.timer.left] : List Int).length + (((c.news.map tMsg.sz).sum + 1) + (([c.wants] : List Int).length + 0))))))))))))))))) hb1 (show (10 : Nat) ≤ 262200 * 1 by decide)) ⟨⟨rfl, rfl⟩, trivial⟩ (Cos.refl _) rfl ?_
  conv => arg 2; whnf
  refine okTr (w := w2) (w' := w3) (stNum_s [c.ticks, c.floor] (by simp)) e3 (room_le (k := ([c.ticks, c.floor] : List Int).length) (r := (1 + (((c.blocks.map tBlock.sz).sum + 1) + ((c.topics.length + 1) + (1 + (((c.points.votes.map tVote.sz).sum + 1) + (((c.points.certs.map tCert.sz).sum + 1) + (((c.certs.map tCert.sz).sum + 1) + (((c.marks.map tMark.sz).sum + 1) + (((c.slots.map tSlot.sz).sum + 1) + (((c.held.map tPrepared.sz).sum + 1) + (((c.changes.map tChange.sz).sum + 1) + (((c.pool.waiting.map tSigned.sz).sum + 1) + (([c.timer.length, c.timer.left] : List Int).length + (((c.news.map tMsg.sz).sum + 1) + (([c.wants] : List Int).length + 0)))))))))))))))) hb2 (num_m _)) ⟨⟨rfl, rfl⟩, trivial⟩ (Cos.refl _) rfl ?_
  conv => arg 2; whnf
  refine okTr (w := w3) (w' := w4) (stHeader_s c.base) e4 (room_le (k := 1) (r := (((c.blocks.map tBlock.sz).sum + 1) + ((c.topics.length + 1) + (1 + (((c.points.votes.map tVote.sz).sum + 1) + (((c.points.certs.map tCert.sz).sum + 1) + (((c.certs.map tCert.sz).sum + 1) + (((c.marks.map tMark.sz).sum + 1) + (((c.slots.map tSlot.sz).sum + 1) + (((c.held.map tPrepared.sz).sum + 1) + (((c.changes.map tChange.sz).sum + 1) + (((c.pool.waiting.map tSigned.sz).sum + 1) + (([c.timer.length, c.timer.left] : List Int).length + (((c.news.map tMsg.sz).sum + 1) + (([c.wants] : List Int).length + 0))))))))))))))) hb3 (Nat.le_refl _)) ⟨⟨rfl, rfl⟩, trivial⟩ (Cos.refl _) rfl ?_
  conv => arg 2; whnf
  refine okTr (w := w4) (w' := w5) (putsBlock_s c.blocks hc.2.2.2.2.2.1) e5 (room_le (k := ((c.blocks.map tBlock.sz).sum + 1)) (r := ((c.topics.length + 1) + (1 + (((c.points.votes.map tVote.sz).sum + 1) + (((c.points.certs.map tCert.sz).sum + 1) + (((c.certs.map tCert.sz).sum + 1) + (((c.marks.map tMark.sz).sum + 1) + (((c.slots.map tSlot.sz).sum + 1) + (((c.held.map tPrepared.sz).sum + 1) + (((c.changes.map tChange.sz).sum + 1) + (((c.pool.waiting.map tSigned.sz).sum + 1) + (([c.timer.length, c.timer.left] : List Int).length + (((c.news.map tMsg.sz).sum + 1) + (([c.wants] : List Int).length + 0)))))))))))))) hb4 (Nat.le_refl _)) ⟨⟨rfl, rfl⟩, trivial⟩ (Cos.refl _) rfl ?_
  conv => arg 2; whnf
  refine okTr (w := w5) (w' := w6) (stBytes_s c.topics hc.2.2.2.2.2.2.1) e6 (room_le (k := (c.topics.length + 1)) (r := (1 + (((c.points.votes.map tVote.sz).sum + 1) + (((c.points.certs.map tCert.sz).sum + 1) + (((c.certs.map tCert.sz).sum + 1) + (((c.marks.map tMark.sz).sum + 1) + (((c.slots.map tSlot.sz).sum + 1) + (((c.held.map tPrepared.sz).sum + 1) + (((c.changes.map tChange.sz).sum + 1) + (((c.pool.waiting.map tSigned.sz).sum + 1) + (([c.timer.length, c.timer.left] : List Int).length + (((c.news.map tMsg.sz).sum + 1) + (([c.wants] : List Int).length + 0))))))))))))) hb5 (byt_m _)) ⟨⟨rfl, rfl⟩, trivial⟩ (Cos.refl _) rfl ?_
  conv => arg 2; whnf
  refine okTr (w := w6) (w' := w7) (stCert_s c.points.stable hc.2.2.2.2.2.2.2.1.1) e7 (room_le (k := 1) (r := (((c.points.votes.map tVote.sz).sum + 1) + (((c.points.certs.map tCert.sz).sum + 1) + (((c.certs.map tCert.sz).sum + 1) + (((c.marks.map tMark.sz).sum + 1) + (((c.slots.map tSlot.sz).sum + 1) + (((c.held.map tPrepared.sz).sum + 1) + (((c.changes.map tChange.sz).sum + 1) + (((c.pool.waiting.map tSigned.sz).sum + 1) + (([c.timer.length, c.timer.left] : List Int).length + (((c.news.map tMsg.sz).sum + 1) + (([c.wants] : List Int).length + 0)))))))))))) hb6 (Nat.le_refl _)) ⟨⟨rfl, rfl⟩, trivial⟩ (Cos.refl _) rfl ?_
  conv => arg 2; whnf
  refine okTr (w := w7) (w' := w8) (putsVote_s c.points.votes hc.2.2.2.2.2.2.2.1.2.1) e8 (room_le (k := ((c.points.votes.map tVote.sz).sum + 1)) (r := (((c.points.certs.map tCert.sz).sum + 1) + (((c.certs.map tCert.sz).sum + 1) + (((c.marks.map tMark.sz).sum + 1) + (((c.slots.map tSlot.sz).sum + 1) + (((c.held.map tPrepared.sz).sum + 1) + (((c.changes.map tChange.sz).sum + 1) + (((c.pool.waiting.map tSigned.sz).sum + 1) + (([c.timer.length, c.timer.left] : List Int).length + (((c.news.map tMsg.sz).sum + 1) + (([c.wants] : List Int).length + 0))))))))))) hb7 (Nat.le_refl _)) ⟨⟨rfl, rfl⟩, trivial⟩ (Cos.refl _) rfl ?_
  conv => arg 2; whnf
  refine okTr (w := w8) (w' := w9) (putsCert_s c.points.certs hc.2.2.2.2.2.2.2.1.2.2) e9 (room_le (k := ((c.points.certs.map tCert.sz).sum + 1)) (r := (((c.certs.map tCert.sz).sum + 1) + (((c.marks.map tMark.sz).sum + 1) + (((c.slots.map tSlot.sz).sum + 1) + (((c.held.map tPrepared.sz).sum + 1) + (((c.changes.map tChange.sz).sum + 1) + (((c.pool.waiting.map tSigned.sz).sum + 1) + (([c.timer.length, c.timer.left] : List Int).length + (((c.news.map tMsg.sz).sum + 1) + (([c.wants] : List Int).length + 0)))))))))) hb8 (Nat.le_refl _)) ⟨⟨rfl, rfl⟩, trivial⟩ (Cos.refl _) rfl ?_
  conv => arg 2; whnf
  refine okTr (w := w9) (w' := w10) (putsCert_s c.certs hc.2.2.2.2.2.2.2.2.1) e10 (room_le (k := ((c.certs.map tCert.sz).sum + 1)) (r := (((c.marks.map tMark.sz).sum + 1) + (((c.slots.map tSlot.sz).sum + 1) + (((c.held.map tPrepared.sz).sum + 1) + (((c.changes.map tChange.sz).sum + 1) + (((c.pool.waiting.map tSigned.sz).sum + 1) + (([c.timer.length, c.timer.left] : List Int).length + (((c.news.map tMsg.sz).sum + 1) + (([c.wants] : List Int).length + 0))))))))) hb9 (Nat.le_refl _)) ⟨⟨rfl, rfl⟩, trivial⟩ (Cos.refl _) rfl ?_
  conv => arg 2; whnf
  refine okTr (w := w10) (w' := w11) (putsMark_s c.marks hc.2.2.2.2.2.2.2.2.2.1) e11 (room_le (k := ((c.marks.map tMark.sz).sum + 1)) (r := (((c.slots.map tSlot.sz).sum + 1) + (((c.held.map tPrepared.sz).sum + 1) + (((c.changes.map tChange.sz).sum + 1) + (((c.pool.waiting.map tSigned.sz).sum + 1) + (([c.timer.length, c.timer.left] : List Int).length + (((c.news.map tMsg.sz).sum + 1) + (([c.wants] : List Int).length + 0)))))))) hb10 (Nat.le_refl _)) ⟨⟨rfl, rfl⟩, trivial⟩ (Cos.refl _) rfl ?_
  conv => arg 2; whnf
  refine okTr (w := w11) (w' := w12) (putsSlot_s c.slots hc.2.2.2.2.2.2.2.2.2.2.1) e12 (room_le (k := ((c.slots.map tSlot.sz).sum + 1)) (r := (((c.held.map tPrepared.sz).sum + 1) + (((c.changes.map tChange.sz).sum + 1) + (((c.pool.waiting.map tSigned.sz).sum + 1) + (([c.timer.length, c.timer.left] : List Int).length + (((c.news.map tMsg.sz).sum + 1) + (([c.wants] : List Int).length + 0))))))) hb11 (Nat.le_refl _)) ⟨⟨rfl, rfl⟩, trivial⟩ (Cos.refl _) rfl ?_
  conv => arg 2; whnf
  refine okTr (w := w12) (w' := w13) (putsPrepared_s c.held hc.2.2.2.2.2.2.2.2.2.2.2.1) e13 (room_le (k := ((c.held.map tPrepared.sz).sum + 1)) (r := (((c.changes.map tChange.sz).sum + 1) + (((c.pool.waiting.map tSigned.sz).sum + 1) + (([c.timer.length, c.timer.left] : List Int).length + (((c.news.map tMsg.sz).sum + 1) + (([c.wants] : List Int).length + 0)))))) hb12 (Nat.le_refl _)) ⟨⟨rfl, rfl⟩, trivial⟩ (Cos.refl _) rfl ?_
  conv => arg 2; whnf
  refine okTr (w := w13) (w' := w14) (putsChange_s c.changes hc.2.2.2.2.2.2.2.2.2.2.2.2.1) e14 (room_le (k := ((c.changes.map tChange.sz).sum + 1)) (r := (((c.pool.waiting.map tSigned.sz).sum + 1) + (([c.timer.length, c.timer.left] : List Int).length + (((c.news.map tMsg.sz).sum + 1) + (([c.wants] : List Int).length + 0))))) hb13 (Nat.le_refl _)) ⟨⟨rfl, rfl⟩, trivial⟩ (Cos.refl _) rfl ?_
  conv => arg 2; whnf
  refine okTr (w := w14) (w' := w15) (putsSigned_s c.pool.waiting hc.2.2.2.2.2.2.2.2.2.2.2.2.2.1) e15 (room_le (k := ((c.pool.waiting.map tSigned.sz).sum + 1)) (r := (([c.timer.length, c.timer.left] : List Int).length + (((c.news.map tMsg.sz).sum + 1) + (([c.wants] : List Int).length + 0)))) hb14 (Nat.le_refl _)) ⟨⟨rfl, rfl⟩, trivial⟩ (Cos.refl _) rfl ?_
  conv => arg 2; whnf
  refine okTr (w := w15) (w' := w16) (stNum_s [c.timer.length, c.timer.left] (by simp)) e16 (room_le (k := ([c.timer.length, c.timer.left] : List Int).length) (r := (((c.news.map tMsg.sz).sum + 1) + (([c.wants] : List Int).length + 0))) hb15 (num_m _)) ⟨⟨rfl, rfl⟩, trivial⟩ (Cos.refl _) rfl ?_
  conv => arg 2; whnf
  refine okTr (w := w16) (w' := w17) (putsMsg_s c.news hc.2.2.2.2.2.2.2.2.2.2.2.2.2.2.2.1) e17 (room_le (k := ((c.news.map tMsg.sz).sum + 1)) (r := (([c.wants] : List Int).length + 0)) hb16 (Nat.le_refl _)) ⟨⟨rfl, rfl⟩, trivial⟩ (Cos.refl _) rfl ?_
  conv => arg 2; whnf
  refine okTr (w := w17) (w' := w18) (stNum_s [c.wants] (by simp)) e18 (room_le (k := ([c.wants] : List Int).length) (r := 0) hb17 (num_m _)) ⟨⟨rfl, rfl⟩, trivial⟩ (Cos.refl _) rfl ?_
  conv => arg 2; whnf
  refine endTr (x := w18.1) (y := w18.2) (.inl rfl) rfl ⟨⟨rfl, rfl⟩, trivial⟩ (.refl _) ?_
  rw [e18, e17, e16, e15, e14, e13, e12, e11, e10, e9, e8, e7, e6, e5, e4, e3, e2, e1]
  rfl
theorem okTr1 [Wd] {Q : Exit → S → Prop} {f : FuncId} {ar ar' : List D} {F : WS → WS} {k : Nat} {hb : List AO} {c : D → List AO → T} {w w' : WS} (hF : FnT f ar F k) (e : w' = F w) (hl : w.1.length + k + 1000 ≤ 140737488355328) (hv : vwP hb [1] [1] (oT w)) (hc : Cos ar' (D.ren.rl [1] (.ptr 0 0 :: ar))) (hM : ([1].all fun o => (foot hb ar').elem o) = true) (kk : (c (.tup []) (upH hb [1] (oT w) (oT w'))).ok Tryz.prog Q) : (T.call f ar' hb c).ok Tryz.prog Q := by
  subst e
  exact okCall [1] (hF w hl) (.mk' rfl hv) hc hM kk
theorem stBytesY_s [Wd] (c : CoreD) (hc : dCore.ok c) (hs : tCore.sz c ≤ 1048576) (ho : coreOk c) (hl : (coreB c).length ≤ 4194304) : FnP Tryz.prog 8 [.agg (cCore c)] (.tup [.list 1 ((coreB c).map cByte), .int .i64 0]) := by
  have hw := (wCore_wr c hc).yes ho ([], false) rfl
  simp only [List.nil_append] at hw
  replace hw := hw.symm
  generalize coreB c = xs at *
  refine mkS 26 [] Tryz.func8 rfl (by kernel_rfl) ?_
  repeat'
    (conv => arg 2; whnf)
    first
    | refine okAsk (by kernel_rfl) ?_
    | refine okBoth ?_ ?_
    | refine okBrT ?_
    | refine okBrF ?_
    | refine okBr (fun h => ?_) (fun h => ?_)
    | refine okWeak 1 [.list 1 [], .bool false] rfl (Cos.cons (.nil _) (Cos.cons (.refl _) .nil)) rfl rfl ?_
    | refine okTr1 (w := ([], false)) (w' := (xs, false)) (stCore_s c hc) hw (by show 0 + 262200 * tCore.sz c + 1000 ≤ 140737488355328; exact Nat.not_lt.1 fun _ => by omega) ⟨⟨rfl, rfl⟩, trivial⟩ (Cos.refl _) rfl ?_
    | refine endFn0 (.inr rfl) rfl (.refl _) rfl
    | (exfalso; simp at h; omega)
    | (exfalso; simp_all; done)
end Go.Proofs.YteaggenihhaajaaGreat

/- The core that bullalaw20.begun writes, read back: state.Parse on its bytes (printed by gen_ds.py). -/
namespace Go.Proofs.YteaggenihhaajaaGreat
open Go.RowKit
set_option linter.unusedVariables false
set_option maxRecDepth 20000

def mk4 : MarkD := ⟨⟨4, 0, 0, 0, 0⟩, []⟩
/-- begun's core -/
def lvC : CoreD := { view := 3, active := true, ticks := 0, floor := 0, base := zHd, blocks := [], topics := [1, 2], points := ⟨zCert, [], []⟩, certs := [], marks := [mk4], slots := [], held := [], changes := [], pool := ⟨[]⟩, timer := ⟨0, 0⟩, news := [], wants := 0 }
def lb0 : List UInt8 := [3, 1, 0, 0, 6, 3, 0, 0, 0, 0, 0, 0, 2, 1, 2, 3, 0, 0, 0, 0, 0, 0, 1, 6, 3, 4, 0, 0, 0, 0, 0, 0, 0, 0, 0, 0, 0, 0, 0]
def lb1 : List UInt8 := [1, 0, 0, 6, 3, 0, 0, 0, 0, 0, 0, 2, 1, 2, 3, 0, 0, 0, 0, 0, 0, 1, 6, 3, 4, 0, 0, 0, 0, 0, 0, 0, 0, 0, 0, 0, 0, 0]
def lb2 : List UInt8 := [0, 0, 6, 3, 0, 0, 0, 0, 0, 0, 2, 1, 2, 3, 0, 0, 0, 0, 0, 0, 1, 6, 3, 4, 0, 0, 0, 0, 0, 0, 0, 0, 0, 0, 0, 0, 0]
def lb3 : List UInt8 := [0, 6, 3, 0, 0, 0, 0, 0, 0, 2, 1, 2, 3, 0, 0, 0, 0, 0, 0, 1, 6, 3, 4, 0, 0, 0, 0, 0, 0, 0, 0, 0, 0, 0, 0, 0]
def lb4 : List UInt8 := [6, 3, 0, 0, 0, 0, 0, 0, 2, 1, 2, 3, 0, 0, 0, 0, 0, 0, 1, 6, 3, 4, 0, 0, 0, 0, 0, 0, 0, 0, 0, 0, 0, 0, 0]
def lb5 : List UInt8 := [0, 2, 1, 2, 3, 0, 0, 0, 0, 0, 0, 1, 6, 3, 4, 0, 0, 0, 0, 0, 0, 0, 0, 0, 0, 0, 0, 0]
def lb6 : List UInt8 := [2, 1, 2, 3, 0, 0, 0, 0, 0, 0, 1, 6, 3, 4, 0, 0, 0, 0, 0, 0, 0, 0, 0, 0, 0, 0, 0]
def lb7 : List UInt8 := [3, 0, 0, 0, 0, 0, 0, 1, 6, 3, 4, 0, 0, 0, 0, 0, 0, 0, 0, 0, 0, 0, 0, 0]
def lb8 : List UInt8 := [0, 0, 0, 1, 6, 3, 4, 0, 0, 0, 0, 0, 0, 0, 0, 0, 0, 0, 0, 0]
def lb9 : List UInt8 := [0, 0, 1, 6, 3, 4, 0, 0, 0, 0, 0, 0, 0, 0, 0, 0, 0, 0, 0]
def lb10 : List UInt8 := [0, 1, 6, 3, 4, 0, 0, 0, 0, 0, 0, 0, 0, 0, 0, 0, 0, 0]
def lb11 : List UInt8 := [1, 6, 3, 4, 0, 0, 0, 0, 0, 0, 0, 0, 0, 0, 0, 0, 0]
def lb12 : List UInt8 := [0, 0, 0, 0, 0, 0, 0, 0]
def lb13 : List UInt8 := [0, 0, 0, 0, 0, 0, 0]
def lb14 : List UInt8 := [0, 0, 0, 0, 0, 0]
def lb15 : List UInt8 := [0, 0, 0, 0, 0]
def lb16 : List UInt8 := [0, 0, 0, 0]
def lb17 : List UInt8 := [0, 0, 0]
def lb18 : List UInt8 := [0, 0]
def lb19 : List UInt8 := [0]
def lb20 : List UInt8 := []
theorem lvC_bytes : coreB lvC = lb0 := by kernel_rfl
theorem le0 : numR MX (lb0, 0) = (3, (lb1, 0)) := by kernel_rfl
theorem le1 : numR 1 (lb1, 0) = (1, (lb2, 0)) := by kernel_rfl
theorem le2 : numR MX (lb2, 0) = (0, (lb3, 0)) := by kernel_rfl
theorem le3 : numR MX (lb3, 0) = (0, (lb4, 0)) := by kernel_rfl
theorem le4 : withinR hdR zHd (lb4, 0) = (zHd, (lb5, 0)) := by kernel_rfl
theorem le5 : numR 4096 (lb5, 0) = (0, (lb6, 0)) := by kernel_rfl
theorem le6 : bytesR 4194304 (lb6, 0) = ([1, 2], (lb7, 0)) := by kernel_rfl
theorem le7 : withinR (parseR certR zCert) zCert (lb7, 0) = (zCert, (lb8, 0)) := by kernel_rfl
theorem le8 : numR 4096 (lb8, 0) = (0, (lb9, 0)) := by kernel_rfl
theorem le9 : numR 4096 (lb9, 0) = (0, (lb10, 0)) := by kernel_rfl
theorem le10 : numR 4096 (lb10, 0) = (0, (lb11, 0)) := by kernel_rfl
theorem le11 : takesR markR (lb11, 0) = ([mk4], (lb12, 0)) := by kernel_rfl
theorem le12 : numR 4096 (lb12, 0) = (0, (lb13, 0)) := by kernel_rfl
theorem le13 : numR 4096 (lb13, 0) = (0, (lb14, 0)) := by kernel_rfl
theorem le14 : numR 4096 (lb14, 0) = (0, (lb15, 0)) := by kernel_rfl
theorem le15 : numR 4096 (lb15, 0) = (0, (lb16, 0)) := by kernel_rfl
theorem le16 : numR MX (lb16, 0) = (0, (lb17, 0)) := by kernel_rfl
theorem le17 : numR MX (lb17, 0) = (0, (lb18, 0)) := by kernel_rfl
theorem le18 : numR 4096 (lb18, 0) = (0, (lb19, 0)) := by kernel_rfl
theorem le19 : numR MX (lb19, 0) = (0, (lb20, 0)) := by kernel_rfl
set_option maxHeartbeats 4000000 in
theorem tkCoreLv_s [Wd] : FnS Tryz.prog 19 [.agg [.ptr 0 0]] (oRd (lb0, 0)) (fun r h => r = .agg (cCore lvC) ∧ h = oRd (lb20, 0)) := by
  refine mkS 71 [] Tryz.func19 rfl (by kernel_rfl) ?_
  conv => arg 2; whnf
  refine okRd 0 (lb0, 0) (lb1, 0) (.int .i64 3) tkNum_s (by decide) (congrArg Prod.snd le0).symm (congrArg (fun r : Nat × RS => D.int .i64 (r.1 : Int)) le0).symm ⟨⟨rfl, rfl⟩, trivial⟩ (Cos.refl _) rfl ?_
  conv => arg 2; whnf
  refine okRd 0 (lb1, 0) (lb2, 0) (.bool true) tkFlag_s (by decide) (congrArg Prod.snd le1).symm (congrArg (fun r : Nat × RS => D.bool ((r.1 : Int) == 1)) le1).symm ⟨⟨rfl, rfl⟩, trivial⟩ (Cos.refl _) rfl ?_
  conv => arg 2; whnf
  refine okRd 0 (lb2, 0) (lb3, 0) (.int .i64 0) tkNum_s (by decide) (congrArg Prod.snd le2).symm (congrArg (fun r : Nat × RS => D.int .i64 (r.1 : Int)) le2).symm ⟨⟨rfl, rfl⟩, trivial⟩ (Cos.refl _) rfl ?_
  conv => arg 2; whnf
  refine okRd 0 (lb3, 0) (lb4, 0) (.int .i64 0) tkNum_s (by decide) (congrArg Prod.snd le3).symm (congrArg (fun r : Nat × RS => D.int .i64 (r.1 : Int)) le3).symm ⟨⟨rfl, rfl⟩, trivial⟩ (Cos.refl _) rfl ?_
  conv => arg 2; whnf
  refine okRd 0 (lb4, 0) (lb5, 0) (.agg (cHeader zHd)) tkHeader_s (by decide) (congrArg Prod.snd le4).symm (congrArg (fun r : HeaderD × RS => D.agg (cHeader r.1)) le4).symm ⟨⟨rfl, rfl⟩, trivial⟩ (Cos.refl _) rfl ?_
  conv => arg 2; whnf
  refine okCall [0] (takes0Block_s (s := (lb5, 0)) (by decide) le5) (.mk' rfl ⟨⟨rfl, rfl⟩, trivial⟩) (Cos.refl _) rfl ?_
  conv => arg 2; whnf
  refine okRd 0 (lb6, 0) (lb7, 0) (.list 1 (([1, 2] : List UInt8).map cByte)) tkStr_s (by decide) (congrArg Prod.snd le6).symm (congrArg (fun r : List UInt8 × RS => D.list 1 (r.1.map cByte)) le6).symm ⟨⟨rfl, rfl⟩, trivial⟩ (Cos.refl _) rfl ?_
  conv => arg 2; whnf
  refine okRd 0 (lb7, 0) (lb8, 0) (.agg (cCert zCert)) tkCert_s (by decide) (congrArg Prod.snd le7).symm (congrArg (fun r : CertD × RS => D.agg (cCert r.1)) le7).symm ⟨⟨rfl, rfl⟩, trivial⟩ (Cos.refl _) rfl ?_
  conv => arg 2; whnf
  refine okCall [0] (takes0Vote_s (s := (lb8, 0)) (by decide) le8) (.mk' rfl ⟨⟨rfl, rfl⟩, trivial⟩) (Cos.refl _) rfl ?_
  conv => arg 2; whnf
  refine okCall [0] (takes0Cert_s (s := (lb9, 0)) (by decide) le9) (.mk' rfl ⟨⟨rfl, rfl⟩, trivial⟩) (Cos.refl _) rfl ?_
  conv => arg 2; whnf
  refine okCall [0] (takes0Cert_s (s := (lb10, 0)) (by decide) le10) (.mk' rfl ⟨⟨rfl, rfl⟩, trivial⟩) (Cos.refl _) rfl ?_
  conv => arg 2; whnf
  refine okRd 0 (lb11, 0) (lb12, 0) (.list 6 ([mk4].map cMark)) takesMark_s (by decide) (congrArg Prod.snd le11).symm (congrArg (fun r : List MarkD × RS => D.list 6 (r.1.map cMark)) le11).symm ⟨⟨rfl, rfl⟩, trivial⟩ (Cos.refl _) rfl ?_
  conv => arg 2; whnf
  refine okCall [0] (takes0Slot_s (s := (lb12, 0)) (by decide) le12) (.mk' rfl ⟨⟨rfl, rfl⟩, trivial⟩) (Cos.refl _) rfl ?_
  conv => arg 2; whnf
  refine okCall [0] (takes0Prepared_s (s := (lb13, 0)) (by decide) le13) (.mk' rfl ⟨⟨rfl, rfl⟩, trivial⟩) (Cos.refl _) rfl ?_
  conv => arg 2; whnf
  refine okCall [0] (takes0Change_s (s := (lb14, 0)) (by decide) le14) (.mk' rfl ⟨⟨rfl, rfl⟩, trivial⟩) (Cos.refl _) rfl ?_
  conv => arg 2; whnf
  refine okCall [0] (takes0Signed_s (s := (lb15, 0)) (by decide) le15) (.mk' rfl ⟨⟨rfl, rfl⟩, trivial⟩) (Cos.refl _) rfl ?_
  conv => arg 2; whnf
  refine okRd 0 (lb16, 0) (lb17, 0) (.int .i64 0) tkNum_s (by decide) (congrArg Prod.snd le16).symm (congrArg (fun r : Nat × RS => D.int .i64 (r.1 : Int)) le16).symm ⟨⟨rfl, rfl⟩, trivial⟩ (Cos.refl _) rfl ?_
  conv => arg 2; whnf
  refine okRd 0 (lb17, 0) (lb18, 0) (.int .i64 0) tkNum_s (by decide) (congrArg Prod.snd le17).symm (congrArg (fun r : Nat × RS => D.int .i64 (r.1 : Int)) le17).symm ⟨⟨rfl, rfl⟩, trivial⟩ (Cos.refl _) rfl ?_
  conv => arg 2; whnf
  refine okCall [0] (takes0Msg_s (s := (lb18, 0)) (by decide) le18) (.mk' rfl ⟨⟨rfl, rfl⟩, trivial⟩) (Cos.refl _) rfl ?_
  conv => arg 2; whnf
  refine okRd 0 (lb19, 0) (lb20, 0) (.int .i64 0) tkNum_s (by decide) (congrArg Prod.snd le19).symm (congrArg (fun r : Nat × RS => D.int .i64 (r.1 : Int)) le19).symm ⟨⟨rfl, rfl⟩, trivial⟩ (Cos.refl _) rfl ?_
  conv => arg 2; whnf
  refine endRd (d := .agg (cCore lvC)) (.inr rfl) rfl ⟨⟨rfl, rfl⟩, trivial⟩ rfl (.refl _) rfl rfl
theorem stParseLv_s [Wd] : FnP Tryz.prog 9 [.list 1 (lb0.map cByte)] (.tup [.agg (cCore lvC), .int .i64 0]) := by
  refine mkS 30 [] Tryz.func9 rfl (by kernel_rfl) ?_
  repeat'
    (conv => arg 2; whnf)
    first
    | refine okAsk (by kernel_rfl) ?_
    | refine okCall [] (rdRead_s lb0 (by decide)) (.mk' rfl trivial) (Cos.refl _) rfl ?_
    | refine okCall [1] tkCoreLv_s (.mk' rfl ⟨⟨rfl, rfl⟩, trivial⟩) (Cos.refl _) rfl ?_
    | refine okRd 1 (lb20, 0) (lb20, 0) (.int .i64 0) rdDone_s (by decide) rfl (by kernel_rfl) ⟨⟨rfl, rfl⟩, trivial⟩ (Cos.refl _) rfl ?_
    | refine okBoth ?_ ?_
    | refine okBrT ?_
    | refine okBrF ?_
    | refine endFn0 (.inr rfl) rfl (.refl _) rfl
end Go.Proofs.YteaggenihhaajaaGreat

/- bullalaw20.begun; bullalaw20.StateApart over data. -/
namespace Go.Proofs.YteaggenihhaajaaGreat
open Go.RowKit
set_option linter.unusedVariables false
set_option maxRecDepth 20000

theorem nOkZ : nOk 0 := ⟨by decide, by decide⟩
theorem hdrZ : hdrOk zHd := ⟨nOkZ, nOkZ, nOkZ, nOkZ, nOkZ⟩
theorem putsZ {α : Type} (P : α → Prop) : putsOk P ([] : List α) := ⟨Nat.zero_le _, fun x hx => (List.not_mem_nil hx).elim⟩
theorem certZ0 : kCertOk zCert := ⟨by kernel_rfl, by have := certB_len (c := zCert) (by kernel_rfl); omega⟩
theorem lvC_ok : coreOk lvC :=
  ⟨⟨by decide, by decide⟩, nOkZ, nOkZ, hdrZ, putsZ _, certZ0, putsZ _, putsZ _, putsZ _, ⟨by decide, fun m hm => by rw [List.mem_singleton.1 hm]; exact ⟨⟨by decide, by decide⟩, nOkZ, nOkZ, nOkZ, nOkZ⟩⟩, putsZ _, putsZ _, putsZ _, putsZ _, nOkZ, nOkZ, putsZ _, nOkZ⟩
theorem dLz {α : Type} (T : Dt α) : (dL T).ok [] := ⟨Nat.zero_le _, fun x hx => (List.not_mem_nil hx).elim⟩
theorem z64 : -9223372036854775808 ≤ (0 : Int) ∧ (0 : Int) ≤ 9223372036854775807 := ⟨by decide, by decide⟩
theorem dHz (n : Int) (h : -9223372036854775808 ≤ n ∧ n ≤ 9223372036854775807) : dHeader.ok ⟨n, 0, 0, 0, 0⟩ := ⟨h, z64, z64, z64, z64⟩
theorem dCz : dCert.ok zCert := ⟨⟨by decide, by decide⟩, ⟨by decide, by decide⟩, dLz _⟩
theorem lvC_d : dCore.ok lvC :=
  ⟨⟨by decide, by decide⟩, trivial, ⟨by decide, by decide⟩, ⟨by decide, by decide⟩, dHz 0 ⟨by decide, by decide⟩, dLz _, (by decide : ([1, 2] : List UInt8).length ≤ 4194304), ⟨dCz, dLz _, dLz _⟩, dLz _, ⟨by decide, fun m hm => by rw [List.mem_singleton.1 hm]; exact ⟨dHz 4 ⟨by decide, by decide⟩, (by decide : ([] : List UInt8).length ≤ 4194304)⟩⟩, dLz _, dLz _, dLz _, dLz _, ⟨⟨by decide, by decide⟩, ⟨by decide, by decide⟩⟩, dLz _, ⟨by decide, by decide⟩⟩
theorem lvC_sz : tCore.sz lvC ≤ 1048576 := by decide
theorem bytesLv_s [Wd] : FnP Tryz.prog 8 [.agg (cCore lvC)] (.tup [.list 1 (lb0.map cByte), .int .i64 0]) := by
  have := stBytesY_s lvC lvC_d lvC_sz lvC_ok (by rw [lvC_bytes]; decide)
  rwa [lvC_bytes] at this
theorem sameLv_s [Wd] : FnP Tryz.prog 10 [.agg (cCore lvC), .agg (cCore lvC)] (.bool true) := by
  have := rwSame_s lvC lvC lvC_d lvC_d
  rwa [eqB_true rfl] at this
/-- begun's core as its literal has it: nil slices -/
theorem lvC_co {ds : List D} (h : ds = [.int .i64 3, .bool true, .int .i64 0, .int .i64 0, .int .i64 0, .int .i64 0, .int .i64 0, .int .i64 0, .int .i64 0, .nils, .list 1 [[.int .u8 1], [.int .u8 2]], .int .i64 0, .int .i64 0, .nils, .nils, .nils, .nils, .list 6 [[.int .i64 4, .int .i64 0, .int .i64 0, .int .i64 0, .int .i64 0, .nils]], .nils, .nils, .nils, .nils, .int .i64 0, .int .i64 0, .nils, .int .i64 0]) : Co (.agg ds) (.agg (cCore lvC)) := by
  subst h
  refine Cos.mkAgg ?_
  have hm : Co (.list 6 [[.int .i64 4, .int .i64 0, .int .i64 0, .int .i64 0, .int .i64 0, .nils]]) (.list 6 ([mk4].map cMark)) := by
    refine .list 6 _ _ rfl (fun i x y hx hy => ?_)
    cases i with
    | succ i => simp at hx
    | zero =>
      cases hx
      cases hy
      refine ⟨rfl, fun j d e hd he => ?_⟩
      match j with
      | 0 => cases hd; cases he; exact .inl rfl
      | 1 => cases hd; cases he; exact .inl rfl
      | 2 => cases hd; cases he; exact .inl rfl
      | 3 => cases hd; cases he; exact .inl rfl
      | 4 => cases hd; cases he; exact .inl rfl
      | 5 => cases hd; cases he; exact .inr ⟨rfl, 1, rfl⟩
      | j + 6 => simp at hd
  repeat' first
    | exact Cos.nil
    | refine Cos.cons hm ?_
    | refine Cos.cons (.refl _) ?_
    | refine Cos.cons (.nil _) ?_
theorem begun_s [Wd] : FnP Tryz.prog 7 [] (.bool true) := by
  refine mkS 49 [] Tryz.func7 rfl (by kernel_rfl) ?_
  repeat'
    (conv => arg 2; whnf)
    first
    | refine okAsk (by kernel_rfl) ?_
    | refine okFn bytesLv_s rfl (Cos.cons (lvC_co rfl) .nil) ?_
    | refine okFn stParseLv_s rfl (Cos.refl _) ?_
    | refine okFn sameLv_s rfl (Cos.cons (lvC_co rfl) (Cos.cons (.refl _) .nil)) ?_
    | refine okBoth ?_ ?_
    | refine okBrT ?_
    | refine okBrF ?_
    | refine okNthMap (l := lb0) (q := 0) (by decide) (fun x hx => ?_)
    | refine okNthMap (l := lb0) (q := 1) (by decide) (fun x hx => ?_)
    | refine okBr (fun h => ?_) (fun h => ?_)
    | refine endBool (.inr rfl) rfl ?_
  all_goals first
    | rfl
    | (exfalso; simp_all [lb0]; done)
    | (simp_all [lb0]; subst hx; rfl)
    | (simp_all [lb0]; subst hx; exact h rfl)
    | (simp_all [lb0]; done)
end Go.Proofs.YteaggenihhaajaaGreat
