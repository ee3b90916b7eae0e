/- Lemmas and contracts, part 16.4. -/
import Derived.Test.YtbbcepmhkocgbaaGreatDoorZc2
import Derived.Deep.Light
import Derived.Lib.ConvBytes
import Derived.Deep.RegionHeld3
import Derived.Deep.RegionLaw
/- The asker of package message over proofs and messages (printed by gen_ad.py). -/
namespace Go.Proofs.YtbbcepmhkocgbaaGreatDoor
open Go.RowKit
set_option linter.unusedVariables false
set_option maxRecDepth 20000

theorem wrapE (a i c : Int) : orE (orE a (rangeE c 0 16)) (rangeE i 0 (IntKind.i64.wrap (c - 1))) = orE (orE a (rangeE c 0 16)) (rangeE i 0 (c - 1)) := by
  by_cases h : 0 ≤ c ∧ c ≤ 16
  · rw [w64 (by omega) (by omega)]
  · have h0 : rangeE c 0 16 ≠ 0 := by unfold rangeE; split <;> omega
    have h1 : orE a (rangeE c 0 16) ≠ 0 := by unfold orE; split <;> assumption
    have h2 : ∀ x, orE (orE a (rangeE c 0 16)) x = orE a (rangeE c 0 16) := fun x => by rw [orE, if_neg h1]
    rw [h2, h2]
theorem askProof_s (p : ProofD) (hp : dProof.ok p) : FnAsk 170 [.agg (cProof p)] (proofE p) := by
  intro e
  refine mkS 93 [] Tryz.func170 rfl (by kernel_rfl) ?_
  repeat'
    (conv => arg 2; whnf)
    first
    | refine okAskr 0 (askName_s p.topic hp.1) ⟨⟨rfl, rfl⟩, trivial⟩ (Cos.refl _) rfl ?_
    | refine okAskr 0 (askNum_s _) ⟨⟨rfl, rfl⟩, trivial⟩ (Cos.refl _) rfl ?_
    | refine okAskr 0 (askMany_s _ _) ⟨⟨rfl, rfl⟩, trivial⟩ (Cos.refl _) rfl ?_
  conv => arg 2; whnf
  refine okLoop (α := Nat × Int) (fun a => ⟨[(31, .int .i64 a.1), (30, .int .i64 (p.headers.map cHeader).length), (29, .list 5 (p.headers.map cHeader)), (3, .ptr 1 0), (0, .ptr 0 0)], [.cells 195 [.int .i64 a.2], .cells 52 (cProof p)]⟩) (fun a => a.1 ≤ p.headers.length ∧ a.2 = orE (orE (orE (orE (orE e (nameE p.topic)) (numE p.offset)) (rangeE ((p.record.map cByte).length : Nat) 0 64)) (manyE p.headers.length 64)) (listE headE (p.headers.take a.1))) (fun a => p.headers.length - a.1) (0, orE (orE (orE (orE e (nameE p.topic)) (numE p.offset)) (rangeE ((p.record.map cByte).length : Nat) 0 64)) (rangeE ((p.headers.map cHeader).length : Nat) 0 64)) ⟨Nat.zero_le _, by simp [listE, orE_z, manyE]⟩ (Sv.mk' [0, 1] rfl ⟨⟨rfl, rfl⟩, ⟨rfl, rfl⟩, trivial⟩ ⟨rfl, rfl, rfl, rfl, rfl, trivial⟩) ?_
  rintro ⟨q, e'⟩ ⟨hq, he⟩
  have hl : p.headers.length ≤ 4194304 := hp.2.2.2.1.1
  repeat'
    (conv => arg 2; whnf)
    first
    | refine okBrT ?_
    | refine okBrF ?_
    | refine okBr (fun h => ?_) (fun h => ?_)
    | refine okNthMap (by simpa using h) (fun x hx => ?_)
    | refine okAskr 0 (askPos_s _) ⟨⟨rfl, rfl⟩, trivial⟩ (Cos.refl _) rfl ?_
    | refine okAskr 0 (askNum_s _) ⟨⟨rfl, rfl⟩, trivial⟩ (Cos.refl _) rfl ?_
    | refine okAskr 0 (askMany_s _ _) ⟨⟨rfl, rfl⟩, trivial⟩ (Cos.refl _) rfl ?_
    | refine okAskr 0 (ask_s _ _ _) ⟨⟨rfl, rfl⟩, trivial⟩ (Cos.refl _) rfl ?_
    | refine okOut ?_
    | refine okRaw ?_
  case refine_1 =>
    have hh := h
    clear h
    conv => arg 2; whnf
    refine okLoop (α := Nat × Int) (fun a => ⟨[(49, .int .i64 a.1), (48, .int .i64 ([x.prev, x.batch, x.root, x.state].map cNum).length), (47, .list 1 ([x.prev, x.batch, x.root, x.state].map cNum)), (31, .int .i64 q), (30, .int .i64 (p.headers.map cHeader).length), (29, .list 5 (p.headers.map cHeader)), (3, .ptr 1 0), (0, .ptr 0 0)], [.cells 195 [.int .i64 a.2], .cells 52 (cProof p)]⟩) (fun a => a.1 ≤ 4 ∧ a.2 = orE (orE e' (posE x.seq)) (listE numE ([x.prev, x.batch, x.root, x.state].take a.1))) (fun a => 4 - a.1) (0, orE e' (posE x.seq)) ⟨Nat.zero_le _, by simp [listE, orE_z]⟩ (Sv.mk' [0, 1] rfl ⟨⟨rfl, rfl⟩, ⟨rfl, rfl⟩, trivial⟩ ⟨rfl, rfl, rfl, rfl, rfl, rfl, rfl, rfl, trivial⟩) ?_
    rintro ⟨i, e2⟩ ⟨hi, he2⟩
    repeat'
      (conv => arg 2; whnf)
      first
      | refine okBrT ?_
      | refine okBrF ?_
      | refine okBr (fun h => ?_) (fun h => ?_)
      | refine okNthMap (by simp at h ⊢; omega) (fun y hy => ?_)
      | refine okAskr 0 (askNum_s _) ⟨⟨rfl, rfl⟩, trivial⟩ (Cos.refl _) rfl ?_
      | refine okWrap (w64 (by simp at h hi; omega) (by simp at h hi; omega)) ?_
      | refine okAgain (i + 1, _) (Sv.mk' [0, 1] rfl ⟨⟨rfl, rfl⟩, ⟨rfl, rfl⟩, trivial⟩ ⟨rfl, rfl, rfl, rfl, rfl, rfl, rfl, rfl, trivial⟩) ⟨?_, ?_⟩ ?_
      | refine okOut ?_
      | refine okWrap (w64 (by simp at hh hq; omega) (by simp at hh hq; omega)) ?_
      | refine okAgain (q + 1, _) (Sv.mk' [0, 1] rfl ⟨⟨rfl, rfl⟩, ⟨rfl, rfl⟩, trivial⟩ ⟨rfl, rfl, rfl, rfl, rfl, trivial⟩) ⟨?_, ?_⟩ ?_
    · show i + 1 ≤ 4
      simp at h; omega
    · show orE e2 (numE y) = _
      rw [listE_at numE hy, ← orE_assoc, ← he2]
    · simp at h ⊢; omega
    · show q + 1 ≤ p.headers.length
      simp at hh; omega
    · show e2 = _
      rw [show i = 4 by simp at h hi; omega] at he2
      have he3 : e2 = orE (orE e' (posE x.seq)) (listE numE [x.prev, x.batch, x.root, x.state]) := he2
      rw [listE_at headE hx, ← orE_assoc, ← he, he3]
      simp only [headE, listE, orE_z, orE_assoc]
    · simp at hh ⊢; omega
  rw [show p.headers.take q = p.headers from List.take_of_length_le (by simp at h; omega)] at he
  replace he : e' = _ := he
  clear hq h hl
  generalize hE : e' = e1 at he
  clear hE e'
  conv => arg 2; whnf
  refine okLoop (α := Nat × Int) (fun a => ⟨[(81, .int .i64 a.1), (80, .int .i64 (p.path.map cNum).length), (79, .list 1 (p.path.map cNum)), (3, .ptr 1 0), (0, .ptr 0 0)], [.cells 195 [.int .i64 a.2], .cells 52 (cProof p)]⟩) (fun a => a.1 ≤ p.path.length ∧ a.2 = orE (orE (orE (orE (orE e1 (numE p.index)) (rangeE p.count 0 16)) (rangeE p.index 0 (IntKind.i64.wrap (p.count - 1)))) (rangeE ((p.path.map cNum).length : Nat) 0 8)) (listE numE (p.path.take a.1))) (fun a => p.path.length - a.1) (0, orE (orE (orE (orE e1 (numE p.index)) (rangeE p.count 0 16)) (rangeE p.index 0 (IntKind.i64.wrap (p.count - 1)))) (rangeE ((p.path.map cNum).length : Nat) 0 8)) ⟨Nat.zero_le _, by simp [listE, orE_z]⟩ (Sv.mk' [0, 1] rfl ⟨⟨rfl, rfl⟩, ⟨rfl, rfl⟩, trivial⟩ ⟨rfl, rfl, rfl, rfl, rfl, trivial⟩) ?_
  rintro ⟨q, e'⟩ ⟨hq, he2⟩
  have hl : p.path.length ≤ 4194304 := hp.2.2.2.2.2.2.1.1
  repeat'
    (conv => arg 2; whnf)
    first
    | refine okBrT ?_
    | refine okBrF ?_
    | refine okBr (fun h => ?_) (fun h => ?_)
    | refine okNthMap (by simpa using h) (fun x hx => ?_)
    | refine okAskr 0 (askNum_s _) ⟨⟨rfl, rfl⟩, trivial⟩ (Cos.refl _) rfl ?_
    | refine okAskr 0 (askCert_s p.cert hp.2.2.2.2.2.2.2) ⟨⟨rfl, rfl⟩, trivial⟩ (Cos.refl _) rfl ?_
    | refine okWrap (w64 (by simp at h hq; omega) (by simp at h hq; omega)) ?_
    | refine okAgain (q + 1, _) (Sv.mk' [0, 1] rfl ⟨⟨rfl, rfl⟩, ⟨rfl, rfl⟩, trivial⟩ ⟨rfl, rfl, rfl, rfl, rfl, trivial⟩) ⟨?_, ?_⟩ ?_
    | refine okOut ?_
    | refine endAsk [0] (.inl rfl) rfl rfl ⟨⟨rfl, rfl⟩, trivial⟩ ⟨⟨rfl, rfl⟩, trivial⟩ (.refl _) ?_
  · show q + 1 ≤ p.path.length
    simp at h; omega
  · show orE e' (numE x) = _
    rw [listE_at numE hx, ← orE_assoc, ← he2]
    try simp only [numE, orE_assoc]
  · simp at h ⊢; omega
  · rw [he2, wrapE, show p.path.take q = p.path from List.take_of_length_le (by simp at h; omega), he]
    simp only [proofE, manyE, List.length_map, orE_assoc]
end Go.Proofs.YtbbcepmhkocgbaaGreatDoor

/- The asker of package message over messages; message.bare; message.Check (printed by gen_ae.py). -/
namespace Go.Proofs.YtbbcepmhkocgbaaGreatDoor
open Go.RowKit
set_option linter.unusedVariables false
set_option maxRecDepth 20000

theorem okLt {P : Program} {Q : Exit → S → Prop} {a b : Nat} {t f : T} (h1 : a < b → t.ok P Q) (h2 : b ≤ a → f.ok P Q) : (T.br (decide ((a : Int) < (b : Int))) t f).ok P Q :=
  ⟨fun h => h1 (by simpa using h), fun h => h2 (by simpa using h)⟩
theorem signed_s (k : Int) : FnP Tryz.prog 86 [.int .i64 k] (.bool (signedK k)) :=
  FnS.old (v := .bool (signedK k)) (fun _ _ => .bool _) (by kernel_rfl) (fun w I vs hv => by
    obtain ⟨v, rfl, h⟩ := hv.one_inv
    cases h
    exact mSigned_c) rfl
set_option maxHeartbeats 4000000 in
theorem askMsg_s (m : MsgD) (hm : dMsg.ok m) : FnAsk 136 [.agg (cMsg m)] (msgE m) := by
  intro e
  refine mkS 174 [] Tryz.func136 rfl (by kernel_rfl) ?_
  repeat'
    first
    | (rintro ⟨q, e'⟩ ⟨hq, he⟩)
    | ((conv => arg 2; whnf)
       first
       | refine okBrT ?_
       | refine okBrF ?_
       | refine okLt (fun hlt => ?_) (fun hge => ?_)
       | refine okBr (fun h => ?_) (fun h => ?_)
       | refine okNthMap (by simpa using hlt) (fun x hx => ?_)
       | refine okAskr 0 (ask_s _ _ _) ⟨⟨rfl, rfl⟩, trivial⟩ (Cos.refl _) rfl ?_
       | refine okAskr 0 (askNum_s _) ⟨⟨rfl, rfl⟩, trivial⟩ (Cos.refl _) rfl ?_
       | refine okAskr 0 (askPos_s _) ⟨⟨rfl, rfl⟩, trivial⟩ (Cos.refl _) rfl ?_
       | refine okAskr 0 (askBroker_s _) ⟨⟨rfl, rfl⟩, trivial⟩ (Cos.refl _) rfl ?_
       | refine okAskr 0 (askMany_s _ _) ⟨⟨rfl, rfl⟩, trivial⟩ (Cos.refl _) rfl ?_
       | refine okAskr 0 (says_s _) ⟨⟨rfl, rfl⟩, trivial⟩ (Cos.refl _) rfl ?_
       | refine okAskr 0 (askVote_s m) ⟨⟨rfl, rfl⟩, trivial⟩ (Cos.refl _) rfl ?_
       | refine okAskr 0 (askNew_s m hm) ⟨⟨rfl, rfl⟩, trivial⟩ (Cos.refl _) rfl ?_
       | refine okAskr 0 (askCert_s m.cert hm.2.2.2.2.2.2.2.2.2.1) ⟨⟨rfl, rfl⟩, trivial⟩ (Cos.refl _) rfl ?_
       | refine okAskr 0 (askProof_s m.proof hm.2.2.2.2.2.2.2.2.2.2.2.2.2.2.2.1) ⟨⟨rfl, rfl⟩, trivial⟩ (Cos.refl _) rfl ?_
       | refine okAskr 0 (askName_s m.topic hm.2.2.2.2.2.2.2.2.2.2.2.2.2.1) ⟨⟨rfl, rfl⟩, trivial⟩ (Cos.refl _) rfl ?_
       | refine okAskr 0 (askChange_s x (hm.2.2.2.2.2.2.2.2.2.2.1.2 x (List.mem_of_getElem? hx))) ⟨⟨rfl, rfl⟩, trivial⟩ (Cos.refl _) rfl ?_
       | refine okFn (signed_s _) rfl (Cos.refl _) ?_
       | refine okFn (cSign_s m.sign) rfl (Cos.refl _) ?_
       | refine okFn (cBatch_s m.batch hm.2.2.2.2.2.2.2.2.1) rfl (Cos.refl _) ?_
       | refine okWrap (w64 (by simp at hlt hq; omega) (by have := hm.2.2.2.2.2.2.2.2.2.2.1.1; simp at hlt hq this; omega)) ?_
       | refine okAgain (q + 1, orE (orE e' (chgE x)) 100) (Sv.mk' [0, 1] rfl ⟨⟨rfl, rfl⟩, ⟨rfl, rfl⟩, trivial⟩ ⟨rfl, rfl, rfl, rfl, rfl, trivial⟩) ⟨?_, ?_⟩ ?_
       | refine okAgain (q + 1, orE e' (chgE x)) (Sv.mk' [0, 1] rfl ⟨⟨rfl, rfl⟩, ⟨rfl, rfl⟩, trivial⟩ ⟨rfl, rfl, rfl, rfl, rfl, trivial⟩) ⟨?_, ?_⟩ ?_
       | refine okOut ?_
       | refine okLoop (α := Nat × Int) (fun a => ⟨[(90, .int .i64 a.1), (89, .int .i64 (m.changes.map cChange).length), (88, .list 8 (m.changes.map cChange)), (3, .ptr 1 0), (0, .ptr 0 0)], [.cells 195 [.int .i64 a.2], .cells 56 (cMsg m)]⟩) (fun a => a.1 ≤ m.changes.length ∧ a.2 = orE (orE e (rangeE ((m.changes.map cChange).length : Nat) 1 1)) (listE (viewE m) (m.changes.take a.1))) (fun a => m.changes.length - a.1) (0, orE e (rangeE ((m.changes.map cChange).length : Nat) 1 1)) ⟨Nat.zero_le _, by simp [listE, orE_z]⟩ (Sv.mk' [0, 1] rfl ⟨⟨rfl, rfl⟩, ⟨rfl, rfl⟩, trivial⟩ ⟨rfl, rfl, rfl, rfl, rfl, trivial⟩) ?_
       | refine endAsk [0] (.inl rfl) rfl rfl ⟨⟨rfl, rfl⟩, trivial⟩ ⟨⟨rfl, rfl⟩, trivial⟩ (.refl _) ?_
      )
  all_goals first
    | (show q + 1 ≤ m.changes.length; simp at hlt; omega)
    | (show m.changes.length - (q + 1) < m.changes.length - q; simp at hlt; omega)
    | (show orE (orE e' (chgE x)) 100 = _; rw [listE_at (viewE m) hx, ← orE_assoc, ← he]; clear he; simp_all [viewE, orE_assoc, orE_z])
    | (show orE e' (chgE x) = _; rw [listE_at (viewE m) hx, ← orE_assoc, ← he]; clear he; simp_all [viewE, orE_assoc, orE_z])
    | (rw [he, List.take_of_length_le (by simpa using hge)]; clear he; simp_all [msgE, kindE, signedK, manyE, orE_assoc, orE_z])
    | simp_all [msgE, kindE, signedK, manyE, orE_assoc, orE_z]
end Go.Proofs.YtbbcepmhkocgbaaGreatDoor

/- message.bare. -/
namespace Go.Proofs.YtbbcepmhkocgbaaGreatDoor
open Go.RowKit
set_option linter.unusedVariables false
set_option maxRecDepth 20000

set_option maxHeartbeats 2000000 in
theorem bare_s (x : MsgD) : FnP Tryz.prog 137 [.agg (cMsg x)] (.agg (cMsg (bareF x))) := by
  refine mkS 114 [] Tryz.func137 rfl (by kernel_rfl) ?_
  repeat'
    (conv => arg 2; whnf)
    first
    | refine okBrT ?_
    | refine okBrF ?_
    | refine okBr (fun h => ?_) (fun h => ?_)
    | refine okAsk (by kernel_rfl) ?_
    | refine okFn (signed_s _) rfl (Cos.refl _) ?_
  all_goals (refine endFn0 (.inr rfl) rfl (Cos.mkAgg ?_) rfl)
  all_goals simp only [beq_iff_eq, beq_eq_false_iff_ne, ne_eq] at *
  all_goals simp_all [bareF, signedK, cMsg, zMsg]
  all_goals (repeat' first | exact Cos.nil | exact Co.refl _ | exact Co.nil _ | refine Cos.cons ?_ ?_)
end Go.Proofs.YtbbcepmhkocgbaaGreatDoor

/- message.Check over data, and back. -/
namespace Go.Proofs.YtbbcepmhkocgbaaGreatDoor
open Go.RowKit
set_option linter.unusedVariables false
set_option maxRecDepth 20000

theorem zMsg_ok : dMsg.ok zMsg := by
  simp [dMsg, dResult, dCert, dProof, dSign, dM, dP, dI, dS, dY, dL, zMsg, zResult, zCert, zProof, zSign]
theorem okIte {P : MsgD → Prop} {c : Prop} [Decidable c] {a b : MsgD} (h1 : P a) (h2 : P b) : P (if c then a else b) := by
  by_cases h : c
  · rw [if_pos h]; exact h1
  · rw [if_neg h]; exact h2
set_option maxHeartbeats 2000000 in
theorem bare_ok {m : MsgD} (hm : dMsg.ok m) : dMsg.ok (bareF m) := by
  obtain ⟨h1, h2, h3, h4, h5, h6, h7, h8, h9, h10, h11, h12, h13, h14, h15, h16, h17⟩ := hm
  obtain ⟨z1, z2, z3, z4, z5, z6, z7, z8, z9, z10, z11, z12, z13, z14, z15, z16, z17⟩ := zMsg_ok
  have hs : dSign.ok (if signedK m.kind then m.sign else zSign) := by split; exact h17; exact z17
  unfold bareF
  simp only
  generalize (if signedK m.kind = true then m.sign else zSign) = s at hs ⊢
  repeat' refine okIte (P := dMsg.ok) ?_ ?_
  all_goals exact ⟨h1, by first | exact h2 | exact z2, by first | exact h3 | exact z3, by first | exact h4 | exact z4, by first | exact h5 | exact z5, by first | exact h6 | exact z6, by first | exact h7 | exact z7, by first | exact h8 | exact z8, by first | exact h9 | exact z9, by first | exact h10 | exact z10, by first | exact h11 | exact z11, by first | exact h12 | exact z12, by first | exact h13 | exact z13, by first | exact h14 | exact z14, by first | exact h15 | exact z15, by first | exact h16 | exact z16, hs⟩
theorem checkE_b (x : MsgD) : checkE x = if (msgE x == 0) && !eqB x (bareF x) then 100 else msgE x := by
  unfold checkE
  by_cases h1 : msgE x = 0 <;> by_cases h2 : x = bareF x
  · rw [if_neg (fun h => h.2 h2), eqB_true h2]; simp
  · rw [if_pos ⟨h1, h2⟩, eqB_false h2]; simp [h1]
  · rw [if_neg (fun h => h1 h.1)]; simp [h1]
  · rw [if_neg (fun h => h1 h.1)]; simp [h1]
theorem check_s (m : MsgD) (hm : dMsg.ok m) : FnP Tryz.prog 113 [.agg (cMsg m)] (.int .i64 (checkE m)) := by
  refine mkS 18 [] Tryz.func113 rfl (by kernel_rfl) ?_
  repeat'
    (conv => arg 2; whnf)
    first
    | refine okBrT ?_
    | refine okBrF ?_
    | refine okBr (fun h => ?_) (fun h => ?_)
    | refine okAsk (by kernel_rfl) ?_
    | refine okAskr 1 (askMsg_s m hm) ⟨⟨rfl, rfl⟩, trivial⟩ (Cos.refl _) rfl ?_
    | refine okFn (bare_s m) rfl (Cos.refl _) ?_
    | refine okFn (mSame_s m (bareF m) hm (bare_ok hm)) rfl (Cos.refl _) ?_
    | refine endInt (.inr rfl) rfl ?_
  all_goals rw [checkE_b]
  all_goals simp_all [z_orE]
/-- message.Check over readings (as the elder Mk has it) -/
theorem mCheck_c {inn : Nat → Prop} {w : World} {cs : List Value} {x : MsgD} (hx : tMsg.rd inn w cs x) :
    Calls Tryz.prog 113 #[.agg cs.toArray] w (fun r w' => r = .returned (.int .i64 (checkE x)) ∧ B w w') :=
  (check_s x (LkMsg.to hx).2.1).callsInt (LkMsg.arg hx)
end Go.Proofs.YtbbcepmhkocgbaaGreatDoor

/- message.Bytes over data (printed by gen_an.py). -/
namespace Go.Proofs.YtbbcepmhkocgbaaGreatDoor
open Go.RowKit
set_option linter.unusedVariables false
set_option maxRecDepth 20000

theorem okWr1 {Q : Exit → S → Prop} {f : FuncId} {ar ar' : List D} {add bs : List UInt8} {hb : List AO} {c : D → List AO → T} (hF : FnW f ar add) (hl : (bs ++ add).length + 200 ≤ big) (hv : vwP hb [1] [1] (oW bs)) (hc : Cos ar' (D.ren.rl [1] (.ptr 0 0 :: ar))) (hM : ([1].all fun o => (foot hb ar').elem o) = true) (k : (c (.tup []) (upH hb [1] (oW bs) (oW (bs ++ add)))).ok Tryz.prog Q) : (T.call f ar' hb c).ok Tryz.prog Q :=
  okCall [1] (hF bs hl) (.mk' rfl hv) hc hM k
theorem bytes7_s (m : MsgD) (hm : dMsg.ok m) {c : ChangeD} (h7 : m.changes[0]? = some c) (hk : (m.kind == 7) = true) (h0 : checkE m = 0) (hk0 : kindE m = 0) (hl : (unsB m).length + 300 ≤ big) (hb : ¬ 262144 < (unsB m ++ signP c.sign).length) : FnP Tryz.prog 87 [.agg (cMsg m)] (.tup [.list 1 ((unsB m ++ signP c.sign).map cByte), .int .i64 0]) := by
  refine mkS 39 [] Tryz.func87 rfl (by kernel_rfl) ?_
  repeat'
    (conv => arg 2; whnf)
    first
    | refine okAsk (by kernel_rfl) ?_
    | refine okBrT ?_
    | refine okBrF ?_
    | refine okBr (fun h => ?_) (fun h => ?_)
    | refine okFn (check_s m hm) rfl (Cos.refl _) ?_
    | refine okCall [1] (wUns_s m hm hk0 (by omega)) (.mk' rfl ⟨⟨rfl, rfl⟩, trivial⟩) (Cos.refl _) rfl ?_
    | refine okNth (cChange c) (by decide) (by simp [h7]) ?_
    | refine okFn (signed_s _) rfl (Cos.refl _) ?_
    | refine okWr1 (wSign_s c.sign) (by have := signP_l c.sign; rw [List.length_append]; omega) ⟨⟨rfl, rfl⟩, trivial⟩ (Cos.refl _) rfl ?_
    | refine okCall [1] (wShort_s (unsB m ++ signP c.sign) hb) (.mk' rfl ⟨⟨rfl, rfl⟩, trivial⟩) (Cos.refl _) rfl ?_
    | refine endFn0 (.inr rfl) rfl (.refl _) rfl
    | (exfalso; simp_all; done)
theorem bytes7L_s (m : MsgD) (hm : dMsg.ok m) {c : ChangeD} (h7 : m.changes[0]? = some c) (hk : (m.kind == 7) = true) (h0 : checkE m = 0) (hk0 : kindE m = 0) (hl : (unsB m).length + 300 ≤ big) (hb : 262144 < (unsB m ++ signP c.sign).length) : FnP Tryz.prog 87 [.agg (cMsg m)] (.tup [.nils, .int .i64 3]) := by
  refine mkS 39 [] Tryz.func87 rfl (by kernel_rfl) ?_
  repeat'
    (conv => arg 2; whnf)
    first
    | refine okAsk (by kernel_rfl) ?_
    | refine okBrT ?_
    | refine okBrF ?_
    | refine okBr (fun h => ?_) (fun h => ?_)
    | refine okFn (check_s m hm) rfl (Cos.refl _) ?_
    | refine okCall [1] (wUns_s m hm hk0 (by omega)) (.mk' rfl ⟨⟨rfl, rfl⟩, trivial⟩) (Cos.refl _) rfl ?_
    | refine okNth (cChange c) (by decide) (by simp [h7]) ?_
    | refine okFn (signed_s _) rfl (Cos.refl _) ?_
    | refine okWr1 (wSign_s c.sign) (by have := signP_l c.sign; rw [List.length_append]; omega) ⟨⟨rfl, rfl⟩, trivial⟩ (Cos.refl _) rfl ?_
    | refine okCall [1] (wShortL_s (unsB m ++ signP c.sign) hb) (.mk' rfl ⟨⟨rfl, rfl⟩, trivial⟩) (Cos.refl _) rfl ?_
    | refine endFn0 (.inr rfl) rfl (.refl _) rfl
    | (exfalso; simp_all; done)
theorem bytesS_s (m : MsgD) (hm : dMsg.ok m) (hk : (m.kind == 7) = false) (hs : signedK m.kind = true) (h0 : checkE m = 0) (hk0 : kindE m = 0) (hl : (unsB m).length + 300 ≤ big) (hb : ¬ 262144 < (unsB m ++ signP m.sign).length) : FnP Tryz.prog 87 [.agg (cMsg m)] (.tup [.list 1 ((unsB m ++ signP m.sign).map cByte), .int .i64 0]) := by
  refine mkS 39 [] Tryz.func87 rfl (by kernel_rfl) ?_
  repeat'
    (conv => arg 2; whnf)
    first
    | refine okAsk (by kernel_rfl) ?_
    | refine okBrT ?_
    | refine okBrF ?_
    | refine okBr (fun h => ?_) (fun h => ?_)
    | refine okFn (check_s m hm) rfl (Cos.refl _) ?_
    | refine okCall [1] (wUns_s m hm hk0 (by omega)) (.mk' rfl ⟨⟨rfl, rfl⟩, trivial⟩) (Cos.refl _) rfl ?_
    | refine okFn (signed_s _) rfl (Cos.refl _) ?_
    | refine okWr1 (wSign_s m.sign) (by have := signP_l m.sign; rw [List.length_append]; omega) ⟨⟨rfl, rfl⟩, trivial⟩ (Cos.refl _) rfl ?_
    | refine okCall [1] (wShort_s (unsB m ++ signP m.sign) hb) (.mk' rfl ⟨⟨rfl, rfl⟩, trivial⟩) (Cos.refl _) rfl ?_
    | refine endFn0 (.inr rfl) rfl (.refl _) rfl
    | (exfalso; simp_all; done)
theorem bytesSL_s (m : MsgD) (hm : dMsg.ok m) (hk : (m.kind == 7) = false) (hs : signedK m.kind = true) (h0 : checkE m = 0) (hk0 : kindE m = 0) (hl : (unsB m).length + 300 ≤ big) (hb : 262144 < (unsB m ++ signP m.sign).length) : FnP Tryz.prog 87 [.agg (cMsg m)] (.tup [.nils, .int .i64 3]) := by
  refine mkS 39 [] Tryz.func87 rfl (by kernel_rfl) ?_
  repeat'
    (conv => arg 2; whnf)
    first
    | refine okAsk (by kernel_rfl) ?_
    | refine okBrT ?_
    | refine okBrF ?_
    | refine okBr (fun h => ?_) (fun h => ?_)
    | refine okFn (check_s m hm) rfl (Cos.refl _) ?_
    | refine okCall [1] (wUns_s m hm hk0 (by omega)) (.mk' rfl ⟨⟨rfl, rfl⟩, trivial⟩) (Cos.refl _) rfl ?_
    | refine okFn (signed_s _) rfl (Cos.refl _) ?_
    | refine okWr1 (wSign_s m.sign) (by have := signP_l m.sign; rw [List.length_append]; omega) ⟨⟨rfl, rfl⟩, trivial⟩ (Cos.refl _) rfl ?_
    | refine okCall [1] (wShortL_s (unsB m ++ signP m.sign) hb) (.mk' rfl ⟨⟨rfl, rfl⟩, trivial⟩) (Cos.refl _) rfl ?_
    | refine endFn0 (.inr rfl) rfl (.refl _) rfl
    | (exfalso; simp_all; done)
theorem bytesF_s (m : MsgD) (hm : dMsg.ok m) (hk : (m.kind == 7) = false) (hs : signedK m.kind = false) (h0 : checkE m = 0) (hk0 : kindE m = 0) (hl : (unsB m).length + 300 ≤ big) (hb : ¬ 262144 < (unsB m).length) : FnP Tryz.prog 87 [.agg (cMsg m)] (.tup [.list 1 ((unsB m).map cByte), .int .i64 0]) := by
  refine mkS 39 [] Tryz.func87 rfl (by kernel_rfl) ?_
  repeat'
    (conv => arg 2; whnf)
    first
    | refine okAsk (by kernel_rfl) ?_
    | refine okBrT ?_
    | refine okBrF ?_
    | refine okBr (fun h => ?_) (fun h => ?_)
    | refine okFn (check_s m hm) rfl (Cos.refl _) ?_
    | refine okCall [1] (wUns_s m hm hk0 (by omega)) (.mk' rfl ⟨⟨rfl, rfl⟩, trivial⟩) (Cos.refl _) rfl ?_
    | refine okFn (signed_s _) rfl (Cos.refl _) ?_
    | refine okCall [1] (wShort_s (unsB m) hb) (.mk' rfl ⟨⟨rfl, rfl⟩, trivial⟩) (Cos.refl _) rfl ?_
    | refine endFn0 (.inr rfl) rfl (.refl _) rfl
    | (exfalso; simp_all; done)
theorem bytesFL_s (m : MsgD) (hm : dMsg.ok m) (hk : (m.kind == 7) = false) (hs : signedK m.kind = false) (h0 : checkE m = 0) (hk0 : kindE m = 0) (hl : (unsB m).length + 300 ≤ big) (hb : 262144 < (unsB m).length) : FnP Tryz.prog 87 [.agg (cMsg m)] (.tup [.nils, .int .i64 3]) := by
  refine mkS 39 [] Tryz.func87 rfl (by kernel_rfl) ?_
  repeat'
    (conv => arg 2; whnf)
    first
    | refine okAsk (by kernel_rfl) ?_
    | refine okBrT ?_
    | refine okBrF ?_
    | refine okBr (fun h => ?_) (fun h => ?_)
    | refine okFn (check_s m hm) rfl (Cos.refl _) ?_
    | refine okCall [1] (wUns_s m hm hk0 (by omega)) (.mk' rfl ⟨⟨rfl, rfl⟩, trivial⟩) (Cos.refl _) rfl ?_
    | refine okFn (signed_s _) rfl (Cos.refl _) ?_
    | refine okCall [1] (wShortL_s (unsB m) hb) (.mk' rfl ⟨⟨rfl, rfl⟩, trivial⟩) (Cos.refl _) rfl ?_
    | refine endFn0 (.inr rfl) rfl (.refl _) rfl
    | (exfalso; simp_all; done)
theorem bytesNo_s (m : MsgD) (hm : dMsg.ok m) (h0 : ¬ checkE m = 0) : FnP Tryz.prog 87 [.agg (cMsg m)] (.tup [.nils, .int .i64 (checkE m)]) := by
  refine mkS 39 [] Tryz.func87 rfl (by kernel_rfl) ?_
  repeat'
    (conv => arg 2; whnf)
    first
    | refine okAsk (by kernel_rfl) ?_
    | refine okBrT ?_
    | refine okBrF ?_
    | refine okBr (fun h => ?_) (fun h => ?_)
    | refine okFn (check_s m hm) rfl (Cos.refl _) ?_
    | refine endFn0 (.inr rfl) rfl (.refl _) rfl
    | (exfalso; simp_all; done)
end Go.Proofs.YtbbcepmhkocgbaaGreatDoor

/- message.some; message.Unsigned over data (printed by gen_ao.py). -/
namespace Go.Proofs.YtbbcepmhkocgbaaGreatDoor
open Go.RowKit
set_option linter.unusedVariables false
set_option maxRecDepth 20000

theorem some_s : FnP Tryz.prog 85 [] (.agg (cSign someS)) := by
  refine mkS 2 [] Tryz.func85 rfl (by kernel_rfl) ?_
  repeat'
    (conv => arg 2; whnf)
    first
    | refine okAsk (by kernel_rfl) ?_
    | refine endFn0 (.inr rfl) rfl (.refl _) rfl
theorem unsignedS_s (m : MsgD) (hm : dMsg.ok { m with sign := someS }) (hk : (m.kind == 7) = false) (hs : signedK m.kind = true) (h0 : checkE { m with sign := someS } = 0) (hk0 : kindE { m with sign := someS } = 0) (hl : (unsB { m with sign := someS }).length + 300 ≤ big) (hb : ¬ 262144 < (unsB { m with sign := someS } ++ signP someS).length) : FnP Tryz.prog 58 [.agg (cMsg m)] (.tup [.list 1 ((unsB { m with sign := someS }).map cByte), .int .i64 0]) := by
  refine mkS 51 [] Tryz.func58 rfl (by kernel_rfl) ?_
  repeat'
    (conv => arg 2; whnf)
    first
    | refine okAsk (by kernel_rfl) ?_
    | refine okBrT ?_
    | refine okBrF ?_
    | refine okBr (fun h => ?_) (fun h => ?_)
    | refine okFn some_s rfl (Cos.refl _) ?_
    | refine okFn (signed_s _) rfl (Cos.refl _) ?_
    | refine okFn (bytesS_s { m with sign := someS } hm hk hs h0 hk0 hl hb) rfl (Cos.refl _) ?_
    | refine okCall [1] (wUns_s { m with sign := someS } hm hk0 (by omega)) (.mk' rfl ⟨⟨rfl, rfl⟩, trivial⟩) (Cos.refl _) rfl ?_
    | refine endFn0 (.inr rfl) rfl (.refl _) rfl
    | (exfalso; simp_all; done)
theorem unsignedSL_s (m : MsgD) (hm : dMsg.ok { m with sign := someS }) (hk : (m.kind == 7) = false) (hs : signedK m.kind = true) (h0 : checkE { m with sign := someS } = 0) (hk0 : kindE { m with sign := someS } = 0) (hl : (unsB { m with sign := someS }).length + 300 ≤ big) (hb : 262144 < (unsB { m with sign := someS } ++ signP someS).length) : FnP Tryz.prog 58 [.agg (cMsg m)] (.tup [.nils, .int .i64 3]) := by
  refine mkS 51 [] Tryz.func58 rfl (by kernel_rfl) ?_
  repeat'
    (conv => arg 2; whnf)
    first
    | refine okAsk (by kernel_rfl) ?_
    | refine okBrT ?_
    | refine okBrF ?_
    | refine okBr (fun h => ?_) (fun h => ?_)
    | refine okFn some_s rfl (Cos.refl _) ?_
    | refine okFn (signed_s _) rfl (Cos.refl _) ?_
    | refine okFn (bytesSL_s { m with sign := someS } hm hk hs h0 hk0 hl hb) rfl (Cos.refl _) ?_
    | refine endFn0 (.inr rfl) rfl (.refl _) rfl
    | (exfalso; simp_all; done)
theorem unsignedSNo_s (m : MsgD) (hm : dMsg.ok { m with sign := someS }) (hk : (m.kind == 7) = false) (hs : signedK m.kind = true) (h0 : ¬ checkE { m with sign := someS } = 0) : FnP Tryz.prog 58 [.agg (cMsg m)] (.tup [.nils, .int .i64 (checkE { m with sign := someS })]) := by
  refine mkS 51 [] Tryz.func58 rfl (by kernel_rfl) ?_
  repeat'
    (conv => arg 2; whnf)
    first
    | refine okAsk (by kernel_rfl) ?_
    | refine okBrT ?_
    | refine okBrF ?_
    | refine okBr (fun h => ?_) (fun h => ?_)
    | refine okFn some_s rfl (Cos.refl _) ?_
    | refine okFn (signed_s _) rfl (Cos.refl _) ?_
    | refine okFn (bytesNo_s { m with sign := someS } hm h0) rfl (Cos.refl _) ?_
    | refine endFn0 (.inr rfl) rfl (.refl _) rfl
    | (exfalso; simp_all; done)
theorem unsignedF_s (m : MsgD) (hm : dMsg.ok m) (hk : (m.kind == 7) = false) (hs : signedK m.kind = false) (h0 : checkE m = 0) (hk0 : kindE m = 0) (hl : (unsB m).length + 300 ≤ big) (hb : ¬ 262144 < (unsB m).length) : FnP Tryz.prog 58 [.agg (cMsg m)] (.tup [.list 1 ((unsB m).map cByte), .int .i64 0]) := by
  refine mkS 51 [] Tryz.func58 rfl (by kernel_rfl) ?_
  repeat'
    (conv => arg 2; whnf)
    first
    | refine okAsk (by kernel_rfl) ?_
    | refine okBrT ?_
    | refine okBrF ?_
    | refine okBr (fun h => ?_) (fun h => ?_)
    | refine okFn some_s rfl (Cos.refl _) ?_
    | refine okFn (signed_s _) rfl (Cos.refl _) ?_
    | refine okFn (bytesF_s m hm hk hs h0 hk0 hl hb) rfl (Cos.refl _) ?_
    | refine okCall [1] (wUns_s m hm hk0 (by omega)) (.mk' rfl ⟨⟨rfl, rfl⟩, trivial⟩) (Cos.refl _) rfl ?_
    | refine endFn0 (.inr rfl) rfl (.refl _) rfl
    | (exfalso; simp_all; done)
theorem unsignedFL_s (m : MsgD) (hm : dMsg.ok m) (hk : (m.kind == 7) = false) (hs : signedK m.kind = false) (h0 : checkE m = 0) (hk0 : kindE m = 0) (hl : (unsB m).length + 300 ≤ big) (hb : 262144 < (unsB m).length) : FnP Tryz.prog 58 [.agg (cMsg m)] (.tup [.nils, .int .i64 3]) := by
  refine mkS 51 [] Tryz.func58 rfl (by kernel_rfl) ?_
  repeat'
    (conv => arg 2; whnf)
    first
    | refine okAsk (by kernel_rfl) ?_
    | refine okBrT ?_
    | refine okBrF ?_
    | refine okBr (fun h => ?_) (fun h => ?_)
    | refine okFn some_s rfl (Cos.refl _) ?_
    | refine okFn (signed_s _) rfl (Cos.refl _) ?_
    | refine okFn (bytesFL_s m hm hk hs h0 hk0 hl hb) rfl (Cos.refl _) ?_
    | refine endFn0 (.inr rfl) rfl (.refl _) rfl
    | (exfalso; simp_all; done)
theorem unsignedFNo_s (m : MsgD) (hm : dMsg.ok m) (hk : (m.kind == 7) = false) (hs : signedK m.kind = false) (h0 : ¬ checkE m = 0) : FnP Tryz.prog 58 [.agg (cMsg m)] (.tup [.nils, .int .i64 (checkE m)]) := by
  refine mkS 51 [] Tryz.func58 rfl (by kernel_rfl) ?_
  repeat'
    (conv => arg 2; whnf)
    first
    | refine okAsk (by kernel_rfl) ?_
    | refine okBrT ?_
    | refine okBrF ?_
    | refine okBr (fun h => ?_) (fun h => ?_)
    | refine okFn some_s rfl (Cos.refl _) ?_
    | refine okFn (signed_s _) rfl (Cos.refl _) ?_
    | refine okFn (bytesNo_s m hm h0) rfl (Cos.refl _) ?_
    | refine endFn0 (.inr rfl) rfl (.refl _) rfl
    | (exfalso; simp_all; done)
theorem unsigned7_s (m : MsgD) (c : ChangeD) (hm : dMsg.ok { m with changes := [{ c with sign := someS }] }) (hk : (m.kind == 7) = true) (hc : m.changes = [c]) (h0 : checkE { m with changes := [{ c with sign := someS }] } = 0) (hk0 : kindE { m with changes := [{ c with sign := someS }] } = 0) (hl : (unsB { m with changes := [{ c with sign := someS }] }).length + 300 ≤ big) (hb : ¬ 262144 < (unsB { m with changes := [{ c with sign := someS }] } ++ signP someS).length) : FnP Tryz.prog 58 [.agg (cMsg m)] (.tup [.list 1 ((unsB { m with changes := [{ c with sign := someS }] }).map cByte), .int .i64 0]) := by
  refine mkS 51 [] Tryz.func58 rfl (by kernel_rfl) ?_
  repeat'
    (conv => arg 2; whnf)
    first
    | refine okAsk (by kernel_rfl) ?_
    | refine okBrT ?_
    | refine okBrF ?_
    | refine okBr (fun h => ?_) (fun h => ?_)
    | refine okNth (cChange c) (by decide) (by simp [hc]) ?_
    | refine okFn some_s rfl (Cos.refl _) ?_
    | refine okFn (signed_s _) rfl (Cos.refl _) ?_
    | refine okFn (bytes7_s { m with changes := [{ c with sign := someS }] } hm (c := { c with sign := someS }) rfl hk h0 hk0 hl hb) rfl (Cos.refl _) ?_
    | refine okCall [1] (wUns_s { m with changes := [{ c with sign := someS }] } hm hk0 (by omega)) (.mk' rfl ⟨⟨rfl, rfl⟩, trivial⟩) (Cos.refl _) rfl ?_
    | refine okCall [2] (wUns_s { m with changes := [{ c with sign := someS }] } hm hk0 (by omega)) (.mk' rfl ⟨⟨rfl, rfl⟩, trivial⟩) (Cos.refl _) rfl ?_
    | refine endFn0 (.inr rfl) rfl (.refl _) rfl
    | (exfalso; simp_all; done)
theorem unsigned7L_s (m : MsgD) (c : ChangeD) (hm : dMsg.ok { m with changes := [{ c with sign := someS }] }) (hk : (m.kind == 7) = true) (hc : m.changes = [c]) (h0 : checkE { m with changes := [{ c with sign := someS }] } = 0) (hk0 : kindE { m with changes := [{ c with sign := someS }] } = 0) (hl : (unsB { m with changes := [{ c with sign := someS }] }).length + 300 ≤ big) (hb : 262144 < (unsB { m with changes := [{ c with sign := someS }] } ++ signP someS).length) : FnP Tryz.prog 58 [.agg (cMsg m)] (.tup [.nils, .int .i64 3]) := by
  refine mkS 51 [] Tryz.func58 rfl (by kernel_rfl) ?_
  repeat'
    (conv => arg 2; whnf)
    first
    | refine okAsk (by kernel_rfl) ?_
    | refine okBrT ?_
    | refine okBrF ?_
    | refine okBr (fun h => ?_) (fun h => ?_)
    | refine okNth (cChange c) (by decide) (by simp [hc]) ?_
    | refine okFn some_s rfl (Cos.refl _) ?_
    | refine okFn (signed_s _) rfl (Cos.refl _) ?_
    | refine okFn (bytes7L_s { m with changes := [{ c with sign := someS }] } hm (c := { c with sign := someS }) rfl hk h0 hk0 hl hb) rfl (Cos.refl _) ?_
    | refine endFn0 (.inr rfl) rfl (.refl _) rfl
    | (exfalso; simp_all; done)
theorem unsigned7No_s (m : MsgD) (c : ChangeD) (hm : dMsg.ok { m with changes := [{ c with sign := someS }] }) (hk : (m.kind == 7) = true) (hc : m.changes = [c]) (h0 : ¬ checkE { m with changes := [{ c with sign := someS }] } = 0) : FnP Tryz.prog 58 [.agg (cMsg m)] (.tup [.nils, .int .i64 (checkE { m with changes := [{ c with sign := someS }] })]) := by
  refine mkS 51 [] Tryz.func58 rfl (by kernel_rfl) ?_
  repeat'
    (conv => arg 2; whnf)
    first
    | refine okAsk (by kernel_rfl) ?_
    | refine okBrT ?_
    | refine okBrF ?_
    | refine okBr (fun h => ?_) (fun h => ?_)
    | refine okNth (cChange c) (by decide) (by simp [hc]) ?_
    | refine okFn some_s rfl (Cos.refl _) ?_
    | refine okFn (signed_s _) rfl (Cos.refl _) ?_
    | refine okFn (bytesNo_s { m with changes := [{ c with sign := someS }] } hm h0) rfl (Cos.refl _) ?_
    | refine endFn0 (.inr rfl) rfl (.refl _) rfl
    | (exfalso; simp_all; done)
end Go.Proofs.YtbbcepmhkocgbaaGreatDoor

/- Small words: a box stored whole; a message's cells; what may not be wrong. -/
namespace Go.Proofs.YtbbcepmhkocgbaaGreatDoor
open Go.RowKit Go.Deep
set_option linter.unusedVariables false

theorem setRow_B {a w : World} {g : Nat} {t : TypeId} {cs : Array Value} (h : B a w) (hg : a.heap.size ≤ g) (cs' : Array Value) : B a (w.setRow g cs') :=
  ⟨h.os, h.tape, h.output, by rw [setRow_size]; exact h.size, fun b hb => by rw [setRow_other _ _ _ _ (by omega)]; exact h.block b hb⟩
theorem aBlk.setRow {W w : World} {L : List Asn} {g : Nat} {t : TypeId} {cs : Array Value} (h : St W w (aBlk g t cs :: L)) (cs' : Array Value) : St W (w.setRow g cs') (aBlk g t cs' :: L) := by
  obtain ⟨own, h1, h2, h3⟩ := h.focus
  refine h3 _ (aBlk g t cs') ?_ ⟨.inl h1.1, setRow_heap _ _ _ _ _ _ h1.2⟩
  exact ⟨rfl, rfl, rfl, by rw [setRow_size]; exact Nat.le_refl _, fun b hb hn => setRow_other _ _ _ _ (fun e => hn (by rw [e]; exact h1.1))⟩
theorem rangeE0 {n a b : Int} (h : rangeE n a b = 0) : a ≤ n ∧ n ≤ b := by
  unfold rangeE at h
  split at h
  · cases h
  · omega
theorem checkE_msg {x : MsgD} (h : checkE x = 0) : msgE x = 0 := by
  unfold checkE at h
  split at h
  · cases h
  · exact h
theorem msgE_kind {x : MsgD} (h : msgE x = 0) : kindE x = 0 := by
  exact (orE_zero.1 h).1
theorem tMsg.len {inn : Nat → Prop} {w : World} {cs : List Value} {x : MsgD} (hx : tMsg.rd inn w cs x) : cs.toArray.size = 30 := by
  obtain ⟨av1, av2, av3, av4, av5, av6, av7, av8, av9, rfl, af0⟩ := tMsg.parts hx
  rfl
theorem mInfo : (Tryz.prog.info? 56).map (·.size) = some 30 := by kernel_rfl
theorem St.under {W W1 w' : World} {L : List Asn} (hb : B W W1) (h : St W1 w' L) : St W w' L :=
  ⟨hb.trans h.1, h.2.mono (fun b _ hb' => Nat.le_trans hb.size hb')⟩
/-- what is wrong with a message's bytes -/
noncomputable def bytesE (x : MsgD) : Int := if checkE x = 0 then (if 262144 < (fullB x).length then 3 else 0) else checkE x
theorem bytesE0 {x : MsgD} : bytesE x = 0 ↔ checkE x = 0 ∧ (fullB x).length ≤ 262144 := by
  unfold bytesE
  split
  · rename_i h
    split
    · rename_i h2; constructor
      · intro h3; cases h3
      · intro h3; omega
    · rename_i h2; exact ⟨fun _ => ⟨h, by omega⟩, fun _ => rfl⟩
  · rename_i h; exact ⟨fun h2 => absurd h2 h, fun h2 => absurd h2.1 h⟩
theorem unsOk_E {x : MsgD} : unsOk x ↔ bytesE (withS x) = 0 := bytesE0.symm
/-- what a message's cells say -/
theorem tMsg.cells {inn : Nat → Prop} {w : World} {cs : List Value} {x : MsgD} (hx : tMsg.rd inn w cs x) : cs.toArray[0]? = some (.int .i64 x.kind) ∧ (∃ a c, cs.toArray[13]? = some (.slice a x.changes.length c)) ∧ (∃ v, cs.toArray[28]? = some v) ∧ (∃ v, cs.toArray[29]? = some v) ∧ (∀ h : 0 < cs.toArray.size, cs.toArray[0]'h = .int .i64 x.kind) := by
  obtain ⟨av1, av2, av3, av4, av5, av6, av7, av8, av9, rfl, af0, af1, af2, af3, af4, af5, af6, af7, af8, af9, af10, af11, af12, af13, af14, af15, af16, af17, af18, af19, af20, af21, af22, af23, af24, af25, af26, af27, af28, af29⟩ := tMsg.parts hx
  obtain ⟨a, c, he, hl⟩ := tL.slice af13
  injection he with he _
  exact ⟨rfl, ⟨a, c, by rw [he]; rfl⟩, ⟨_, rfl⟩, ⟨_, rfl⟩, fun _ => rfl⟩
/-- its changes -/
theorem tMsg.chg {inn : Nat → Prop} {w : World} {cs : List Value} {x : MsgD} (hx : tMsg.rd inn w cs x) : ∃ a c, cs.toArray[13]? = some (.slice a x.changes.length c) ∧ (tL tChange).rd inn w [.slice a x.changes.length c] x.changes := by
  obtain ⟨av1, av2, av3, av4, av5, av6, av7, av8, av9, rfl, af0, af1, af2, af3, af4, af5, af6, af7, af8, af9, af10, af11, af12, af13, af14, af15, af16, af17, af18, af19, af20, af21, af22, af23, af24, af25, af26, af27, af28, af29⟩ := tMsg.parts hx
  obtain ⟨a, c, he, hl⟩ := tL.slice af13
  injection he with he _
  subst he
  exact ⟨a, c, rfl, af13⟩
end Go.Proofs.YtbbcepmhkocgbaaGreatDoor

