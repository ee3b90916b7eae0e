/- Lemmas and contracts, part Zb16.2. -/
import Derived.Test.YtbbcepmhkocgbaaGreatDoorZb16
import Derived.Deep.QuietTactic
import Derived.BigQuiet
/- The reference's requests, signatures, batches, over data: what may be, their bytes (printed by gen_bc.py). -/
namespace Go.Proofs.YtbbcepmhkocgbaaGreatDoor
open Go.RowKit
set_option linter.unusedVariables false
set_option maxRecDepth 20000

theorem rKeyB_s [Wd] (n : Int) (h : n < 0 ∨ 8 ≤ n) : FnP Tryz.prog 179 [.int .i64 n] (.int .i64 (-1)) := by
  have := rKey_s n
  rwa [if_pos h] at this
theorem rKeyG_s [Wd] (n : Int) (h : ¬ (n < 0 ∨ 8 ≤ n)) : FnP Tryz.prog 179 [.int .i64 n] (.int .i64 (13 + n)) := by
  have := rKey_s n
  rwa [if_neg h] at this
theorem rCheckReq_s [Wd] (x : RequestD) (hx : dRequest.ok x) : FnP Tryz.prog 157 [.agg (cRequest x)] (.int .i64 (reqE x)) := by
  by_cases hk : x.client < 0 ∨ 8 ≤ x.client
  · have e : reqE x = 80 := by unfold reqE; rw [if_pos (by omega)]
    refine mkS 20 [] Tryz.func157 rfl (by kernel_rfl) ?_
    repeat'
      (conv => arg 2; whnf)
      first
      | refine okAsk (by kernel_rfl) ?_
      | refine okBrT ?_
      | refine okBrF ?_
      | refine okBr (fun h => ?_) (fun h => ?_)
      | refine okFn (rKeyB_s x.client hk) rfl (Cos.refl _) ?_
      | refine okFn (rKeyG_s x.client hk) rfl (Cos.refl _) ?_
      | refine okFn (rOpCheck_s x.op hx.2.2) rfl (Cos.refl _) ?_
      | refine endInt (.inr rfl) rfl e.symm
      | (exfalso; simp at *; done)
      | (exfalso; simp at *; omega)
  · refine mkS 20 [] Tryz.func157 rfl (by kernel_rfl) ?_
    repeat'
      (conv => arg 2; whnf)
      first
      | refine okAsk (by kernel_rfl) ?_
      | refine okBrT ?_
      | refine okBrF ?_
      | refine okBr (fun h => ?_) (fun h => ?_)
      | refine okFn (rKeyB_s x.client hk) rfl (Cos.refl _) ?_
      | refine okFn (rKeyG_s x.client hk) rfl (Cos.refl _) ?_
      | refine okFn (rOpCheck_s x.op hx.2.2) rfl (Cos.refl _) ?_
      | (refine endInt (.inr rfl) rfl ?_; unfold reqE; rw [if_pos (by simp at *; omega)]; done)
      | (refine endInt (.inr rfl) rfl ?_; unfold reqE; rw [if_neg (by simp at *; omega)]; done)
      | (exfalso; simp at *; omega)
theorem reqZ {x : RequestD} (h : reqE x = 0) : 0 ≤ x.client ∧ x.client ≤ 7 ∧ 1 ≤ x.time ∧ x.time ≤ 9007199254740992 ∧ opE x.op = 0 := by
  unfold reqE at h
  split at h
  · cases h
  · refine ⟨by omega, by omega, by omega, by omega, h⟩
theorem rReqBytes_s [Wd] (x : RequestD) (hx : dRequest.ok x) (h0 : reqE x = 0) : FnP Tryz.prog 133 [.agg (cRequest x)] (.tup [.list 1 ((reqB x).map cByte), .int .i64 0]) := by
  have z := reqZ h0
  have p1 := encI_l10 x.client
  have p2 := encI_l10 x.time
  have e1 : encI x.client = enc x.client.toNat := encI_nat z.1 (by omega)
  have e2 : encI x.time = enc x.time.toNat := encI_nat (by omega) (by omega)
  have hb : 300000000 ≤ big := by simp [big]
  refine mkS 24 [] Tryz.func133 rfl (by kernel_rfl) ?_
  repeat'
    (conv => arg 2; whnf)
    first
    | refine okAsk (by kernel_rfl) ?_
    | refine okBrT ?_
    | refine okBrF ?_
    | refine okBr (fun h => ?_) (fun h => ?_)
    | refine okFn (rCheckReq_s x hx) rfl (Cos.refl _) ?_
    | refine okRaw ?_
    | refine okFn (rPutNum_s [] (x.client) (by simp [big])) rfl (Cos.cons (Co.nil _) (.refl _)) ?_
    | refine okFn (rPutNum_s _ x.time (by (try simp only [List.length_append, List.length_nil]); omega)) rfl (Cos.refl _) ?_
    | refine okFn (rOpPut_s _ x.op hx.2.2 (by (try simp only [List.length_append, List.length_nil]); omega)) rfl (Cos.refl _) ?_
    | (refine endBy2 (.inr rfl) rfl ?_ rfl; simp [reqB, opP, z, e1, e2, List.append_assoc]; done)
    | (exfalso; simp [h0] at h; done)
theorem rPutSign_s [Wd] (bs : List UInt8) (s : SignD) (hl : bs.length + 200 ≤ big) : FnP Tryz.prog 102 [.list 1 (bs.map cByte), .agg (cSign s)] (.list 1 ((bs ++ signP s).map cByte)) := by
  have p1 := encI_l10 s.key
  by_cases h0 : signE s = 0
  · have z := signE0 h0
    have e1 : encI s.key = enc s.key.toNat := encI_nat z.1.1 (by omega)
    have e2 : encI s.digest = enc s.digest.toNat := encI_nat (by omega) (by omega)
    refine mkS 18 [(3, ⟨[(0, false), (1, false), (2, false), (3, false), (5, false), (6, false), (7, false), (4, true), (8, true), (9, false)], []⟩)] Tryz.func102 rfl (by kernel_rfl) ?_
    repeat'
      (conv => arg 2; whnf)
      first
      | refine okAsk (by kernel_rfl) ?_
      | refine okBrT ?_
      | refine okBrF ?_
      | refine okBr (fun h => ?_) (fun h => ?_)
      | refine okFn (rCheckSign_s s) rfl (Cos.refl _) ?_
      | refine okRaw ?_
      | refine okFn (rPutNum_s _ (s.key) (by (try simp only [List.length_append, List.length_nil]); omega)) rfl (Cos.refl _) ?_
      | refine okFn (rPutNum_s _ (s.digest) (by (try simp only [List.length_append, List.length_nil]); omega)) rfl (Cos.refl _) ?_
      | (refine endBy (.inr rfl) rfl ?_; rw [signP, if_pos h0]; simp [signB, e1, e2]; done)
      | (exfalso; simp [h0] at h; done)
  · refine mkS 18 [(3, ⟨[(0, false), (1, false), (2, false), (3, false), (5, false), (6, false), (7, false), (4, true), (8, true), (9, false)], []⟩)] Tryz.func102 rfl (by kernel_rfl) ?_
    repeat'
      (conv => arg 2; whnf)
      first
      | refine okAsk (by kernel_rfl) ?_
      | refine okBrT ?_
      | refine okBrF ?_
      | refine okBr (fun h => ?_) (fun h => ?_)
      | refine okFn (rCheckSign_s s) rfl (Cos.refl _) ?_
      | refine okRaw ?_
      | (refine endBy (.inr rfl) rfl ?_; simp [signP, h0]; done)
      | (exfalso; simp [h0] at h; done)
theorem resI2 {a : Int} (h : 0 ≤ a ∧ a ≤ 9223372036854775807) : encI (if 0 < a then a else 0) = enc (max a 0).toNat := by
  rw [show (if 0 < a then a else 0) = a from by split <;> omega, encI_nat h.1 (by omega), Int.max_eq_left h.1]
theorem rPutResult_s [Wd] (bs : List UInt8) (x : ResultD) (he : 0 ≤ x.err ∧ x.err ≤ 9223372036854775807) (ho : 0 ≤ x.offset ∧ x.offset ≤ 9223372036854775807) (hl : bs.length + 200 ≤ big) : FnP Tryz.prog 106 [.list 1 (bs.map cByte), .agg (cResult x)] (.list 1 ((bs ++ resultB x).map cByte)) := by
  have p1 := encI_l10 (if 0 < x.err then x.err else 0)
  refine mkS 16 [(1, ⟨[(0, false), (1, false), (2, false), (3, false), (4, false), (6, false), (7, false), (8, false), (9, false), (5, true), (10, true), (11, false)], []⟩)] Tryz.func106 rfl (by kernel_rfl) ?_
  repeat'
    (conv => arg 2; whnf)
    first
    | refine okAsk (by kernel_rfl) ?_
    | refine okBrT ?_
    | refine okBrF ?_
    | refine okBr (fun h => ?_) (fun h => ?_)
    | refine okRaw ?_
    | refine okFn (rPutNum_s _ _ (by (try simp only [List.length_append, List.length_nil]); omega)) rfl (Cos.refl _) ?_
    | (refine endBy (.inr rfl) rfl ?_; rw [resI2 he, resI2 ho, List.append_assoc]; rfl)
theorem parts_app : ∀ a b : List SignedD, partsE (a ++ b) = orE (partsE a) (partsE b)
  | [], b => by simp [partsE, z_orE]
  | x :: a, b => by simp only [List.cons_append, partsE, parts_app a b, orE_assoc]
theorem parts_at {l : List SignedD} {q : Nat} {x : SignedD} (hx : l[q]? = some x) (he : partsE (l.take q) = 0) : partsE l = orE (reqE x.request) (orE (signE x.sign) (partsE (l.drop (q + 1)))) := by
  have hlt := (List.getElem?_eq_some_iff.1 hx).1
  have e : l = l.take q ++ x :: l.drop (q + 1) := by
    conv => lhs; rw [← List.take_append_drop q l]
    rw [List.drop_eq_getElem_cons hlt, (List.getElem?_eq_some_iff.1 hx).2]
  rw [e, parts_app, he, z_orE, ← e]
  rfl
theorem parts_go {l : List SignedD} {q : Nat} {x : SignedD} (hx : l[q]? = some x) (he : partsE (l.take q) = 0) (h1 : reqE x.request = 0) (h2 : signE x.sign = 0) : partsE (l.take (q + 1)) = 0 := by
  rw [List.take_add_one, hx, parts_app, he]
  simp [partsE, h1, h2, orE]
theorem parts_no {l : List SignedD} (hl : ¬ 4 < l.length) (h : ¬ partsE l = 0) : batchE l = partsE l := by
  unfold batchE orE
  rw [if_neg hl, if_neg h]
def twF (l : List SignedD) (i k : Nat) : Bool := match l[i]?, l[k]? with | some a, some b => twin a b | _, _ => false
theorem twins_eq (l : List SignedD) : twinsF l = (List.range l.length).any fun i => (List.range i).any fun k => twF l i k := rfl
theorem range_go {f : Nat → Bool} {k : Nat} (h : (List.range k).any f = false) (h1 : f k = false) : (List.range (k + 1)).any f = false := by
  rw [List.range_succ, List.any_append, h]
  simp [h1]
theorem twin_yes {l : List SignedD} {i k : Nat} (hi : i < l.length) (hk : k < i) (h : twF l i k = true) : twinsF l = true := by
  rw [twins_eq, List.any_eq_true]
  exact ⟨i, List.mem_range.2 hi, List.any_eq_true.2 ⟨k, List.mem_range.2 hk, h⟩⟩
theorem tw_at {l : List SignedD} {i k : Nat} {x y : SignedD} (hx : l[i]? = some x) (hy : l[k]? = some y) : twF l i k = ((x.request.client == y.request.client) && (x.request.time == y.request.time)) := by
  unfold twF
  rw [hx, hy]
  rfl
theorem rCheckBatch_s [Wd] (l : List SignedD) (hl : (dL dSigned).ok l) : FnP Tryz.prog 132 [.list 9 (l.map cSigned)] (.int .i64 (batchE l)) := by
  have HL : l.length ≤ 4194304 := hl.1
  refine mkS 74 [] Tryz.func132 rfl (by kernel_rfl) ?_
  repeat'
    (conv => arg 2; whnf)
    first
    | refine okAsk (by kernel_rfl) ?_
    | refine okBrT ?_
    | refine okBrF ?_
    | refine okBr (fun h => ?_) (fun h => ?_)
    | (refine endInt (.inr rfl) rfl ?_; unfold batchE; rw [if_pos (by simp at h; omega)]; done)
  have h4 : ¬ 4 < l.length := by simp at h; omega
  clear h
  refine okLoop (α := Nat) (fun q => ⟨[(3, .int .i64 q), (0, .list 9 (l.map cSigned))], []⟩) (fun q => q ≤ l.length ∧ partsE (l.take q) = 0) (fun q => l.length - q) 0 ⟨Nat.zero_le _, rfl⟩ (Sv.mk' [] rfl trivial ⟨rfl, rfl, trivial⟩) ?_
  rintro q ⟨hq, he⟩
  repeat'
    (conv => arg 2; whnf)
    first
    | refine okAsk (by kernel_rfl) ?_
    | refine okBrT ?_
    | refine okBrF ?_
    | refine okBr (fun h => ?_) (fun h => ?_)
    | refine okNthMap (l := l) (by simp at h; omega) (fun x hx => ?_)
    | refine okNthAt hx ?_
    | refine okFn (rCheckReq_s x.request (hl.2 x (List.mem_of_getElem? hx)).1) rfl (Cos.refl _) ?_
    | refine okFn (rCheckSign_s x.sign) rfl (Cos.refl _) ?_
    | refine okWrap (w64 (by omega) (by have := (List.getElem?_eq_some_iff.1 hx).1; omega)) ?_
    | refine okAgain (q + 1) (Sv.mk' [] rfl trivial ⟨rfl, rfl, trivial⟩) ⟨by have := (List.getElem?_eq_some_iff.1 hx).1; omega, parts_go hx he (by simp_all) (by simp_all)⟩ (by have := (List.getElem?_eq_some_iff.1 hx).1; omega)
    | refine okOut ?_
    | refine okRet ?_
    | (have hp := parts_at hx he; refine endInt (.inr rfl) rfl ?_; have h1 : ¬ reqE x.request = 0 := (by simpa using h); rw [parts_no h4 (by rw [hp, orE, if_neg h1]; exact h1), hp, orE, if_neg h1])
    | (have hp := parts_at hx he; refine endInt (.inr rfl) rfl ?_; have h1 : ¬ signE x.sign = 0 := (by simpa using h); have h2 : reqE x.request = 0 := (by simp_all); rw [parts_no h4 (by rw [hp, h2, z_orE, orE, if_neg h1]; exact h1), hp, h2, z_orE, orE, if_neg h1])
  have hp : partsE l = 0 := by rw [List.take_of_length_le (by simp at h; omega)] at he; exact he
  clear he hq h
  refine okLoop (α := Nat) (fun i => ⟨[(6, .int .i64 i), (0, .list 9 (l.map cSigned))], []⟩) (fun i => i ≤ l.length ∧ ((List.range i).any fun i => (List.range i).any fun k => twF l i k) = false) (fun i => l.length - i) 0 ⟨Nat.zero_le _, rfl⟩ (Sv.mk' [] rfl trivial ⟨rfl, rfl, trivial⟩) ?_
  rintro i ⟨hi, he⟩
  repeat'
    (conv => arg 2; whnf)
    first
    | refine okAsk (by kernel_rfl) ?_
    | refine okBrT ?_
    | refine okBrF ?_
    | refine okBr (fun h => ?_) (fun h => ?_)
    | refine okOut ?_
    | (have hw : twinsF l = false := (by rw [twins_eq, show l.length = i from by simp at h; omega]; exact he); refine endInt (.inr rfl) rfl ?_; unfold batchE; rw [if_neg h4, hp, z_orE, hw]; rfl)
  have hil : i < l.length := by simp at h; omega
  clear h
  have hx : l[i]? = some l[i] := List.getElem?_eq_getElem hil
  generalize l[i] = x at hx
  refine okLoop (α := Nat) (fun k => ⟨[(7, .int .i64 k), (6, .int .i64 i), (0, .list 9 (l.map cSigned))], []⟩) (fun k => k ≤ i ∧ ((List.range k).any fun k => twF l i k) = false) (fun k => i - k) 0 ⟨Nat.zero_le _, rfl⟩ (Sv.mk' [] rfl trivial ⟨rfl, rfl, rfl, trivial⟩) ?_
  rintro k ⟨hk, hke⟩
  repeat'
    (conv => arg 2; whnf)
    first
    | refine okAsk (by kernel_rfl) ?_
    | refine okBrT ?_
    | refine okBrF ?_
    | refine okBr (fun h => ?_) (fun h => ?_)
    | refine okNthAt hx ?_
    | refine okNthMap (l := l) (by simp at h; omega) (fun y hy => ?_)
    | refine okNthAt hy ?_
    | refine okWrap (e := (k : Int) + 1) (w64 (by omega) (by omega)) ?_
    | refine okWrap (e := (i : Int) + 1) (w64 (by omega) (by omega)) ?_
    | refine okAgain (k + 1) (Sv.mk' [] rfl trivial ⟨rfl, rfl, rfl, trivial⟩) ⟨by have hki : k < i := (by simp_all); omega, range_go hke (by rw [tw_at hx hy]; simp_all)⟩ (by have hki : k < i := (by simp_all); omega)
    | refine okAgain (i + 1) (Sv.mk' [] rfl trivial ⟨rfl, rfl, trivial⟩) ⟨by omega, range_go he (by have hik : k = i := (by simp at h; omega); subst hik; exact hke)⟩ (by omega)
    | refine okOut ?_
    | refine okRet ?_
    | (have hw : twinsF l = true := twin_yes hil (k := k) (by simp_all) (by rw [tw_at hx hy]; simp_all); refine endInt (.inr rfl) rfl ?_; unfold batchE; rw [if_neg h4, hp, z_orE, hw]; rfl)
    | (exfalso; simp_all; done)
end Go.Proofs.YtbbcepmhkocgbaaGreatDoor

/- bullaref08.PutBatch; bullaref10: what is wrong with a message, over data (printed by gen_bd.py). -/
namespace Go.Proofs.YtbbcepmhkocgbaaGreatDoor
open Go.RowKit
set_option linter.unusedVariables false
set_option maxRecDepth 20000

theorem flatMap_congr' {α β : Type} {f g : α → List β} : ∀ {l : List α}, (∀ s ∈ l, f s = g s) → l.flatMap f = l.flatMap g
  | [], _ => rfl
  | x :: l, h => by
    rw [List.flatMap_cons, List.flatMap_cons, h x (by simp), flatMap_congr' (fun s hs => h s (by simp [hs]))]
theorem rPutBatchN_s [Wd] (bs : List UInt8) (l : List SignedD) (hl : (dL dSigned).ok l) (h0 : ¬ batchE l = 0) : FnP Tryz.prog 105 [.list 1 (bs.map cByte), .list 9 (l.map cSigned)] (.list 1 ((bs ++ batchP l).map cByte)) := by
  refine mkS 42 [(8, ⟨[(0, false), (1, false), (3, false), (4, false), (5, false), (6, false), (7, false), (2, true), (8, true), (9, false)], []⟩)] Tryz.func105 rfl (by kernel_rfl) ?_
  repeat'
    (conv => arg 2; whnf)
    first
    | refine okAsk (by kernel_rfl) ?_
    | refine okBrT ?_
    | refine okBrF ?_
    | refine okBr (fun h => ?_) (fun h => ?_)
    | refine okFn (rCheckBatch_s l hl) rfl (Cos.refl _) ?_
    | (refine endBy (.inr rfl) rfl ?_; simp [batchP, h0]; done)
    | (exfalso; simp [h0] at h; done)
theorem rPutBatchY_s [Wd] (bs : List UInt8) (l : List SignedD) (hl : (dL dSigned).ok l) (h0 : batchE l = 0) (hb : bs.length + 300000000 ≤ big) : FnP Tryz.prog 105 [.list 1 (bs.map cByte), .list 9 (l.map cSigned)] (.list 1 ((bs ++ batchP l).map cByte)) := by
  have z := batchE0 h0
  have z1 := z.1
  have HL : l.length ≤ 4194304 := hl.1
  have p1 := encI_l10 ((l.map cSigned).length : Int)
  have e1 : encI ((l.map cSigned).length : Int) = enc l.length := by rw [List.length_map, encI_nat (by omega) (by omega)]; rfl
  refine mkS 42 [(8, ⟨[(0, false), (1, false), (3, false), (4, false), (5, false), (6, false), (7, false), (2, true), (8, true), (9, false)], []⟩)] Tryz.func105 rfl (by kernel_rfl) ?_
  repeat'
    (conv => arg 2; whnf)
    first
    | refine okAsk (by kernel_rfl) ?_
    | refine okBrT ?_
    | refine okBrF ?_
    | refine okBr (fun h => ?_) (fun h => ?_)
    | refine okFn (rCheckBatch_s l hl) rfl (Cos.refl _) ?_
    | refine okRaw ?_
    | refine okFn (rPutNum_s _ (((l.map cSigned).length : Int)) (by (try simp only [List.length_append, List.length_nil]); omega)) rfl (Cos.refl _) ?_
    | (exfalso; simp [h0] at h; done)
  refine okLoop (α := Nat × List UInt8) (fun a => ⟨[(5, .int .i64 a.1), (1, .list 9 (l.map cSigned)), (0, .list 1 (a.2.map cByte))], []⟩) (fun a => a.1 ≤ l.length ∧ a.2 = bs ++ encI ((l.map cSigned).length : Int) ++ (l.take a.1).flatMap (fun s : SignedD => byF (reqB s.request) ++ signP s.sign)) (fun a => l.length - a.1) (0, bs ++ encI ((l.map cSigned).length : Int)) ⟨Nat.zero_le _, by simp⟩ (Sv.mk' [] rfl trivial ⟨rfl, rfl, rfl, trivial⟩) ?_
  rintro ⟨q, b2⟩ ⟨hq, he⟩
  replace hq : q ≤ l.length := hq
  replace he : b2 = bs ++ encI ((l.map cSigned).length : Int) ++ (l.take q).flatMap (fun s : SignedD => byF (reqB s.request) ++ signP s.sign) := he
  have p6 := flat_len (f := fun s : SignedD => byF (reqB s.request) ++ signP s.sign) (K := 1050) (l.take q) (fun s hs => by
    have k := reqB_short (z.2 s (List.mem_of_mem_take hs)).1
    have := byF_l (reqB s.request) (by omega)
    have := signP_l20 s.sign
    rw [List.length_append]; omega)
  have p7 : (l.take q).length * 1050 ≤ 4 * 1050 := Nat.mul_le_mul_right _ (by rw [List.length_take]; omega)
  have hb2 : b2.length + 200000000 ≤ big := by rw [he]; simp only [List.length_append]; omega
  repeat'
    (conv => arg 2; whnf)
    first
    | refine okAsk (by kernel_rfl) ?_
    | refine okBrT ?_
    | refine okBrF ?_
    | refine okBr (fun h => ?_) (fun h => ?_)
    | refine okNthAt hx ?_
    | refine okNthMap (l := l) (by simp at h; omega) (fun x hx => ?_)
    | refine okFn (rReqBytes_s x.request (hl.2 x (List.mem_of_getElem? hx)).1 (z.2 x (List.mem_of_getElem? hx)).1) rfl (Cos.refl _) ?_
    | refine okFn (rPutBytes_s b2 (reqB x.request) (by have := reqB_short (z.2 x (List.mem_of_getElem? hx)).1; omega) (by have := reqB_short (z.2 x (List.mem_of_getElem? hx)).1; rw [List.length_append]; omega)) rfl (Cos.refl _) ?_
    | refine okFn (rPutSign_s _ x.sign (by have := reqB_short (z.2 x (List.mem_of_getElem? hx)).1; have := byF_l (reqB x.request) (by omega); rw [List.length_append]; omega)) rfl (Cos.refl _) ?_
    | refine okWrap (w64 (by simp at h hq; omega) (by have := HL; simp at h hq; omega)) ?_
    | refine okAgain (q + 1, b2 ++ byF (reqB x.request) ++ signP x.sign) (Sv.mk' [] rfl trivial ⟨rfl, rfl, rfl, trivial⟩) ⟨by have := (List.getElem?_eq_some_iff.1 hx).1; show q + 1 ≤ l.length; omega, by show b2 ++ byF (reqB x.request) ++ signP x.sign = _; rw [flat_at hx, ← List.append_assoc, ← he]; simp⟩ (by have := (List.getElem?_eq_some_iff.1 hx).1; show l.length - (q + 1) < l.length - q; omega)
    | refine okOut ?_
    | refine okRet ?_
    | (refine endBy (.inr rfl) rfl ?_; rw [he, show l.take q = l from List.take_of_length_le (by simp at h; omega), batchP, if_pos h0, batchB, e1, List.append_assoc]; refine congrArg (fun y => bs ++ (enc l.length ++ y)) ?_; refine flatMap_congr' (fun s hs => ?_); simp [signedB, signP, (z.2 s hs).2])
theorem rPutBatch_s [Wd] (bs : List UInt8) (l : List SignedD) (hl : (dL dSigned).ok l) (hb : bs.length + 300000000 ≤ big) : FnP Tryz.prog 105 [.list 1 (bs.map cByte), .list 9 (l.map cSigned)] (.list 1 ((bs ++ batchP l).map cByte)) := by
  by_cases h0 : batchE l = 0
  · exact rPutBatchY_s bs l hl h0 hb
  · exact rPutBatchN_s bs l hl h0
theorem xIn_s [Wd] (n a b : Int) : FnP Tryz.prog 150 [.int .i64 n, .int .i64 a, .int .i64 b] (.int .i64 (rangeE n a b)) := by
  refine mkS 15 [] Tryz.func150 rfl (by kernel_rfl) ?_
  repeat'
    (conv => arg 2; whnf)
    first
    | refine okAsk (by kernel_rfl) ?_
    | refine okBrT ?_
    | refine okBrF ?_
    | refine okBr (fun h => ?_) (fun h => ?_)
    | (refine endInt (.inr rfl) rfl ?_; simp_all [rangeE]; done)
    | (refine endInt (.inr rfl) rfl ?_; simp_all [rangeE]; omega)
    | (exfalso; simp at *; omega)
theorem xNum_s [Wd] (n : Int) : FnP Tryz.prog 149 [.int .i64 n] (.int .i64 (numE n)) := by
  refine mkS 5 [] Tryz.func149 rfl (by kernel_rfl) ?_
  repeat'
    (conv => arg 2; whnf)
    first
    | refine okAsk (by kernel_rfl) ?_
    | refine okBrT ?_
    | refine okBrF ?_
    | refine okBr (fun h => ?_) (fun h => ?_)
    | refine okFn (xIn_s _ _ _) rfl (Cos.refl _) ?_
    | refine okWrap (w64 (by omega) (by omega)) ?_
    | refine endInt (.inr rfl) rfl rfl
theorem xPos_s [Wd] (n : Int) : FnP Tryz.prog 151 [.int .i64 n] (.int .i64 (posE n)) := by
  refine mkS 5 [] Tryz.func151 rfl (by kernel_rfl) ?_
  repeat'
    (conv => arg 2; whnf)
    first
    | refine okAsk (by kernel_rfl) ?_
    | refine okBrT ?_
    | refine okBrF ?_
    | refine okBr (fun h => ?_) (fun h => ?_)
    | refine okFn (xIn_s _ _ _) rfl (Cos.refl _) ?_
    | refine okWrap (w64 (by omega) (by omega)) ?_
    | refine endInt (.inr rfl) rfl rfl
theorem xBroker_s [Wd] (n : Int) : FnP Tryz.prog 148 [.int .i64 n] (.int .i64 (brokE n)) := by
  refine mkS 5 [] Tryz.func148 rfl (by kernel_rfl) ?_
  repeat'
    (conv => arg 2; whnf)
    first
    | refine okAsk (by kernel_rfl) ?_
    | refine okBrT ?_
    | refine okBrF ?_
    | refine okBr (fun h => ?_) (fun h => ?_)
    | refine okFn (xIn_s _ _ _) rfl (Cos.refl _) ?_
    | refine okWrap (w64 (by omega) (by omega)) ?_
    | refine endInt (.inr rfl) rfl rfl
theorem list_id_at {l : List Int} {q : Nat} {x : Int} (hx : l[q]? = some x) (he : listE id (l.take q) = 0) : listE id l = orE x (listE id (l.drop (q + 1))) := by
  have hlt := (List.getElem?_eq_some_iff.1 hx).1
  have e : l = l.take q ++ x :: l.drop (q + 1) := by
    conv => lhs; rw [← List.take_append_drop q l]
    rw [List.drop_eq_getElem_cons hlt, (List.getElem?_eq_some_iff.1 hx).2]
  have ap : ∀ a b : List Int, listE id (a ++ b) = orE (listE id a) (listE id b) := fun a b => by
    induction a with
    | nil => simp [listE, z_orE]
    | cons y r ih => simp only [List.cons_append, listE, ih, orE_assoc]
  rw [e, ap, he, z_orE, ← e]
  rfl
theorem xFirst_s [Wd] (l : List Int) (hl : l.length ≤ 4194304) : FnP Tryz.prog 147 [.list 1 (l.map cNum)] (.int .i64 (listE id l)) := by
  refine mkS 19 [] Tryz.func147 rfl (by kernel_rfl) ?_
  repeat'
    (conv => arg 2; whnf)
    first
    | refine okAsk (by kernel_rfl) ?_
  refine okLoop (α := Nat) (fun q => ⟨[(3, .int .i64 q), (0, .list 1 (l.map cNum))], []⟩) (fun q => q ≤ l.length ∧ listE id (l.take q) = 0) (fun q => l.length - q) 0 ⟨Nat.zero_le _, rfl⟩ (Sv.mk' [] rfl trivial ⟨rfl, rfl, trivial⟩) ?_
  rintro q ⟨hq, he⟩
  repeat'
    (conv => arg 2; whnf)
    first
    | refine okAsk (by kernel_rfl) ?_
    | refine okBrT ?_
    | refine okBrF ?_
    | refine okBr (fun h => ?_) (fun h => ?_)
    | refine okNthAt hx ?_
    | refine okNthMap (l := l) (by simp at h; omega) (fun x hx => ?_)
    | refine okWrap (w64 (by omega) (by have := (List.getElem?_eq_some_iff.1 hx).1; omega)) ?_
    | refine okAgain (q + 1) (Sv.mk' [] rfl trivial ⟨rfl, rfl, trivial⟩) ⟨by have := (List.getElem?_eq_some_iff.1 hx).1; omega, by rw [listE_at id hx, he, z_orE]; simpa using h⟩ (by have := (List.getElem?_eq_some_iff.1 hx).1; omega)
    | refine okOut ?_
    | refine okRet ?_
    | (have hp := list_id_at hx he; refine endInt (.inr rfl) rfl ?_; rw [hp, orE, if_neg (by simpa using h)])
    | (refine endInt (.inr rfl) rfl ?_; rw [List.take_of_length_le (by simp at h; omega)] at he; exact he.symm)
end Go.Proofs.YtbbcepmhkocgbaaGreatDoor

/- bullaref10's checks of certificates, changes, proofs, new views, over data (printed by gen_be.py). -/
namespace Go.Proofs.YtbbcepmhkocgbaaGreatDoor
open Go.RowKit
set_option linter.unusedVariables false
set_option maxRecDepth 20000

theorem listE_no {α : Type} {f : α → Int} {l : List α} {q : Nat} {x : α} (hx : l[q]? = some x) (he : listE f (l.take q) = 0) (hne : ¬ f x = 0) : listE f l = f x := by
  have hlt := (List.getElem?_eq_some_iff.1 hx).1
  have e : l = l.take q ++ x :: l.drop (q + 1) := by
    conv => lhs; rw [← List.take_append_drop q l]
    rw [List.drop_eq_getElem_cons hlt, (List.getElem?_eq_some_iff.1 hx).2]
  have ap : ∀ a b : List α, listE f (a ++ b) = orE (listE f a) (listE f b) := fun a b => by
    induction a with
    | nil => simp [listE, z_orE]
    | cons y r ih => simp only [List.cons_append, listE, ih, orE_assoc]
  rw [e, ap, he, z_orE, listE, orE, if_neg hne]
theorem listE_all {α : Type} {f : α → Int} {l : List α} {q : Nat} (hq : ¬ q < l.length) (he : listE f (l.take q) = 0) : listE f l = 0 := by
  rwa [List.take_of_length_le (by omega)] at he
theorem many_eq (n : Nat) (m : Int) : manyE n m = if m < (n : Int) then 100 else 0 := by
  unfold manyE rangeE
  split <;> split <;> first | rfl | omega
theorem xName_s [Wd] (s : List UInt8) (hs : s.length ≤ 4194304) : FnP Tryz.prog 155 [.str s] (.int .i64 (nameE s)) := by
  refine mkS 6 [] Tryz.func155 rfl (by kernel_rfl) ?_
  repeat'
    (conv => arg 2; whnf)
    first
    | refine okAsk (by kernel_rfl) ?_
    | refine okBrT ?_
    | refine okBrF ?_
    | refine okBr (fun h => ?_) (fun h => ?_)
    | refine okFn (rName_s s hs) rfl (Cos.refl _) ?_
    | (refine endInt (.inr rfl) rfl ?_; simp_all [nameE]; done)
theorem signs_sh (l : List SignD) : signsE l = orE (if (13 : Int) < l.length then 100 else 0) (listE signE l) := by rw [signsE, many_eq]
theorem cert_sh (c : CertD) : certE c = orE (listE id [numE c.seq, numE c.digest]) (orE (if (decide (c.seq = 0) != decide (c.digest = 0)) || (decide (c.seq = 0) && decide (0 < c.signs.length)) then 100 else 0) (signsE c.signs)) := by
  simp [certE, listE, orE_assoc, orE_z]
theorem prep_sh (p : PreparedD) : prepE p = listE id [numE p.view, posE p.seq, posE p.digest, signE p.firstS, signsE p.signs, batchE p.batch] := by
  simp [prepE, listE, orE_assoc, orE_z]
def bodyE (c : ChangeD) : Int := orE (listE id [posE c.view, brokE c.src, certE c.cert]) (orE (if (8 : Int) < c.above.length then 100 else 0) (listE prepE c.above))
theorem chg_sh (c : ChangeD) : chgE c = listE id [bodyE c, signE c.sign] := by
  simp [chgE, bodyE, listE, orE_assoc, orE_z, many_eq]
theorem entry_sh (x : EntryD) : entryE x = listE id [numE x.view, posE x.seq, batchE x.batch, signE x.sign] := by
  simp [entryE, listE, orE_assoc, orE_z]
theorem head_sh (h : HeaderD) : headE h = listE id [posE h.seq, numE h.prev, numE h.batch, numE h.root, numE h.state] := by
  simp [headE, listE, orE_assoc, orE_z]
theorem proof_sh (p : ProofD) : proofE p = orE (listE id [nameE p.topic, numE p.offset, rangeE (p.record.length : Int) 0 64, rangeE (p.headers.length : Int) 0 64]) (orE (listE headE p.headers) (orE (listE id [numE p.index, rangeE p.count 0 16]) (orE (rangeE p.index 0 (p.count - 1)) (orE (manyE p.path.length 8) (orE (listE numE p.path) (certE p.cert)))))) := by
  simp [proofE, listE, orE_assoc, orE_z, manyE]
theorem new_sh (m : MsgD) : orE (newE m) (signE m.sign) = orE (listE id [brokE m.src, posE m.view, rangeE (m.changes.length : Int) 0 13]) (orE (listE chgE m.changes) (orE (manyE m.entries.length 8) (orE (listE entryE m.entries) (signE m.sign)))) := by
  simp [newE, listE, orE_assoc, orE_z, manyE]
theorem xSigns_s [Wd] (l : List SignD) (HL : l.length ≤ 4194304) : FnP Tryz.prog 177 [.list 2 (l.map cSign)] (.int .i64 (signsE l)) := by
  refine mkS 22 [] Tryz.func177 rfl (by kernel_rfl) ?_
  repeat'
    (conv => arg 2; whnf)
    first
    | refine okAsk (by kernel_rfl) ?_
    | refine okBrT ?_
    | refine okBrF ?_
    | refine okBr (fun h => ?_) (fun h => ?_)
    | (refine endInt (.inr rfl) rfl ?_; rw [signs_sh]; simp_all [orE]; done)
    | (refine endInt (.inr rfl) rfl ?_; rw [signs_sh]; simp_all [orE]; omega)
  refine okLoop (α := Nat) (fun q => ⟨[(3, .int .i64 q), (0, .list 2 (l.map cSign))], []⟩) (fun q => q ≤ l.length ∧ listE signE (l.take q) = 0) (fun q => l.length - q) 0 ⟨Nat.zero_le _, rfl⟩ (Sv.mk' [] rfl trivial ⟨rfl, rfl, trivial⟩) ?_
  rintro q ⟨hq, he⟩
  repeat'
    (conv => arg 2; whnf)
    first
    | refine okAsk (by kernel_rfl) ?_
    | refine okBrT ?_
    | refine okBrF ?_
    | refine okBr (fun h => ?_) (fun h => ?_)
    | refine okNthAt hx ?_
    | refine okNthMap (l := l) (by simp at h; omega) (fun x hx => ?_)
    | refine okFn (rCheckSign_s x) rfl (Cos.refl _) ?_
    | refine okWrap (w64 (by omega) (by have := (List.getElem?_eq_some_iff.1 hx).1; omega)) ?_
    | refine okAgain (q + 1) (Sv.mk' [] rfl trivial ⟨rfl, rfl, trivial⟩) ⟨by have := (List.getElem?_eq_some_iff.1 hx).1; omega, by rw [listE_at signE hx, he, z_orE]; simpa using h⟩ (by have := (List.getElem?_eq_some_iff.1 hx).1; omega)
    | refine okOut ?_
    | refine okRet ?_
    | (have hne : ¬ signE x = 0 := (by simpa using h); have hp0 := listE_no hx he hne; refine endInt (.inr rfl) rfl ?_; clear he hq hx; rw [signs_sh]; simp_all [orE]; done)
    | (have hp0 := listE_all (f := signE) (l := l) (by simp at h; omega) he; refine endInt (.inr rfl) rfl ?_; clear he hq h; rw [signs_sh]; simp_all [orE]; done)
    | (have hp0 := listE_all (f := signE) (l := l) (by simp at h; omega) he; refine endInt (.inr rfl) rfl ?_; clear he hq; rw [signs_sh]; simp_all [orE]; omega)
theorem xCert_s [Wd] (c : CertD) (hc : dCert.ok c) : FnP Tryz.prog 154 [.agg (cCert c)] (.int .i64 (certE c)) := by
  by_cases h0 : listE id [numE c.seq, numE c.digest] = 0
  · have z : 0 ≤ c.seq ∧ 0 ≤ c.digest := by
      simp only [listE, id, orE_zero] at h0
      exact ⟨(rangeE0 h0.1).1, (rangeE0 h0.2.1).1⟩
    refine mkS 42 [(1, ⟨[(0, false), (1, false), (3, false), (4, false), (2, true), (5, true), (6, true), (7, true), (8, false)], []⟩)] Tryz.func154 rfl (by kernel_rfl) ?_
    repeat'
      (conv => arg 2; whnf)
      first
      | refine okAsk (by kernel_rfl) ?_
      | refine okBrT ?_
      | refine okBrF ?_
      | refine okBr (fun h => ?_) (fun h => ?_)
      | refine okFn (xNum_s _) rfl (Cos.refl _) ?_
      | refine okFn (xFirst_s [numE c.seq, numE c.digest] (by simp)) rfl (Cos.refl _) ?_
      | refine okFn (xSigns_s c.signs hc.2.2.1) rfl (Cos.refl _) ?_
      | (exfalso; simp [h0] at h; done)
      | (refine endInt (.inr rfl) rfl ?_; rw [cert_sh, h0, z_orE]; by_cases h1 : c.seq = 0 <;> by_cases h2 : c.digest = 0 <;> by_cases h3 : 0 < c.signs.length <;> simp_all [orE]; done)
      | (refine endInt (.inr rfl) rfl ?_; rw [cert_sh, h0, z_orE]; by_cases h1 : c.seq = 0 <;> by_cases h2 : c.digest = 0 <;> by_cases h3 : 0 < c.signs.length <;> simp_all [orE] <;> omega)
      | (exfalso; simp_all; omega)
  · refine mkS 42 [(1, ⟨[(0, false), (1, false), (3, false), (4, false), (2, true), (5, true), (6, true), (7, true), (8, false)], []⟩)] Tryz.func154 rfl (by kernel_rfl) ?_
    repeat'
      (conv => arg 2; whnf)
      first
      | refine okAsk (by kernel_rfl) ?_
      | refine okBrT ?_
      | refine okBrF ?_
      | refine okBr (fun h => ?_) (fun h => ?_)
      | refine okFn (xNum_s _) rfl (Cos.refl _) ?_
      | refine okFn (xFirst_s [numE c.seq, numE c.digest] (by simp)) rfl (Cos.refl _) ?_
      | refine okFn (xSigns_s c.signs hc.2.2.1) rfl (Cos.refl _) ?_
      | (exfalso; simp [h0] at h; done)
      | (refine endInt (.inr rfl) rfl ?_; rw [cert_sh]; simp_all [orE]; done)
theorem xPrepared_s [Wd] (p : PreparedD) (hp : dPrepared.ok p) : FnP Tryz.prog 184 [.agg (cPrepared p)] (.int .i64 (prepE p)) := by
  refine mkS 23 [(1, ⟨[(0, false), (1, false), (3, false), (4, false), (6, false), (7, false), (9, false), (10, false), (12, false), (13, false), (15, false), (16, false), (2, true), (5, true), (8, true), (11, true), (14, true), (17, true), (18, true), (19, true), (20, false)], []⟩)] Tryz.func184 rfl (by kernel_rfl) ?_
  repeat'
    (conv => arg 2; whnf)
    first
    | refine okAsk (by kernel_rfl) ?_
    | refine okBrT ?_
    | refine okBrF ?_
    | refine okBr (fun h => ?_) (fun h => ?_)
    | refine okFn (xNum_s _) rfl (Cos.refl _) ?_
    | refine okFn (xPos_s _) rfl (Cos.refl _) ?_
    | refine okFn (rCheckSign_s p.firstS) rfl (Cos.refl _) ?_
    | refine okFn (xSigns_s p.signs hp.2.2.2.2.1.1) rfl (Cos.refl _) ?_
    | refine okFn (rCheckBatch_s p.batch hp.2.2.2.2.2) rfl (Cos.refl _) ?_
    | refine okFn (xFirst_s [numE p.view, posE p.seq, posE p.digest, signE p.firstS, signsE p.signs, batchE p.batch] (by simp)) rfl (Cos.refl _) ?_
    | refine endInt (.inr rfl) rfl (prep_sh p).symm
theorem xBody_s [Wd] (c : ChangeD) (hc : dChange.ok c) : FnP Tryz.prog 175 [.agg (cChange c)] (.int .i64 (bodyE c)) := by
  have HL : c.above.length ≤ 4194304 := hc.2.2.2.1.1
  refine mkS 40 [(1, ⟨[(0, false), (1, false), (3, false), (4, false), (6, false), (7, false), (2, true), (5, true), (8, true), (9, true), (10, true), (11, false)], []⟩)] Tryz.func175 rfl (by kernel_rfl) ?_
  repeat'
    (conv => arg 2; whnf)
    first
    | refine okAsk (by kernel_rfl) ?_
    | refine okBrT ?_
    | refine okBrF ?_
    | refine okBr (fun h => ?_) (fun h => ?_)
    | refine okFn (xPos_s _) rfl (Cos.refl _) ?_
    | refine okFn (xBroker_s _) rfl (Cos.refl _) ?_
    | refine okFn (xCert_s c.cert hc.2.2.1) rfl (Cos.refl _) ?_
    | refine okFn (xFirst_s [posE c.view, brokE c.src, certE c.cert] (by simp)) rfl (Cos.refl _) ?_
    | (refine endInt (.inr rfl) rfl ?_; rw [bodyE]; simp_all [orE]; done)
    | (refine endInt (.inr rfl) rfl ?_; rw [bodyE]; simp_all [orE]; omega)
  refine okLoop (α := Nat) (fun q => ⟨[(4, .int .i64 q), (1, .ptr 0 0)], [.cells 90 (cChange c)]⟩) (fun q => q ≤ c.above.length ∧ listE prepE (c.above.take q) = 0) (fun q => c.above.length - q) 0 ⟨Nat.zero_le _, rfl⟩ (Sv.mk' [0] rfl ⟨⟨rfl, rfl⟩, trivial⟩ ⟨rfl, rfl, trivial⟩) ?_
  rintro q ⟨hq, he⟩
  repeat'
    (conv => arg 2; whnf)
    first
    | refine okAsk (by kernel_rfl) ?_
    | refine okBrT ?_
    | refine okBrF ?_
    | refine okBr (fun h => ?_) (fun h => ?_)
    | refine okNthAt hx ?_
    | refine okNthMap (l := c.above) (by simp at h; omega) (fun x hx => ?_)
    | refine okFn (xPrepared_s x (hc.2.2.2.1.2 x (List.mem_of_getElem? hx))) rfl (Cos.refl _) ?_
    | refine okWrap (w64 (by omega) (by have := (List.getElem?_eq_some_iff.1 hx).1; omega)) ?_
    | refine okAgain (q + 1) (Sv.mk' [0] rfl ⟨⟨rfl, rfl⟩, trivial⟩ ⟨rfl, rfl, trivial⟩) ⟨by have := (List.getElem?_eq_some_iff.1 hx).1; omega, by rw [listE_at prepE hx, he, z_orE]; simpa using h⟩ (by have := (List.getElem?_eq_some_iff.1 hx).1; omega)
    | refine okOut ?_
    | refine okRet ?_
    | (have hne : ¬ prepE x = 0 := (by simpa using h); have hp0 := listE_no hx he hne; refine endInt (.inr rfl) rfl ?_; clear he hq hx; rw [bodyE]; simp_all [orE]; done)
    | (have hp0 := listE_all (f := prepE) (l := c.above) (by simp at h; omega) he; refine endInt (.inr rfl) rfl ?_; clear he hq h; rw [bodyE]; simp_all [orE]; done)
    | (have hp0 := listE_all (f := prepE) (l := c.above) (by simp at h; omega) he; refine endInt (.inr rfl) rfl ?_; clear he hq; rw [bodyE]; simp_all [orE]; omega)
theorem xChange_s [Wd] (c : ChangeD) (hc : dChange.ok c) : FnP Tryz.prog 152 [.agg (cChange c)] (.int .i64 (chgE c)) := by
  refine mkS 10 [(1, ⟨[(0, false), (2, false), (3, false), (1, true), (4, true), (5, true), (6, true), (7, false)], []⟩)] Tryz.func152 rfl (by kernel_rfl) ?_
  repeat'
    (conv => arg 2; whnf)
    first
    | refine okAsk (by kernel_rfl) ?_
    | refine okBrT ?_
    | refine okBrF ?_
    | refine okBr (fun h => ?_) (fun h => ?_)
    | refine okFn (xBody_s c hc) rfl (Cos.refl _) ?_
    | refine okFn (rCheckSign_s c.sign) rfl (Cos.refl _) ?_
    | refine okFn (xFirst_s [bodyE c, signE c.sign] (by simp)) rfl (Cos.refl _) ?_
    | refine endInt (.inr rfl) rfl (chg_sh c).symm
theorem xEntry_s [Wd] (x : EntryD) (hx : dEntry.ok x) : FnP Tryz.prog 176 [.agg (cEntry x)] (.int .i64 (entryE x)) := by
  refine mkS 17 [(1, ⟨[(0, false), (1, false), (3, false), (4, false), (6, false), (7, false), (9, false), (10, false), (2, true), (5, true), (8, true), (11, true), (12, true), (13, true), (14, false)], []⟩)] Tryz.func176 rfl (by kernel_rfl) ?_
  repeat'
    (conv => arg 2; whnf)
    first
    | refine okAsk (by kernel_rfl) ?_
    | refine okBrT ?_
    | refine okBrF ?_
    | refine okBr (fun h => ?_) (fun h => ?_)
    | refine okFn (xNum_s _) rfl (Cos.refl _) ?_
    | refine okFn (xPos_s _) rfl (Cos.refl _) ?_
    | refine okFn (rCheckBatch_s x.batch hx.2.2.1) rfl (Cos.refl _) ?_
    | refine okFn (rCheckSign_s x.sign) rfl (Cos.refl _) ?_
    | refine okFn (xFirst_s [numE x.view, posE x.seq, batchE x.batch, signE x.sign] (by simp)) rfl (Cos.refl _) ?_
    | refine endInt (.inr rfl) rfl (entry_sh x).symm
theorem xHeader_s [Wd] (h : HeaderD) : FnP Tryz.prog 178 [.agg (cHeader h)] (.int .i64 (headE h)) := by
  refine mkS 20 [(1, ⟨[(0, false), (1, false), (3, false), (4, false), (6, false), (7, false), (9, false), (10, false), (12, false), (13, false), (2, true), (5, true), (8, true), (11, true), (14, true), (15, true), (16, true), (17, false)], []⟩)] Tryz.func178 rfl (by kernel_rfl) ?_
  repeat'
    (conv => arg 2; whnf)
    first
    | refine okAsk (by kernel_rfl) ?_
    | refine okBrT ?_
    | refine okBrF ?_
    | refine okBr (fun h => ?_) (fun h => ?_)
    | refine okFn (xNum_s _) rfl (Cos.refl _) ?_
    | refine okFn (xPos_s _) rfl (Cos.refl _) ?_
    | refine okFn (xFirst_s [posE h.seq, numE h.prev, numE h.batch, numE h.root, numE h.state] (by simp)) rfl (Cos.refl _) ?_
    | refine endInt (.inr rfl) rfl (head_sh h).symm
theorem xProof_s [Wd] (p : ProofD) (hp : dProof.ok p) : FnP Tryz.prog 156 [.agg (cProof p)] (.int .i64 (proofE p)) := by
  have HL : p.headers.length ≤ 4194304 := hp.2.2.2.1.1
  have HL2 : p.path.length ≤ 4194304 := hp.2.2.2.2.2.2.1.1
  refine mkS 85 [(1, ⟨[(0, false), (1, false), (3, false), (4, false), (6, false), (7, false), (8, false), (10, false), (11, false), (12, false), (2, true), (5, true), (9, true), (13, true), (14, true), (15, true), (16, false)], []⟩), (10, ⟨[(0, false), (1, false), (3, false), (4, false), (2, true), (5, true), (6, true), (7, true), (8, false)], []⟩)] Tryz.func156 rfl (by kernel_rfl) ?_
  repeat'
    (conv => arg 2; whnf)
    first
    | refine okAsk (by kernel_rfl) ?_
    | refine okBrT ?_
    | refine okBrF ?_
    | refine okBr (fun h => ?_) (fun h => ?_)
    | refine okFn (xName_s p.topic hp.1) rfl (Cos.refl _) ?_
    | refine okFn (xNum_s _) rfl (Cos.refl _) ?_
    | refine okFn (xIn_s _ _ _) rfl (Cos.refl _) ?_
    | refine okFn (xFirst_s [nameE p.topic, numE p.offset, rangeE ((p.record.map cByte).length : Int) 0 64, rangeE ((p.headers.map cHeader).length : Int) 0 64] (by simp)) rfl (Cos.refl _) ?_
    | (refine endInt (.inr rfl) rfl ?_; rw [proof_sh]; simp only [List.length_map] at *; simp_all [orE]; done)
  refine okLoop (α := Nat) (fun q => ⟨[(4, .int .i64 q), (1, .ptr 0 0)], [.cells 52 (cProof p)]⟩) (fun q => q ≤ p.headers.length ∧ listE headE (p.headers.take q) = 0) (fun q => p.headers.length - q) 0 ⟨Nat.zero_le _, rfl⟩ (Sv.mk' [0] rfl ⟨⟨rfl, rfl⟩, trivial⟩ ⟨rfl, rfl, trivial⟩) ?_
  rintro q ⟨hq, he⟩
  repeat'
    (conv => arg 2; whnf)
    first
    | refine okAsk (by kernel_rfl) ?_
    | refine okBrT ?_
    | refine okBrF ?_
    | refine okBr (fun h => ?_) (fun h => ?_)
    | refine okNthAt hx ?_
    | refine okNthMap (l := p.headers) (by simp at h; omega) (fun x hx => ?_)
    | refine okFn (xHeader_s x) rfl (Cos.refl _) ?_
    | refine okWrap (w64 (by omega) (by have := (List.getElem?_eq_some_iff.1 hx).1; omega)) ?_
    | refine okAgain (q + 1) (Sv.mk' [0] rfl ⟨⟨rfl, rfl⟩, trivial⟩ ⟨rfl, rfl, trivial⟩) ⟨by have := (List.getElem?_eq_some_iff.1 hx).1; omega, by rw [listE_at headE hx, he, z_orE]; simpa using h⟩ (by have := (List.getElem?_eq_some_iff.1 hx).1; omega)
    | refine okOut ?_
    | refine okRet ?_
    | (have hne : ¬ headE x = 0 := (by simpa using h); have hp0 := listE_no hx he hne; refine endInt (.inr rfl) rfl ?_; clear he hq hx; rw [proof_sh]; simp only [List.length_map] at *; simp_all [orE]; done)
  have hp0 : listE headE p.headers = 0 := listE_all (by simp at h; omega) he
  clear he hq h
  by_cases h1 : listE id [numE p.index, rangeE p.count 0 16] = 0
  rotate_left
  · repeat'
      (conv => arg 2; whnf)
      first
      | refine okAsk (by kernel_rfl) ?_
      | refine okBrT ?_
      | refine okBrF ?_
      | refine okBr (fun h => ?_) (fun h => ?_)
      | refine okFn (xNum_s _) rfl (Cos.refl _) ?_
      | refine okFn (xIn_s _ _ _) rfl (Cos.refl _) ?_
      | refine okFn (xFirst_s [numE p.index, rangeE p.count 0 16] (by simp)) rfl (Cos.refl _) ?_
      | (refine endInt (.inr rfl) rfl ?_; rw [proof_sh]; simp only [List.length_map] at *; simp_all [orE, many_eq]; done)
      | (exfalso; simp [h1] at h; done)
    all_goals (exfalso; simp_all; done)
  have z : 0 ≤ p.index := by
    simp only [listE, id, orE_zero] at h1
    exact (rangeE0 h1.1).1
  have hr : rangeE p.index 0 (p.count - 1) = if p.count ≤ p.index then 100 else 0 := by
    unfold rangeE
    split <;> split <;> first | rfl | omega
  repeat'
    (conv => arg 2; whnf)
    first
    | refine okAsk (by kernel_rfl) ?_
    | refine okBrT ?_
    | refine okBrF ?_
    | refine okBr (fun h => ?_) (fun h => ?_)
    | refine okFn (xNum_s _) rfl (Cos.refl _) ?_
    | refine okFn (xIn_s _ _ _) rfl (Cos.refl _) ?_
    | refine okFn (xFirst_s [numE p.index, rangeE p.count 0 16] (by simp)) rfl (Cos.refl _) ?_
    | (refine endInt (.inr rfl) rfl ?_; rw [proof_sh]; simp only [List.length_map] at *; simp_all [orE, many_eq]; done)
    | (refine endInt (.inr rfl) rfl ?_; rw [proof_sh]; simp only [List.length_map] at *; simp_all [orE, many_eq]; intros; omega)
    | (exfalso; simp [h1] at h; done)
  have h8 : ¬ p.count ≤ p.index ∧ ¬ 8 < p.path.length := by simp_all; omega
  rw [if_neg h8.1] at hr
  refine okLoop (α := Nat) (fun q => ⟨[(7, .int .i64 q), (1, .ptr 0 0)], [.cells 52 (cProof p)]⟩) (fun q => q ≤ p.path.length ∧ listE numE (p.path.take q) = 0) (fun q => p.path.length - q) 0 ⟨Nat.zero_le _, rfl⟩ (Sv.mk' [0] rfl ⟨⟨rfl, rfl⟩, trivial⟩ ⟨rfl, rfl, trivial⟩) ?_
  rintro q ⟨hq, he⟩
  repeat'
    (conv => arg 2; whnf)
    first
    | refine okAsk (by kernel_rfl) ?_
    | refine okBrT ?_
    | refine okBrF ?_
    | refine okBr (fun h => ?_) (fun h => ?_)
    | refine okNthAt hx ?_
    | refine okNthMap (l := p.path) (by simp at h; omega) (fun x hx => ?_)
    | refine okFn (xNum_s _) rfl (Cos.refl _) ?_
    | refine okFn (xCert_s p.cert hp.2.2.2.2.2.2.2) rfl (Cos.refl _) ?_
    | refine okWrap (w64 (by omega) (by have := (List.getElem?_eq_some_iff.1 hx).1; omega)) ?_
    | refine okAgain (q + 1) (Sv.mk' [0] rfl ⟨⟨rfl, rfl⟩, trivial⟩ ⟨rfl, rfl, trivial⟩) ⟨by have := (List.getElem?_eq_some_iff.1 hx).1; omega, by rw [listE_at numE hx, he, z_orE]; simpa using h⟩ (by have := (List.getElem?_eq_some_iff.1 hx).1; omega)
    | refine okOut ?_
    | refine okRet ?_
    | (have hne : ¬ numE x = 0 := (by simpa using h); have hp1 := listE_no hx he hne; refine endInt (.inr rfl) rfl ?_; clear he hq hx; rw [proof_sh]; simp only [List.length_map] at *; simp_all [orE, many_eq]; done)
    | (have hp1 := listE_all (f := numE) (l := p.path) (by simp at h; omega) he; refine endInt (.inr rfl) rfl ?_; clear he hq h; rw [proof_sh]; simp only [List.length_map] at *; simp_all [orE, many_eq]; done)
    | (have hp1 := listE_all (f := numE) (l := p.path) (by simp at h; omega) he; refine endInt (.inr rfl) rfl ?_; clear he hq; rw [proof_sh]; simp only [List.length_map] at *; simp_all [orE, many_eq]; omega)
theorem xNew_s [Wd] (m : MsgD) (hm : dMsg.ok m) : FnP Tryz.prog 153 [.agg (cMsg m)] (.int .i64 (orE (newE m) (signE m.sign))) := by
  have HL : m.changes.length ≤ 4194304 := hm.2.2.2.2.2.2.2.2.2.2.1.1
  have HL2 : m.entries.length ≤ 4194304 := hm.2.2.2.2.2.2.2.2.2.2.2.1.1
  refine mkS 62 [(1, ⟨[(0, false), (1, false), (3, false), (4, false), (6, false), (7, false), (8, false), (2, true), (5, true), (9, true), (10, true), (11, true), (12, false)], []⟩)] Tryz.func153 rfl (by kernel_rfl) ?_
  repeat'
    (conv => arg 2; whnf)
    first
    | refine okAsk (by kernel_rfl) ?_
    | refine okBrT ?_
    | refine okBrF ?_
    | refine okBr (fun h => ?_) (fun h => ?_)
    | refine okFn (xBroker_s _) rfl (Cos.refl _) ?_
    | refine okFn (xPos_s _) rfl (Cos.refl _) ?_
    | refine okFn (xIn_s _ _ _) rfl (Cos.refl _) ?_
    | refine okFn (xFirst_s [brokE m.src, posE m.view, rangeE ((m.changes.map cChange).length : Int) 0 13] (by simp)) rfl (Cos.refl _) ?_
    | (refine endInt (.inr rfl) rfl ?_; rw [new_sh]; simp only [List.length_map] at *; simp_all [orE, many_eq]; done)
  refine okLoop (α := Nat) (fun q => ⟨[(4, .int .i64 q), (1, .ptr 0 0)], [.cells 56 (cMsg m)]⟩) (fun q => q ≤ m.changes.length ∧ listE chgE (m.changes.take q) = 0) (fun q => m.changes.length - q) 0 ⟨Nat.zero_le _, rfl⟩ (Sv.mk' [0] rfl ⟨⟨rfl, rfl⟩, trivial⟩ ⟨rfl, rfl, trivial⟩) ?_
  rintro q ⟨hq, he⟩
  repeat'
    (conv => arg 2; whnf)
    first
    | refine okAsk (by kernel_rfl) ?_
    | refine okBrT ?_
    | refine okBrF ?_
    | refine okBr (fun h => ?_) (fun h => ?_)
    | refine okNthAt hx ?_
    | refine okNthMap (l := m.changes) (by simp at h; omega) (fun x hx => ?_)
    | refine okFn (xChange_s x (hm.2.2.2.2.2.2.2.2.2.2.1.2 x (List.mem_of_getElem? hx))) rfl (Cos.refl _) ?_
    | refine okWrap (w64 (by omega) (by have := (List.getElem?_eq_some_iff.1 hx).1; omega)) ?_
    | refine okAgain (q + 1) (Sv.mk' [0] rfl ⟨⟨rfl, rfl⟩, trivial⟩ ⟨rfl, rfl, trivial⟩) ⟨by have := (List.getElem?_eq_some_iff.1 hx).1; omega, by rw [listE_at chgE hx, he, z_orE]; simpa using h⟩ (by have := (List.getElem?_eq_some_iff.1 hx).1; omega)
    | refine okOut ?_
    | refine okRet ?_
    | (have hne : ¬ chgE x = 0 := (by simpa using h); have hp0 := listE_no hx he hne; refine endInt (.inr rfl) rfl ?_; clear he hq hx; rw [new_sh]; simp only [List.length_map] at *; simp_all [orE, many_eq]; done)
  all_goals
    rename_i hq2
    have hp0 : listE chgE m.changes = 0 := listE_all (by simp at hq2; omega) he
    clear he hq hq2
  · repeat'
      (conv => arg 2; whnf)
      first
      | refine okAsk (by kernel_rfl) ?_
      | refine okBrT ?_
      | refine okBrF ?_
      | refine okBr (fun h => ?_) (fun h => ?_)
      | (refine endInt (.inr rfl) rfl ?_; rw [new_sh]; simp only [List.length_map] at *; simp_all [orE, many_eq]; done)
      | (refine endInt (.inr rfl) rfl ?_; rw [new_sh]; simp only [List.length_map] at *; simp_all [orE, many_eq]; intros; omega)
  have h8 : ¬ (8 : Int) < (m.entries.length : Int) := by simp at h; omega
  clear h
  refine okLoop (α := Nat) (fun q => ⟨[(6, .int .i64 q), (1, .ptr 0 0)], [.cells 56 (cMsg m)]⟩) (fun q => q ≤ m.entries.length ∧ listE entryE (m.entries.take q) = 0) (fun q => m.entries.length - q) 0 ⟨Nat.zero_le _, rfl⟩ (Sv.mk' [0] rfl ⟨⟨rfl, rfl⟩, trivial⟩ ⟨rfl, rfl, trivial⟩) ?_
  rintro q ⟨hq, he⟩
  repeat'
    (conv => arg 2; whnf)
    first
    | refine okAsk (by kernel_rfl) ?_
    | refine okBrT ?_
    | refine okBrF ?_
    | refine okBr (fun h => ?_) (fun h => ?_)
    | refine okNthAt hx ?_
    | refine okNthMap (l := m.entries) (by simp at h; omega) (fun x hx => ?_)
    | refine okFn (xEntry_s x (hm.2.2.2.2.2.2.2.2.2.2.2.1.2 x (List.mem_of_getElem? hx))) rfl (Cos.refl _) ?_
    | refine okFn (rCheckSign_s m.sign) rfl (Cos.refl _) ?_
    | refine okWrap (w64 (by omega) (by have := (List.getElem?_eq_some_iff.1 hx).1; omega)) ?_
    | refine okAgain (q + 1) (Sv.mk' [0] rfl ⟨⟨rfl, rfl⟩, trivial⟩ ⟨rfl, rfl, trivial⟩) ⟨by have := (List.getElem?_eq_some_iff.1 hx).1; omega, by rw [listE_at entryE hx, he, z_orE]; simpa using h⟩ (by have := (List.getElem?_eq_some_iff.1 hx).1; omega)
    | refine okOut ?_
    | refine okRet ?_
    | (have hne : ¬ entryE x = 0 := (by simpa using h); have hp1 := listE_no hx he hne; refine endInt (.inr rfl) rfl ?_; clear he hq hx; rw [new_sh]; simp only [List.length_map] at *; simp_all [orE, many_eq]; done)
    | (have hp1 := listE_all (f := entryE) (l := m.entries) (by simp at h; omega) he; refine endInt (.inr rfl) rfl ?_; clear he hq h; rw [new_sh]; simp only [List.length_map] at *; simp_all [orE, many_eq]; done)
    | (have hp1 := listE_all (f := entryE) (l := m.entries) (by simp at h; omega) he; refine endInt (.inr rfl) rfl ?_; clear he hq; rw [new_sh]; simp only [List.length_map] at *; simp_all [orE, many_eq]; omega)
end Go.Proofs.YtbbcepmhkocgbaaGreatDoor

/- bullaref10: a message with the fields of its kind alone; what is wrong with a message (over data; printed by gen_bf.py). -/
namespace Go.Proofs.YtbbcepmhkocgbaaGreatDoor
open Go.RowKit
set_option linter.unusedVariables false
set_option maxRecDepth 20000

theorem msgKind {m : MsgD} {k : Int} (h : m.kind = k) : { m with kind := k } = m := by subst h; rfl
theorem xOnly1_s [Wd] (m : MsgD) : FnP Tryz.prog 130 [.agg (cMsg { m with kind := 1 })] (.agg (cMsg (bareF { m with kind := 1 }))) := by
  refine mkS 146 [] Tryz.func130 rfl (by kernel_rfl) ?_
  repeat'
    (conv => arg 2; whnf)
    first
    | refine okAsk (by kernel_rfl) ?_
    | refine okBrT ?_
    | refine okBrF ?_
    | refine okBr (fun h => ?_) (fun h => ?_)
    | refine endFn0 (.inr rfl) rfl (Cos.mkAgg ?_) rfl
    | (exfalso; simp_all; done)
  all_goals simp [bareF, signedK, cMsg, zMsg, zSign, zResult, zCert, zProof]
  all_goals (repeat' first | exact Cos.nil | exact Co.refl _ | exact Co.nil _ | refine Cos.cons ?_ ?_)
theorem xOnly2_s [Wd] (m : MsgD) : FnP Tryz.prog 130 [.agg (cMsg { m with kind := 2 })] (.agg (cMsg (bareF { m with kind := 2 }))) := by
  refine mkS 146 [] Tryz.func130 rfl (by kernel_rfl) ?_
  repeat'
    (conv => arg 2; whnf)
    first
    | refine okAsk (by kernel_rfl) ?_
    | refine okBrT ?_
    | refine okBrF ?_
    | refine okBr (fun h => ?_) (fun h => ?_)
    | refine endFn0 (.inr rfl) rfl (Cos.mkAgg ?_) rfl
    | (exfalso; simp_all; done)
  all_goals simp [bareF, signedK, cMsg, zMsg, zSign, zResult, zCert, zProof]
  all_goals (repeat' first | exact Cos.nil | exact Co.refl _ | exact Co.nil _ | refine Cos.cons ?_ ?_)
theorem xOnly3_s [Wd] (m : MsgD) : FnP Tryz.prog 130 [.agg (cMsg { m with kind := 3 })] (.agg (cMsg (bareF { m with kind := 3 }))) := by
  refine mkS 146 [] Tryz.func130 rfl (by kernel_rfl) ?_
  repeat'
    (conv => arg 2; whnf)
    first
    | refine okAsk (by kernel_rfl) ?_
    | refine okBrT ?_
    | refine okBrF ?_
    | refine okBr (fun h => ?_) (fun h => ?_)
    | refine endFn0 (.inr rfl) rfl (Cos.mkAgg ?_) rfl
    | (exfalso; simp_all; done)
  all_goals simp [bareF, signedK, cMsg, zMsg, zSign, zResult, zCert, zProof]
  all_goals (repeat' first | exact Cos.nil | exact Co.refl _ | exact Co.nil _ | refine Cos.cons ?_ ?_)
theorem xOnly4_s [Wd] (m : MsgD) : FnP Tryz.prog 130 [.agg (cMsg { m with kind := 4 })] (.agg (cMsg (bareF { m with kind := 4 }))) := by
  refine mkS 146 [] Tryz.func130 rfl (by kernel_rfl) ?_
  repeat'
    (conv => arg 2; whnf)
    first
    | refine okAsk (by kernel_rfl) ?_
    | refine okBrT ?_
    | refine okBrF ?_
    | refine okBr (fun h => ?_) (fun h => ?_)
    | refine endFn0 (.inr rfl) rfl (Cos.mkAgg ?_) rfl
    | (exfalso; simp_all; done)
  all_goals simp [bareF, signedK, cMsg, zMsg, zSign, zResult, zCert, zProof]
  all_goals (repeat' first | exact Cos.nil | exact Co.refl _ | exact Co.nil _ | refine Cos.cons ?_ ?_)
theorem xOnly5_s [Wd] (m : MsgD) : FnP Tryz.prog 130 [.agg (cMsg { m with kind := 5 })] (.agg (cMsg (bareF { m with kind := 5 }))) := by
  refine mkS 146 [] Tryz.func130 rfl (by kernel_rfl) ?_
  repeat'
    (conv => arg 2; whnf)
    first
    | refine okAsk (by kernel_rfl) ?_
    | refine okBrT ?_
    | refine okBrF ?_
    | refine okBr (fun h => ?_) (fun h => ?_)
    | refine endFn0 (.inr rfl) rfl (Cos.mkAgg ?_) rfl
    | (exfalso; simp_all; done)
  all_goals simp [bareF, signedK, cMsg, zMsg, zSign, zResult, zCert, zProof]
  all_goals (repeat' first | exact Cos.nil | exact Co.refl _ | exact Co.nil _ | refine Cos.cons ?_ ?_)
theorem xOnly6_s [Wd] (m : MsgD) : FnP Tryz.prog 130 [.agg (cMsg { m with kind := 6 })] (.agg (cMsg (bareF { m with kind := 6 }))) := by
  refine mkS 146 [] Tryz.func130 rfl (by kernel_rfl) ?_
  repeat'
    (conv => arg 2; whnf)
    first
    | refine okAsk (by kernel_rfl) ?_
    | refine okBrT ?_
    | refine okBrF ?_
    | refine okBr (fun h => ?_) (fun h => ?_)
    | refine endFn0 (.inr rfl) rfl (Cos.mkAgg ?_) rfl
    | (exfalso; simp_all; done)
  all_goals simp [bareF, signedK, cMsg, zMsg, zSign, zResult, zCert, zProof]
  all_goals (repeat' first | exact Cos.nil | exact Co.refl _ | exact Co.nil _ | refine Cos.cons ?_ ?_)
theorem xOnly7_s [Wd] (m : MsgD) : FnP Tryz.prog 130 [.agg (cMsg { m with kind := 7 })] (.agg (cMsg (bareF { m with kind := 7 }))) := by
  refine mkS 146 [] Tryz.func130 rfl (by kernel_rfl) ?_
  repeat'
    (conv => arg 2; whnf)
    first
    | refine okAsk (by kernel_rfl) ?_
    | refine okBrT ?_
    | refine okBrF ?_
    | refine okBr (fun h => ?_) (fun h => ?_)
    | refine endFn0 (.inr rfl) rfl (Cos.mkAgg ?_) rfl
    | (exfalso; simp_all; done)
  all_goals simp [bareF, signedK, cMsg, zMsg, zSign, zResult, zCert, zProof]
  all_goals (repeat' first | exact Cos.nil | exact Co.refl _ | exact Co.nil _ | refine Cos.cons ?_ ?_)
theorem xOnly8_s [Wd] (m : MsgD) : FnP Tryz.prog 130 [.agg (cMsg { m with kind := 8 })] (.agg (cMsg (bareF { m with kind := 8 }))) := by
  refine mkS 146 [] Tryz.func130 rfl (by kernel_rfl) ?_
  repeat'
    (conv => arg 2; whnf)
    first
    | refine okAsk (by kernel_rfl) ?_
    | refine okBrT ?_
    | refine okBrF ?_
    | refine okBr (fun h => ?_) (fun h => ?_)
    | refine endFn0 (.inr rfl) rfl (Cos.mkAgg ?_) rfl
    | (exfalso; simp_all; done)
  all_goals simp [bareF, signedK, cMsg, zMsg, zSign, zResult, zCert, zProof]
  all_goals (repeat' first | exact Cos.nil | exact Co.refl _ | exact Co.nil _ | refine Cos.cons ?_ ?_)
theorem xOnly9_s [Wd] (m : MsgD) : FnP Tryz.prog 130 [.agg (cMsg { m with kind := 9 })] (.agg (cMsg (bareF { m with kind := 9 }))) := by
  refine mkS 146 [] Tryz.func130 rfl (by kernel_rfl) ?_
  repeat'
    (conv => arg 2; whnf)
    first
    | refine okAsk (by kernel_rfl) ?_
    | refine okBrT ?_
    | refine okBrF ?_
    | refine okBr (fun h => ?_) (fun h => ?_)
    | refine endFn0 (.inr rfl) rfl (Cos.mkAgg ?_) rfl
    | (exfalso; simp_all; done)
  all_goals simp [bareF, signedK, cMsg, zMsg, zSign, zResult, zCert, zProof]
  all_goals (repeat' first | exact Cos.nil | exact Co.refl _ | exact Co.nil _ | refine Cos.cons ?_ ?_)
theorem xOnly10_s [Wd] (m : MsgD) : FnP Tryz.prog 130 [.agg (cMsg { m with kind := 10 })] (.agg (cMsg (bareF { m with kind := 10 }))) := by
  refine mkS 146 [] Tryz.func130 rfl (by kernel_rfl) ?_
  repeat'
    (conv => arg 2; whnf)
    first
    | refine okAsk (by kernel_rfl) ?_
    | refine okBrT ?_
    | refine okBrF ?_
    | refine okBr (fun h => ?_) (fun h => ?_)
    | refine endFn0 (.inr rfl) rfl (Cos.mkAgg ?_) rfl
    | (exfalso; simp_all; done)
  all_goals simp [bareF, signedK, cMsg, zMsg, zSign, zResult, zCert, zProof]
  all_goals (repeat' first | exact Cos.nil | exact Co.refl _ | exact Co.nil _ | refine Cos.cons ?_ ?_)
theorem xOnly11_s [Wd] (m : MsgD) : FnP Tryz.prog 130 [.agg (cMsg { m with kind := 11 })] (.agg (cMsg (bareF { m with kind := 11 }))) := by
  refine mkS 146 [] Tryz.func130 rfl (by kernel_rfl) ?_
  repeat'
    (conv => arg 2; whnf)
    first
    | refine okAsk (by kernel_rfl) ?_
    | refine okBrT ?_
    | refine okBrF ?_
    | refine okBr (fun h => ?_) (fun h => ?_)
    | refine endFn0 (.inr rfl) rfl (Cos.mkAgg ?_) rfl
    | (exfalso; simp_all; done)
  all_goals simp [bareF, signedK, cMsg, zMsg, zSign, zResult, zCert, zProof]
  all_goals (repeat' first | exact Cos.nil | exact Co.refl _ | exact Co.nil _ | refine Cos.cons ?_ ?_)
theorem xOnly12_s [Wd] (m : MsgD) : FnP Tryz.prog 130 [.agg (cMsg { m with kind := 12 })] (.agg (cMsg (bareF { m with kind := 12 }))) := by
  refine mkS 146 [] Tryz.func130 rfl (by kernel_rfl) ?_
  repeat'
    (conv => arg 2; whnf)
    first
    | refine okAsk (by kernel_rfl) ?_
    | refine okBrT ?_
    | refine okBrF ?_
    | refine okBr (fun h => ?_) (fun h => ?_)
    | refine endFn0 (.inr rfl) rfl (Cos.mkAgg ?_) rfl
    | (exfalso; simp_all; done)
  all_goals simp [bareF, signedK, cMsg, zMsg, zSign, zResult, zCert, zProof]
  all_goals (repeat' first | exact Cos.nil | exact Co.refl _ | exact Co.nil _ | refine Cos.cons ?_ ?_)
theorem xVote_s [Wd] (m : MsgD) (e : Int) : FnP Tryz.prog 146 [.agg (cMsg m), .int .i64 e] (.int .i64 (listE id [brokE m.src, numE m.view, posE m.seq, posE m.digest, e, signE m.sign])) := by
  refine mkS 23 [(1, ⟨[(0, false), (1, false), (3, false), (4, false), (6, false), (7, false), (9, false), (10, false), (12, false), (13, false), (14, false), (2, true), (5, true), (8, true), (11, true), (15, true), (16, true), (17, true), (18, false)], []⟩)] Tryz.func146 rfl (by kernel_rfl) ?_
  repeat'
    (conv => arg 2; whnf)
    first
    | refine okAsk (by kernel_rfl) ?_
    | refine okBrT ?_
    | refine okBrF ?_
    | refine okBr (fun h => ?_) (fun h => ?_)
    | refine okFn (xBroker_s _) rfl (Cos.refl _) ?_
    | refine okFn (xNum_s _) rfl (Cos.refl _) ?_
    | refine okFn (xPos_s _) rfl (Cos.refl _) ?_
    | refine okFn (rCheckSign_s m.sign) rfl (Cos.refl _) ?_
    | refine okFn (xFirst_s [brokE m.src, numE m.view, posE m.seq, posE m.digest, e, signE m.sign] (by simp)) rfl (Cos.refl _) ?_
    | refine endInt (.inr rfl) rfl rfl
theorem xParts1_s [Wd] (m : MsgD) (hm : dMsg.ok m) : FnP Tryz.prog 129 [.agg (cMsg { m with kind := 1 })] (.int .i64 (msgE { m with kind := 1 })) := by
  refine mkS 154 [(13, ⟨[(0, false), (1, false), (3, false), (4, false), (6, false), (7, false), (9, false), (10, false), (12, false), (13, false), (14, false), (16, false), (17, false), (18, false), (20, false), (2, true), (5, true), (8, true), (11, true), (15, true), (19, true), (21, true), (22, true), (23, false)], []⟩), (15, ⟨[(0, false), (1, false), (3, false), (4, false), (6, false), (7, false), (9, false), (2, true), (5, true), (8, true), (10, true), (11, true), (12, false)], []⟩), (28, ⟨[(0, false), (1, false), (3, false), (4, false), (6, false), (2, true), (5, true), (7, true), (8, true), (9, false)], []⟩), (30, ⟨[(0, false), (1, false), (3, false), (4, false), (6, false), (7, false), (8, false), (2, true), (5, true), (9, true), (10, true), (11, true), (12, false)], []⟩), (32, ⟨[(0, false), (1, false), (3, false), (4, false), (6, false), (7, false), (2, true), (5, true), (8, true), (9, true), (10, true), (11, false)], []⟩), (34, ⟨[(0, false), (1, false), (3, false), (4, false), (2, true), (5, true), (6, true), (7, true), (8, false)], []⟩)] Tryz.func129 rfl (by kernel_rfl) ?_
  repeat'
    (conv => arg 2; whnf)
    first
    | refine okAsk (by kernel_rfl) ?_
    | refine okBrT ?_
    | refine okBrF ?_
    | refine okBr (fun h => ?_) (fun h => ?_)
    | refine okFn (rCheckSign_s m.sign) rfl (Cos.refl _) ?_
    | refine okFn (rCheckBatch_s m.batch hm.2.2.2.2.2.2.2.2.1) rfl (Cos.refl _) ?_
    | (refine endInt (.inr rfl) rfl ?_; simp [msgE, kindE, signedK, listE, orE_assoc, orE_z, z_orE, voteE]; done)
    | (refine endInt (.inr rfl) rfl ?_; simp_all [msgE, kindE, signedK, listE, orE_assoc, orE_z, z_orE, voteE, rangeE, orE]; done)
    | (refine endInt (.inr rfl) rfl ?_; simp_all [msgE, kindE, signedK, listE, orE_assoc, orE_z, z_orE, voteE, rangeE, orE]; omega)
    | (exfalso; simp_all; done)
theorem xParts2_s [Wd] (m : MsgD) (hm : dMsg.ok m) : FnP Tryz.prog 129 [.agg (cMsg { m with kind := 2 })] (.int .i64 (msgE { m with kind := 2 })) := by
  refine mkS 154 [(13, ⟨[(0, false), (1, false), (3, false), (4, false), (6, false), (7, false), (9, false), (10, false), (12, false), (13, false), (14, false), (16, false), (17, false), (18, false), (20, false), (2, true), (5, true), (8, true), (11, true), (15, true), (19, true), (21, true), (22, true), (23, false)], []⟩), (15, ⟨[(0, false), (1, false), (3, false), (4, false), (6, false), (7, false), (9, false), (2, true), (5, true), (8, true), (10, true), (11, true), (12, false)], []⟩), (28, ⟨[(0, false), (1, false), (3, false), (4, false), (6, false), (2, true), (5, true), (7, true), (8, true), (9, false)], []⟩), (30, ⟨[(0, false), (1, false), (3, false), (4, false), (6, false), (7, false), (8, false), (2, true), (5, true), (9, true), (10, true), (11, true), (12, false)], []⟩), (32, ⟨[(0, false), (1, false), (3, false), (4, false), (6, false), (7, false), (2, true), (5, true), (8, true), (9, true), (10, true), (11, false)], []⟩), (34, ⟨[(0, false), (1, false), (3, false), (4, false), (2, true), (5, true), (6, true), (7, true), (8, false)], []⟩)] Tryz.func129 rfl (by kernel_rfl) ?_
  repeat'
    (conv => arg 2; whnf)
    first
    | refine okAsk (by kernel_rfl) ?_
    | refine okBrT ?_
    | refine okBrF ?_
    | refine okBr (fun h => ?_) (fun h => ?_)
    | refine okFn (rCheckSign_s m.sign) rfl (Cos.refl _) ?_
    | refine okFn (rCheckBatch_s m.batch hm.2.2.2.2.2.2.2.2.1) rfl (Cos.refl _) ?_
    | refine okFn (xVote_s { m with kind := 2 } (batchE m.batch)) rfl (Cos.refl _) ?_
    | (refine endInt (.inr rfl) rfl ?_; simp [msgE, kindE, signedK, listE, orE_assoc, orE_z, z_orE, voteE]; done)
    | (refine endInt (.inr rfl) rfl ?_; simp_all [msgE, kindE, signedK, listE, orE_assoc, orE_z, z_orE, voteE, rangeE, orE]; done)
    | (refine endInt (.inr rfl) rfl ?_; simp_all [msgE, kindE, signedK, listE, orE_assoc, orE_z, z_orE, voteE, rangeE, orE]; omega)
    | (exfalso; simp_all; done)
theorem xParts3_s [Wd] (m : MsgD) (hm : dMsg.ok m) : FnP Tryz.prog 129 [.agg (cMsg { m with kind := 3 })] (.int .i64 (msgE { m with kind := 3 })) := by
  refine mkS 154 [(13, ⟨[(0, false), (1, false), (3, false), (4, false), (6, false), (7, false), (9, false), (10, false), (12, false), (13, false), (14, false), (16, false), (17, false), (18, false), (20, false), (2, true), (5, true), (8, true), (11, true), (15, true), (19, true), (21, true), (22, true), (23, false)], []⟩), (15, ⟨[(0, false), (1, false), (3, false), (4, false), (6, false), (7, false), (9, false), (2, true), (5, true), (8, true), (10, true), (11, true), (12, false)], []⟩), (28, ⟨[(0, false), (1, false), (3, false), (4, false), (6, false), (2, true), (5, true), (7, true), (8, true), (9, false)], []⟩), (30, ⟨[(0, false), (1, false), (3, false), (4, false), (6, false), (7, false), (8, false), (2, true), (5, true), (9, true), (10, true), (11, true), (12, false)], []⟩), (32, ⟨[(0, false), (1, false), (3, false), (4, false), (6, false), (7, false), (2, true), (5, true), (8, true), (9, true), (10, true), (11, false)], []⟩), (34, ⟨[(0, false), (1, false), (3, false), (4, false), (2, true), (5, true), (6, true), (7, true), (8, false)], []⟩)] Tryz.func129 rfl (by kernel_rfl) ?_
  repeat'
    (conv => arg 2; whnf)
    first
    | refine okAsk (by kernel_rfl) ?_
    | refine okBrT ?_
    | refine okBrF ?_
    | refine okBr (fun h => ?_) (fun h => ?_)
    | refine okFn (rCheckSign_s m.sign) rfl (Cos.refl _) ?_
    | refine okFn (xVote_s { m with kind := 3 } 0) rfl (Cos.refl _) ?_
    | (refine endInt (.inr rfl) rfl ?_; simp [msgE, kindE, signedK, listE, orE_assoc, orE_z, z_orE, voteE]; done)
    | (refine endInt (.inr rfl) rfl ?_; simp_all [msgE, kindE, signedK, listE, orE_assoc, orE_z, z_orE, voteE, rangeE, orE]; done)
    | (refine endInt (.inr rfl) rfl ?_; simp_all [msgE, kindE, signedK, listE, orE_assoc, orE_z, z_orE, voteE, rangeE, orE]; omega)
    | (exfalso; simp_all; done)
theorem xParts4_s [Wd] (m : MsgD) (hm : dMsg.ok m) : FnP Tryz.prog 129 [.agg (cMsg { m with kind := 4 })] (.int .i64 (msgE { m with kind := 4 })) := by
  refine mkS 154 [(13, ⟨[(0, false), (1, false), (3, false), (4, false), (6, false), (7, false), (9, false), (10, false), (12, false), (13, false), (14, false), (16, false), (17, false), (18, false), (20, false), (2, true), (5, true), (8, true), (11, true), (15, true), (19, true), (21, true), (22, true), (23, false)], []⟩), (15, ⟨[(0, false), (1, false), (3, false), (4, false), (6, false), (7, false), (9, false), (2, true), (5, true), (8, true), (10, true), (11, true), (12, false)], []⟩), (28, ⟨[(0, false), (1, false), (3, false), (4, false), (6, false), (2, true), (5, true), (7, true), (8, true), (9, false)], []⟩), (30, ⟨[(0, false), (1, false), (3, false), (4, false), (6, false), (7, false), (8, false), (2, true), (5, true), (9, true), (10, true), (11, true), (12, false)], []⟩), (32, ⟨[(0, false), (1, false), (3, false), (4, false), (6, false), (7, false), (2, true), (5, true), (8, true), (9, true), (10, true), (11, false)], []⟩), (34, ⟨[(0, false), (1, false), (3, false), (4, false), (2, true), (5, true), (6, true), (7, true), (8, false)], []⟩)] Tryz.func129 rfl (by kernel_rfl) ?_
  repeat'
    (conv => arg 2; whnf)
    first
    | refine okAsk (by kernel_rfl) ?_
    | refine okBrT ?_
    | refine okBrF ?_
    | refine okBr (fun h => ?_) (fun h => ?_)
    | refine okFn (rCheckSign_s m.sign) rfl (Cos.refl _) ?_
    | refine okFn (xVote_s { m with kind := 4 } 0) rfl (Cos.refl _) ?_
    | (refine endInt (.inr rfl) rfl ?_; simp [msgE, kindE, signedK, listE, orE_assoc, orE_z, z_orE, voteE]; done)
    | (refine endInt (.inr rfl) rfl ?_; simp_all [msgE, kindE, signedK, listE, orE_assoc, orE_z, z_orE, voteE, rangeE, orE]; done)
    | (refine endInt (.inr rfl) rfl ?_; simp_all [msgE, kindE, signedK, listE, orE_assoc, orE_z, z_orE, voteE, rangeE, orE]; omega)
    | (exfalso; simp_all; done)
theorem xParts5_s [Wd] (m : MsgD) (hm : dMsg.ok m) : FnP Tryz.prog 129 [.agg (cMsg { m with kind := 5 })] (.int .i64 (msgE { m with kind := 5 })) := by
  refine mkS 154 [(13, ⟨[(0, false), (1, false), (3, false), (4, false), (6, false), (7, false), (9, false), (10, false), (12, false), (13, false), (14, false), (16, false), (17, false), (18, false), (20, false), (2, true), (5, true), (8, true), (11, true), (15, true), (19, true), (21, true), (22, true), (23, false)], []⟩), (15, ⟨[(0, false), (1, false), (3, false), (4, false), (6, false), (7, false), (9, false), (2, true), (5, true), (8, true), (10, true), (11, true), (12, false)], []⟩), (28, ⟨[(0, false), (1, false), (3, false), (4, false), (6, false), (2, true), (5, true), (7, true), (8, true), (9, false)], []⟩), (30, ⟨[(0, false), (1, false), (3, false), (4, false), (6, false), (7, false), (8, false), (2, true), (5, true), (9, true), (10, true), (11, true), (12, false)], []⟩), (32, ⟨[(0, false), (1, false), (3, false), (4, false), (6, false), (7, false), (2, true), (5, true), (8, true), (9, true), (10, true), (11, false)], []⟩), (34, ⟨[(0, false), (1, false), (3, false), (4, false), (2, true), (5, true), (6, true), (7, true), (8, false)], []⟩)] Tryz.func129 rfl (by kernel_rfl) ?_
  repeat'
    (conv => arg 2; whnf)
    first
    | refine okAsk (by kernel_rfl) ?_
    | refine okBrT ?_
    | refine okBrF ?_
    | refine okBr (fun h => ?_) (fun h => ?_)
    | refine okFn (rCheckSign_s m.sign) rfl (Cos.refl _) ?_
    | refine okFn (xBroker_s _) rfl (Cos.refl _) ?_
    | refine okFn (xNum_s _) rfl (Cos.refl _) ?_
    | refine okFn (xIn_s _ _ _) rfl (Cos.refl _) ?_
    | refine okFn (xFirst_s [brokE m.src, numE m.view, rangeE m.client 0 7, numE m.time, rangeE m.result.err 0 65536, numE m.result.offset, signE m.sign] (by simp)) rfl (Cos.refl _) ?_
    | (refine endInt (.inr rfl) rfl ?_; simp [msgE, kindE, signedK, listE, orE_assoc, orE_z, z_orE, voteE]; done)
    | (refine endInt (.inr rfl) rfl ?_; simp_all [msgE, kindE, signedK, listE, orE_assoc, orE_z, z_orE, voteE, rangeE, orE]; done)
    | (refine endInt (.inr rfl) rfl ?_; simp_all [msgE, kindE, signedK, listE, orE_assoc, orE_z, z_orE, voteE, rangeE, orE]; omega)
    | (exfalso; simp_all; done)
theorem xParts6_s [Wd] (m : MsgD) (hm : dMsg.ok m) : FnP Tryz.prog 129 [.agg (cMsg { m with kind := 6 })] (.int .i64 (msgE { m with kind := 6 })) := by
  refine mkS 154 [(13, ⟨[(0, false), (1, false), (3, false), (4, false), (6, false), (7, false), (9, false), (10, false), (12, false), (13, false), (14, false), (16, false), (17, false), (18, false), (20, false), (2, true), (5, true), (8, true), (11, true), (15, true), (19, true), (21, true), (22, true), (23, false)], []⟩), (15, ⟨[(0, false), (1, false), (3, false), (4, false), (6, false), (7, false), (9, false), (2, true), (5, true), (8, true), (10, true), (11, true), (12, false)], []⟩), (28, ⟨[(0, false), (1, false), (3, false), (4, false), (6, false), (2, true), (5, true), (7, true), (8, true), (9, false)], []⟩), (30, ⟨[(0, false), (1, false), (3, false), (4, false), (6, false), (7, false), (8, false), (2, true), (5, true), (9, true), (10, true), (11, true), (12, false)], []⟩), (32, ⟨[(0, false), (1, false), (3, false), (4, false), (6, false), (7, false), (2, true), (5, true), (8, true), (9, true), (10, true), (11, false)], []⟩), (34, ⟨[(0, false), (1, false), (3, false), (4, false), (2, true), (5, true), (6, true), (7, true), (8, false)], []⟩)] Tryz.func129 rfl (by kernel_rfl) ?_
  repeat'
    (conv => arg 2; whnf)
    first
    | refine okAsk (by kernel_rfl) ?_
    | refine okBrT ?_
    | refine okBrF ?_
    | refine okBr (fun h => ?_) (fun h => ?_)
    | refine okFn (rCheckSign_s m.sign) rfl (Cos.refl _) ?_
    | refine okFn (xBroker_s _) rfl (Cos.refl _) ?_
    | refine okFn (xPos_s _) rfl (Cos.refl _) ?_
    | refine okFn (xFirst_s [brokE m.src, posE m.seq, posE m.digest, signE m.sign] (by simp)) rfl (Cos.refl _) ?_
    | (refine endInt (.inr rfl) rfl ?_; simp [msgE, kindE, signedK, listE, orE_assoc, orE_z, z_orE, voteE]; done)
    | (refine endInt (.inr rfl) rfl ?_; simp_all [msgE, kindE, signedK, listE, orE_assoc, orE_z, z_orE, voteE, rangeE, orE]; done)
    | (refine endInt (.inr rfl) rfl ?_; simp_all [msgE, kindE, signedK, listE, orE_assoc, orE_z, z_orE, voteE, rangeE, orE]; omega)
    | (exfalso; simp_all; done)
theorem xParts8_s [Wd] (m : MsgD) (hm : dMsg.ok m) : FnP Tryz.prog 129 [.agg (cMsg { m with kind := 8 })] (.int .i64 (msgE { m with kind := 8 })) := by
  have hk : dMsg.ok { m with kind := 8 } := by
    rw [dMsg_ok] at hm ⊢
    exact ⟨(show -9223372036854775808 ≤ (8 : Int) ∧ (8 : Int) ≤ 9223372036854775807 by omega), hm.2⟩
  refine mkS 154 [(13, ⟨[(0, false), (1, false), (3, false), (4, false), (6, false), (7, false), (9, false), (10, false), (12, false), (13, false), (14, false), (16, false), (17, false), (18, false), (20, false), (2, true), (5, true), (8, true), (11, true), (15, true), (19, true), (21, true), (22, true), (23, false)], []⟩), (15, ⟨[(0, false), (1, false), (3, false), (4, false), (6, false), (7, false), (9, false), (2, true), (5, true), (8, true), (10, true), (11, true), (12, false)], []⟩), (28, ⟨[(0, false), (1, false), (3, false), (4, false), (6, false), (2, true), (5, true), (7, true), (8, true), (9, false)], []⟩), (30, ⟨[(0, false), (1, false), (3, false), (4, false), (6, false), (7, false), (8, false), (2, true), (5, true), (9, true), (10, true), (11, true), (12, false)], []⟩), (32, ⟨[(0, false), (1, false), (3, false), (4, false), (6, false), (7, false), (2, true), (5, true), (8, true), (9, true), (10, true), (11, false)], []⟩), (34, ⟨[(0, false), (1, false), (3, false), (4, false), (2, true), (5, true), (6, true), (7, true), (8, false)], []⟩)] Tryz.func129 rfl (by kernel_rfl) ?_
  repeat'
    (conv => arg 2; whnf)
    first
    | refine okAsk (by kernel_rfl) ?_
    | refine okBrT ?_
    | refine okBrF ?_
    | refine okBr (fun h => ?_) (fun h => ?_)
    | refine okFn (rCheckSign_s m.sign) rfl (Cos.refl _) ?_
    | refine okFn (xNew_s { m with kind := 8 } hk) rfl (Cos.refl _) ?_
    | (refine endInt (.inr rfl) rfl ?_; simp [msgE, kindE, signedK, listE, orE_assoc, orE_z, z_orE, voteE, newE]; done)
    | (refine endInt (.inr rfl) rfl ?_; simp_all [msgE, kindE, signedK, listE, orE_assoc, orE_z, z_orE, voteE, rangeE, orE, newE]; done)
    | (refine endInt (.inr rfl) rfl ?_; simp_all [msgE, kindE, signedK, listE, orE_assoc, orE_z, z_orE, voteE, rangeE, orE, newE]; omega)
    | (exfalso; simp_all; done)
theorem xParts9_s [Wd] (m : MsgD) (hm : dMsg.ok m) : FnP Tryz.prog 129 [.agg (cMsg { m with kind := 9 })] (.int .i64 (msgE { m with kind := 9 })) := by
  refine mkS 154 [(13, ⟨[(0, false), (1, false), (3, false), (4, false), (6, false), (7, false), (9, false), (10, false), (12, false), (13, false), (14, false), (16, false), (17, false), (18, false), (20, false), (2, true), (5, true), (8, true), (11, true), (15, true), (19, true), (21, true), (22, true), (23, false)], []⟩), (15, ⟨[(0, false), (1, false), (3, false), (4, false), (6, false), (7, false), (9, false), (2, true), (5, true), (8, true), (10, true), (11, true), (12, false)], []⟩), (28, ⟨[(0, false), (1, false), (3, false), (4, false), (6, false), (2, true), (5, true), (7, true), (8, true), (9, false)], []⟩), (30, ⟨[(0, false), (1, false), (3, false), (4, false), (6, false), (7, false), (8, false), (2, true), (5, true), (9, true), (10, true), (11, true), (12, false)], []⟩), (32, ⟨[(0, false), (1, false), (3, false), (4, false), (6, false), (7, false), (2, true), (5, true), (8, true), (9, true), (10, true), (11, false)], []⟩), (34, ⟨[(0, false), (1, false), (3, false), (4, false), (2, true), (5, true), (6, true), (7, true), (8, false)], []⟩)] Tryz.func129 rfl (by kernel_rfl) ?_
  repeat'
    (conv => arg 2; whnf)
    first
    | refine okAsk (by kernel_rfl) ?_
    | refine okBrT ?_
    | refine okBrF ?_
    | refine okBr (fun h => ?_) (fun h => ?_)
    | refine okFn (rCheckSign_s m.sign) rfl (Cos.refl _) ?_
    | refine okFn (xBroker_s _) rfl (Cos.refl _) ?_
    | refine okFn (xNum_s _) rfl (Cos.refl _) ?_
    | refine okFn (xFirst_s [brokE m.src, numE m.seq, signE m.sign] (by simp)) rfl (Cos.refl _) ?_
    | (refine endInt (.inr rfl) rfl ?_; simp [msgE, kindE, signedK, listE, orE_assoc, orE_z, z_orE, voteE]; done)
    | (refine endInt (.inr rfl) rfl ?_; simp_all [msgE, kindE, signedK, listE, orE_assoc, orE_z, z_orE, voteE, rangeE, orE]; done)
    | (refine endInt (.inr rfl) rfl ?_; simp_all [msgE, kindE, signedK, listE, orE_assoc, orE_z, z_orE, voteE, rangeE, orE]; omega)
    | (exfalso; simp_all; done)
theorem xParts10_s [Wd] (m : MsgD) (hm : dMsg.ok m) : FnP Tryz.prog 129 [.agg (cMsg { m with kind := 10 })] (.int .i64 (msgE { m with kind := 10 })) := by
  refine mkS 154 [(13, ⟨[(0, false), (1, false), (3, false), (4, false), (6, false), (7, false), (9, false), (10, false), (12, false), (13, false), (14, false), (16, false), (17, false), (18, false), (20, false), (2, true), (5, true), (8, true), (11, true), (15, true), (19, true), (21, true), (22, true), (23, false)], []⟩), (15, ⟨[(0, false), (1, false), (3, false), (4, false), (6, false), (7, false), (9, false), (2, true), (5, true), (8, true), (10, true), (11, true), (12, false)], []⟩), (28, ⟨[(0, false), (1, false), (3, false), (4, false), (6, false), (2, true), (5, true), (7, true), (8, true), (9, false)], []⟩), (30, ⟨[(0, false), (1, false), (3, false), (4, false), (6, false), (7, false), (8, false), (2, true), (5, true), (9, true), (10, true), (11, true), (12, false)], []⟩), (32, ⟨[(0, false), (1, false), (3, false), (4, false), (6, false), (7, false), (2, true), (5, true), (8, true), (9, true), (10, true), (11, false)], []⟩), (34, ⟨[(0, false), (1, false), (3, false), (4, false), (2, true), (5, true), (6, true), (7, true), (8, false)], []⟩)] Tryz.func129 rfl (by kernel_rfl) ?_
  repeat'
    (conv => arg 2; whnf)
    first
    | refine okAsk (by kernel_rfl) ?_
    | refine okBrT ?_
    | refine okBrF ?_
    | refine okBr (fun h => ?_) (fun h => ?_)
    | refine okFn (rCheckSign_s m.sign) rfl (Cos.refl _) ?_
    | refine okFn (xBroker_s _) rfl (Cos.refl _) ?_
    | refine okFn (xCert_s m.cert hm.2.2.2.2.2.2.2.2.2.1) rfl (Cos.refl _) ?_
    | refine okFn (xIn_s _ _ _) rfl (Cos.refl _) ?_
    | refine okFn (xFirst_s [brokE m.src, certE m.cert, rangeE ((m.state.map cByte).length : Int) 0 262144] (by simp)) rfl (Cos.refl _) ?_
    | (refine endInt (.inr rfl) rfl ?_; simp [msgE, kindE, signedK, listE, orE_assoc, orE_z, z_orE, voteE, manyE]; done)
    | (refine endInt (.inr rfl) rfl ?_; simp_all [msgE, kindE, signedK, listE, orE_assoc, orE_z, z_orE, voteE, rangeE, orE, manyE]; done)
    | (refine endInt (.inr rfl) rfl ?_; simp_all [msgE, kindE, signedK, listE, orE_assoc, orE_z, z_orE, voteE, rangeE, orE, manyE]; omega)
    | (exfalso; simp_all; done)
theorem xParts11_s [Wd] (m : MsgD) (hm : dMsg.ok m) : FnP Tryz.prog 129 [.agg (cMsg { m with kind := 11 })] (.int .i64 (msgE { m with kind := 11 })) := by
  refine mkS 154 [(13, ⟨[(0, false), (1, false), (3, false), (4, false), (6, false), (7, false), (9, false), (10, false), (12, false), (13, false), (14, false), (16, false), (17, false), (18, false), (20, false), (2, true), (5, true), (8, true), (11, true), (15, true), (19, true), (21, true), (22, true), (23, false)], []⟩), (15, ⟨[(0, false), (1, false), (3, false), (4, false), (6, false), (7, false), (9, false), (2, true), (5, true), (8, true), (10, true), (11, true), (12, false)], []⟩), (28, ⟨[(0, false), (1, false), (3, false), (4, false), (6, false), (2, true), (5, true), (7, true), (8, true), (9, false)], []⟩), (30, ⟨[(0, false), (1, false), (3, false), (4, false), (6, false), (7, false), (8, false), (2, true), (5, true), (9, true), (10, true), (11, true), (12, false)], []⟩), (32, ⟨[(0, false), (1, false), (3, false), (4, false), (6, false), (7, false), (2, true), (5, true), (8, true), (9, true), (10, true), (11, false)], []⟩), (34, ⟨[(0, false), (1, false), (3, false), (4, false), (2, true), (5, true), (6, true), (7, true), (8, false)], []⟩)] Tryz.func129 rfl (by kernel_rfl) ?_
  repeat'
    (conv => arg 2; whnf)
    first
    | refine okAsk (by kernel_rfl) ?_
    | refine okBrT ?_
    | refine okBrF ?_
    | refine okBr (fun h => ?_) (fun h => ?_)
    | refine okFn (rCheckSign_s m.sign) rfl (Cos.refl _) ?_
    | refine okFn (xIn_s _ _ _) rfl (Cos.refl _) ?_
    | refine okFn (xName_s m.topic hm.2.2.2.2.2.2.2.2.2.2.2.2.2.1) rfl (Cos.refl _) ?_
    | refine okFn (xNum_s _) rfl (Cos.refl _) ?_
    | refine okFn (xFirst_s [rangeE m.client 0 7, nameE m.topic, numE m.offset] (by simp)) rfl (Cos.refl _) ?_
    | (refine endInt (.inr rfl) rfl ?_; simp [msgE, kindE, signedK, listE, orE_assoc, orE_z, z_orE, voteE]; done)
    | (refine endInt (.inr rfl) rfl ?_; simp_all [msgE, kindE, signedK, listE, orE_assoc, orE_z, z_orE, voteE, rangeE, orE]; done)
    | (refine endInt (.inr rfl) rfl ?_; simp_all [msgE, kindE, signedK, listE, orE_assoc, orE_z, z_orE, voteE, rangeE, orE]; omega)
    | (exfalso; simp_all; done)
theorem xParts12_s [Wd] (m : MsgD) (hm : dMsg.ok m) : FnP Tryz.prog 129 [.agg (cMsg { m with kind := 12 })] (.int .i64 (msgE { m with kind := 12 })) := by
  refine mkS 154 [(13, ⟨[(0, false), (1, false), (3, false), (4, false), (6, false), (7, false), (9, false), (10, false), (12, false), (13, false), (14, false), (16, false), (17, false), (18, false), (20, false), (2, true), (5, true), (8, true), (11, true), (15, true), (19, true), (21, true), (22, true), (23, false)], []⟩), (15, ⟨[(0, false), (1, false), (3, false), (4, false), (6, false), (7, false), (9, false), (2, true), (5, true), (8, true), (10, true), (11, true), (12, false)], []⟩), (28, ⟨[(0, false), (1, false), (3, false), (4, false), (6, false), (2, true), (5, true), (7, true), (8, true), (9, false)], []⟩), (30, ⟨[(0, false), (1, false), (3, false), (4, false), (6, false), (7, false), (8, false), (2, true), (5, true), (9, true), (10, true), (11, true), (12, false)], []⟩), (32, ⟨[(0, false), (1, false), (3, false), (4, false), (6, false), (7, false), (2, true), (5, true), (8, true), (9, true), (10, true), (11, false)], []⟩), (34, ⟨[(0, false), (1, false), (3, false), (4, false), (2, true), (5, true), (6, true), (7, true), (8, false)], []⟩)] Tryz.func129 rfl (by kernel_rfl) ?_
  repeat'
    (conv => arg 2; whnf)
    first
    | refine okAsk (by kernel_rfl) ?_
    | refine okBrT ?_
    | refine okBrF ?_
    | refine okBr (fun h => ?_) (fun h => ?_)
    | refine okFn (rCheckSign_s m.sign) rfl (Cos.refl _) ?_
    | refine okFn (xBroker_s _) rfl (Cos.refl _) ?_
    | refine okFn (xProof_s m.proof hm.2.2.2.2.2.2.2.2.2.2.2.2.2.2.2.1) rfl (Cos.refl _) ?_
    | refine okFn (xFirst_s [brokE m.src, proofE m.proof] (by simp)) rfl (Cos.refl _) ?_
    | (refine endInt (.inr rfl) rfl ?_; simp [msgE, kindE, signedK, listE, orE_assoc, orE_z, z_orE, voteE]; done)
    | (refine endInt (.inr rfl) rfl ?_; simp_all [msgE, kindE, signedK, listE, orE_assoc, orE_z, z_orE, voteE, rangeE, orE]; done)
    | (refine endInt (.inr rfl) rfl ?_; simp_all [msgE, kindE, signedK, listE, orE_assoc, orE_z, z_orE, voteE, rangeE, orE]; omega)
    | (exfalso; simp_all; done)
theorem xParts7a_s [Wd] (m : MsgD) (hm : dMsg.ok m) (hc : ¬ m.changes.length = 1) : FnP Tryz.prog 129 [.agg (cMsg { m with kind := 7 })] (.int .i64 (msgE { m with kind := 7 })) := by
  refine mkS 154 [(13, ⟨[(0, false), (1, false), (3, false), (4, false), (6, false), (7, false), (9, false), (10, false), (12, false), (13, false), (14, false), (16, false), (17, false), (18, false), (20, false), (2, true), (5, true), (8, true), (11, true), (15, true), (19, true), (21, true), (22, true), (23, false)], []⟩), (15, ⟨[(0, false), (1, false), (3, false), (4, false), (6, false), (7, false), (9, false), (2, true), (5, true), (8, true), (10, true), (11, true), (12, false)], []⟩), (28, ⟨[(0, false), (1, false), (3, false), (4, false), (6, false), (2, true), (5, true), (7, true), (8, true), (9, false)], []⟩), (30, ⟨[(0, false), (1, false), (3, false), (4, false), (6, false), (7, false), (8, false), (2, true), (5, true), (9, true), (10, true), (11, true), (12, false)], []⟩), (32, ⟨[(0, false), (1, false), (3, false), (4, false), (6, false), (7, false), (2, true), (5, true), (8, true), (9, true), (10, true), (11, false)], []⟩), (34, ⟨[(0, false), (1, false), (3, false), (4, false), (2, true), (5, true), (6, true), (7, true), (8, false)], []⟩)] Tryz.func129 rfl (by kernel_rfl) ?_
  repeat'
    (conv => arg 2; whnf)
    first
    | refine okAsk (by kernel_rfl) ?_
    | refine okBrT ?_
    | refine okBrF ?_
    | refine okBr (fun h => ?_) (fun h => ?_)
    | refine okFn (rCheckSign_s m.sign) rfl (Cos.refl _) ?_
    | (refine endInt (.inr rfl) rfl ?_; have e : rangeE (m.changes.length : Int) 1 1 = 100 := (by unfold rangeE; rw [if_pos (by omega)]); simp [msgE, kindE, signedK, orE_z, e, orE]; done)
    | (exfalso; simp at *; omega)
theorem xParts7b_s [Wd] (m : MsgD) (hm : dMsg.ok m) (c : ChangeD) (hc : m.changes = [c]) : FnP Tryz.prog 129 [.agg (cMsg { m with kind := 7 })] (.int .i64 (msgE { m with kind := 7 })) := by
  have hcc : dChange.ok c := hm.2.2.2.2.2.2.2.2.2.2.1.2 c (by show c ∈ m.changes; rw [hc]; simp)
  have sh : msgE { m with kind := 7 } = orE (chgE c) (if c.src ≠ m.src ∨ c.view ≠ m.view then 100 else 0) := by
    simp [msgE, kindE, signedK, orE_z, hc, listE, viewE, rangeE, z_orE]
  refine mkS 154 [(13, ⟨[(0, false), (1, false), (3, false), (4, false), (6, false), (7, false), (9, false), (10, false), (12, false), (13, false), (14, false), (16, false), (17, false), (18, false), (20, false), (2, true), (5, true), (8, true), (11, true), (15, true), (19, true), (21, true), (22, true), (23, false)], []⟩), (15, ⟨[(0, false), (1, false), (3, false), (4, false), (6, false), (7, false), (9, false), (2, true), (5, true), (8, true), (10, true), (11, true), (12, false)], []⟩), (28, ⟨[(0, false), (1, false), (3, false), (4, false), (6, false), (2, true), (5, true), (7, true), (8, true), (9, false)], []⟩), (30, ⟨[(0, false), (1, false), (3, false), (4, false), (6, false), (7, false), (8, false), (2, true), (5, true), (9, true), (10, true), (11, true), (12, false)], []⟩), (32, ⟨[(0, false), (1, false), (3, false), (4, false), (6, false), (7, false), (2, true), (5, true), (8, true), (9, true), (10, true), (11, false)], []⟩), (34, ⟨[(0, false), (1, false), (3, false), (4, false), (2, true), (5, true), (6, true), (7, true), (8, false)], []⟩)] Tryz.func129 rfl (by kernel_rfl) ?_
  repeat'
    (conv => arg 2; whnf)
    first
    | refine okAsk (by kernel_rfl) ?_
    | refine okBrT ?_
    | refine okBrF ?_
    | refine okBr (fun h => ?_) (fun h => ?_)
    | refine okFn (rCheckSign_s m.sign) rfl (Cos.refl _) ?_
    | refine okNth (cChange c) (by decide) (by simp [hc]) ?_
    | refine okFn (xChange_s c hcc) rfl (Cos.refl _) ?_
    | (refine endInt (.inr rfl) rfl ?_; rw [sh]; simp_all [orE]; done)
    | (refine endInt (.inr rfl) rfl ?_; rw [sh]; simp_all [orE]; omega)
    | (exfalso; simp [hc] at h; done)
    | (exfalso; simp_all; done)
theorem xParts7_s [Wd] (m : MsgD) (hm : dMsg.ok m) : FnP Tryz.prog 129 [.agg (cMsg { m with kind := 7 })] (.int .i64 (msgE { m with kind := 7 })) := by
  by_cases hc : m.changes.length = 1
  · obtain ⟨c, hc⟩ := one_of hc
    exact xParts7b_s m hm c hc
  · exact xParts7a_s m hm hc
theorem xPartsN_s [Wd] (m : MsgD) (hm : dMsg.ok m) (hk : m.kind < 1 ∨ 12 < m.kind) : FnP Tryz.prog 129 [.agg (cMsg m)] (.int .i64 (msgE m)) := by
  have e : msgE m = 100 := by
    have h : kindE m = 100 := by
      unfold kindE
      rw [if_neg (by omega), if_neg (by omega), if_neg (by omega), if_neg (by omega), if_neg (by omega), if_neg (by omega), if_neg (by omega), if_neg (by omega), if_neg (by omega), if_neg (by omega), if_neg (by omega), if_neg (by omega)]
    unfold msgE
    rw [h]
    rfl
  refine mkS 154 [(13, ⟨[(0, false), (1, false), (3, false), (4, false), (6, false), (7, false), (9, false), (10, false), (12, false), (13, false), (14, false), (16, false), (17, false), (18, false), (20, false), (2, true), (5, true), (8, true), (11, true), (15, true), (19, true), (21, true), (22, true), (23, false)], []⟩), (15, ⟨[(0, false), (1, false), (3, false), (4, false), (6, false), (7, false), (9, false), (2, true), (5, true), (8, true), (10, true), (11, true), (12, false)], []⟩), (28, ⟨[(0, false), (1, false), (3, false), (4, false), (6, false), (2, true), (5, true), (7, true), (8, true), (9, false)], []⟩), (30, ⟨[(0, false), (1, false), (3, false), (4, false), (6, false), (7, false), (8, false), (2, true), (5, true), (9, true), (10, true), (11, true), (12, false)], []⟩), (32, ⟨[(0, false), (1, false), (3, false), (4, false), (6, false), (7, false), (2, true), (5, true), (8, true), (9, true), (10, true), (11, false)], []⟩), (34, ⟨[(0, false), (1, false), (3, false), (4, false), (2, true), (5, true), (6, true), (7, true), (8, false)], []⟩)] Tryz.func129 rfl (by kernel_rfl) ?_
  repeat'
    (conv => arg 2; whnf)
    first
    | refine okAsk (by kernel_rfl) ?_
    | refine okBrT ?_
    | refine okBrF ?_
    | refine okBr (fun h => ?_) (fun h => ?_)
    | refine okFn (rCheckSign_s m.sign) rfl (Cos.refl _) ?_
    | refine endInt (.inr rfl) rfl e.symm
    | (exfalso; simp at h; omega)
    | (exfalso; simp at *; omega)
theorem xParts_s [Wd] (m : MsgD) (hm : dMsg.ok m) : FnP Tryz.prog 129 [.agg (cMsg m)] (.int .i64 (msgE m)) := by
  by_cases k1 : m.kind = 1
  · have h := xParts1_s m hm; rw [msgKind k1] at h; exact h
  by_cases k2 : m.kind = 2
  · have h := xParts2_s m hm; rw [msgKind k2] at h; exact h
  by_cases k3 : m.kind = 3
  · have h := xParts3_s m hm; rw [msgKind k3] at h; exact h
  by_cases k4 : m.kind = 4
  · have h := xParts4_s m hm; rw [msgKind k4] at h; exact h
  by_cases k5 : m.kind = 5
  · have h := xParts5_s m hm; rw [msgKind k5] at h; exact h
  by_cases k6 : m.kind = 6
  · have h := xParts6_s m hm; rw [msgKind k6] at h; exact h
  by_cases k7 : m.kind = 7
  · have h := xParts7_s m hm; rw [msgKind k7] at h; exact h
  by_cases k8 : m.kind = 8
  · have h := xParts8_s m hm; rw [msgKind k8] at h; exact h
  by_cases k9 : m.kind = 9
  · have h := xParts9_s m hm; rw [msgKind k9] at h; exact h
  by_cases k10 : m.kind = 10
  · have h := xParts10_s m hm; rw [msgKind k10] at h; exact h
  by_cases k11 : m.kind = 11
  · have h := xParts11_s m hm; rw [msgKind k11] at h; exact h
  by_cases k12 : m.kind = 12
  · have h := xParts12_s m hm; rw [msgKind k12] at h; exact h
  exact xPartsN_s m hm (by omega)
theorem xOnly_s [Wd] (m : MsgD) (hk : 1 ≤ m.kind ∧ m.kind ≤ 12) : FnP Tryz.prog 130 [.agg (cMsg m)] (.agg (cMsg (bareF m))) := by
  by_cases k1 : m.kind = 1
  · have h := xOnly1_s m; rw [msgKind k1] at h; exact h
  by_cases k2 : m.kind = 2
  · have h := xOnly2_s m; rw [msgKind k2] at h; exact h
  by_cases k3 : m.kind = 3
  · have h := xOnly3_s m; rw [msgKind k3] at h; exact h
  by_cases k4 : m.kind = 4
  · have h := xOnly4_s m; rw [msgKind k4] at h; exact h
  by_cases k5 : m.kind = 5
  · have h := xOnly5_s m; rw [msgKind k5] at h; exact h
  by_cases k6 : m.kind = 6
  · have h := xOnly6_s m; rw [msgKind k6] at h; exact h
  by_cases k7 : m.kind = 7
  · have h := xOnly7_s m; rw [msgKind k7] at h; exact h
  by_cases k8 : m.kind = 8
  · have h := xOnly8_s m; rw [msgKind k8] at h; exact h
  by_cases k9 : m.kind = 9
  · have h := xOnly9_s m; rw [msgKind k9] at h; exact h
  by_cases k10 : m.kind = 10
  · have h := xOnly10_s m; rw [msgKind k10] at h; exact h
  by_cases k11 : m.kind = 11
  · have h := xOnly11_s m; rw [msgKind k11] at h; exact h
  by_cases k12 : m.kind = 12
  · have h := xOnly12_s m; rw [msgKind k12] at h; exact h
  omega
theorem xCheck_s [Wd] (m : MsgD) (hm : dMsg.ok m) : FnP Tryz.prog 101 [.agg (cMsg m)] (.int .i64 (checkE m)) := by
  by_cases h0 : msgE m = 0
  · have hk : 1 ≤ m.kind ∧ m.kind ≤ 12 := kind_range (msgE_kind h0)
    refine mkS 14 [] Tryz.func101 rfl (by kernel_rfl) ?_
    repeat'
      (conv => arg 2; whnf)
      first
      | refine okAsk (by kernel_rfl) ?_
      | refine okBrT ?_
      | refine okBrF ?_
      | refine okBr (fun h => ?_) (fun h => ?_)
      | refine okFn (xParts_s m hm) rfl (Cos.refl _) ?_
      | refine okFn (xOnly_s m hk) rfl (Cos.refl _) ?_
      | refine okFn (rMsg_s m (bareF m) hm (bare_ok hm)) rfl (Cos.refl _) ?_
      | (refine endInt (.inr rfl) rfl ?_; rw [checkE_b]; simp_all; done)
      | (exfalso; simp [h0] at h; done)
  · refine mkS 14 [] Tryz.func101 rfl (by kernel_rfl) ?_
    repeat'
      (conv => arg 2; whnf)
      first
      | refine okAsk (by kernel_rfl) ?_
      | refine okBrT ?_
      | refine okBrF ?_
      | refine okBr (fun h => ?_) (fun h => ?_)
      | refine okFn (xParts_s m hm) rfl (Cos.refl _) ?_
      | (refine endInt (.inr rfl) rfl ?_; rw [checkE_b]; simp_all; done)
      | (exfalso; simp [h0] at h; done)
end Go.Proofs.YtbbcepmhkocgbaaGreatDoor
