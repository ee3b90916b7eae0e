/- Lemmas and contracts, part 16. -/
import Derived.Test.YtafomdobfmmleaaGreatDoorZb15
import Derived.Lib.DecodeN
/- Names: the document's own decoding of runes counts what the language's counts: plain. No program here. -/
namespace Go.Proofs.YtafomdobfmmleaaGreatDoor
open Go.RowKit
set_option linter.unusedVariables false

/-- how many bytes a rune has that begins with a byte -/
def sizeN (c : Nat) : Nat := if c < 128 then 1 else if 194 ≤ c ∧ c < 224 then 2 else if 224 ≤ c ∧ c < 240 then 3 else if 240 ≤ c ∧ c < 245 then 4 else 0
def contN (b : Nat) : Bool := decide (128 ≤ b ∧ b < 192)
def leastN (n : Nat) : Nat := if n = 2 then 128 else if n = 3 then 2048 else if n = 4 then 65536 else 0
def fitN (n v : Nat) : Nat × Nat := if v < leastN n ∨ 1114111 < v ∨ (55296 ≤ v ∧ v < 57344) then (0, 0) else (v, n)
/-- the rune with which n bytes begin, and its bytes; no bytes: none -/
def rune1N (n b0 b1 b2 b3 : Nat) : Nat × Nat :=
  if sizeN b0 = 0 ∨ n < sizeN b0 then (0, 0)
  else if sizeN b0 = 1 then (b0, 1)
  else if sizeN b0 = 2 then (if contN b1 then fitN 2 (b0 % 32 * 64 + b1 % 64) else (0, 0))
  else if sizeN b0 = 3 then (if contN b1 && contN b2 then fitN 3 ((b0 % 16 * 64 + b1 % 64) * 64 + b2 % 64) else (0, 0))
  else (if contN b1 && contN b2 && contN b3 then fitN 4 (((b0 % 8 * 64 + b1 % 64) * 64 + b2 % 64) * 64 + b3 % 64) else (0, 0))
theorem fitN_eq (k v : Nat) (hk : 1 ≤ k) : (if (fitN k v).2 = 0 then ((65533, 1) : Nat × Nat) else fitN k v) = if v ≥ leastN k ∧ (v < 55296 ∨ (57344 ≤ v ∧ v ≤ 1114111)) then (v, k) else (65533, 1) := by
  unfold fitN
  by_cases h : v < leastN k ∨ 1114111 < v ∨ (55296 ≤ v ∧ v < 57344)
  · rw [if_pos h, if_pos rfl, if_neg (by omega)]
  · rw [if_neg h, if_pos (show v ≥ leastN k ∧ _ by omega), if_neg (show ¬ k = 0 by omega)]
theorem cont_eq (b : Nat) (h : b < 256) : contN b = decide (b / 64 = 2) := by
  unfold contN
  by_cases k : b / 64 = 2
  · rw [decide_eq_true k, decide_eq_true (by omega)]
  · rw [decide_eq_false k, decide_eq_false (by omega)]
theorem decode_rune1 (n b0 b1 b2 b3 : Nat) (hn : 1 ≤ n) (h0 : b0 < 256) (h1 : b1 < 256) (h2 : b2 < 256) (h3 : b3 < 256) :
    Lib.decodeN n b0 b1 b2 b3 = if (rune1N n b0 b1 b2 b3).2 = 0 then (65533, 1) else rune1N n b0 b1 b2 b3 := by
  have hc : b0 < 128 ∨ (128 ≤ b0 ∧ b0 < 194) ∨ (194 ≤ b0 ∧ b0 < 224) ∨ (224 ≤ b0 ∧ b0 < 240) ∨ (240 ≤ b0 ∧ b0 < 245) ∨ 245 ≤ b0 := by omega
  rcases hc with hc | hc | hc | hc | hc | hc
  · have hs : sizeN b0 = 1 := by unfold sizeN; rw [if_pos hc]
    unfold Lib.decodeN rune1N
    rw [hs, if_pos hc, if_neg (show ¬ ((1 : Nat) = 0 ∨ n < 1) by omega), if_pos rfl]
    simp
  · have hs : sizeN b0 = 0 := by unfold sizeN; rw [if_neg (by omega), if_neg (by omega), if_neg (by omega), if_neg (by omega)]
    unfold Lib.decodeN rune1N
    rw [hs]
    simp only [true_or, if_true]
    repeat' split
    all_goals first
      | rfl
      | (exfalso; omega)
  · have hs : sizeN b0 = 2 := by unfold sizeN; rw [if_neg (by omega), if_pos hc]
    have hd : b0 / 32 = 6 := by omega
    unfold Lib.decodeN rune1N
    rw [hs, if_neg (show ¬ b0 < 128 by omega), cont_eq b1 h1]
    by_cases h : 1 < n ∧ b1 / 64 = 2
    · rw [if_pos ⟨hd, h⟩, if_neg (show ¬ ((2 : Nat) = 0 ∨ n < 2) by omega), if_neg (show ¬ (2 : Nat) = 1 by omega), if_pos rfl, if_pos (decide_eq_true h.2), fitN_eq 2 _ (by omega)]
      have hv : b0 % 32 * 64 + b1 % 64 < 2048 := by omega
      generalize b0 % 32 * 64 + b1 % 64 = v at *
      by_cases h5 : v ≥ 128
      · rw [if_pos h5, if_pos ⟨h5, .inl (by omega)⟩]
      · rw [if_neg h5, if_neg (fun h6 => h5 h6.1)]
    · rw [if_neg (fun h' => h h'.2), if_neg (show ¬ (b0 / 16 = 14 ∧ _) from fun h' => by omega), if_neg (show ¬ (b0 / 8 = 30 ∧ _) from fun h' => by omega)]
      by_cases hn2 : n < 2
      · rw [if_pos (show (2 : Nat) = 0 ∨ n < 2 from .inr hn2)]; rfl
      · rw [if_neg (show ¬ ((2 : Nat) = 0 ∨ n < 2) by omega), if_neg (show ¬ (2 : Nat) = 1 by omega), if_pos rfl, if_neg (show ¬ decide (b1 / 64 = 2) = true by simp; omega)]; rfl
  · have hs : sizeN b0 = 3 := by unfold sizeN; rw [if_neg (by omega), if_neg (by omega), if_pos hc]
    have hd : b0 / 16 = 14 := by omega
    unfold Lib.decodeN rune1N
    rw [hs, if_neg (show ¬ b0 < 128 by omega), cont_eq b1 h1, cont_eq b2 h2, if_neg (show ¬ (b0 / 32 = 6 ∧ _) from fun h' => by omega)]
    have e : (b0 % 16 * 64 + b1 % 64) * 64 + b2 % 64 = b0 % 16 * 4096 + b1 % 64 * 64 + b2 % 64 := by omega
    obtain ⟨v, hv⟩ : ∃ v, b0 % 16 * 4096 + b1 % 64 * 64 + b2 % 64 = v := ⟨_, rfl⟩
    have e2 := e.trans hv
    rw [e2, hv]
    clear hv e e2
    by_cases h : (1 < n ∧ b1 / 64 = 2) ∧ (2 < n ∧ b2 / 64 = 2)
    · rw [if_pos ⟨hd, h⟩, if_neg (show ¬ ((3 : Nat) = 0 ∨ n < 3) by omega), if_neg (show ¬ (3 : Nat) = 1 by omega), if_neg (show ¬ (3 : Nat) = 2 by omega), if_pos rfl, if_pos (show (decide (b1 / 64 = 2) && decide (b2 / 64 = 2)) = true by simp; omega), fitN_eq 3 _ (by omega)]
      rfl
    · rw [if_neg (fun h' => h h'.2), if_neg (show ¬ (b0 / 8 = 30 ∧ _) from fun h' => by omega)]
      by_cases hn2 : n < 3
      · rw [if_pos (show (3 : Nat) = 0 ∨ n < 3 from .inr hn2)]; rfl
      · rw [if_neg (show ¬ ((3 : Nat) = 0 ∨ n < 3) by omega), if_neg (show ¬ (3 : Nat) = 1 by omega), if_neg (show ¬ (3 : Nat) = 2 by omega), if_pos rfl, if_neg (show ¬ (decide (b1 / 64 = 2) && decide (b2 / 64 = 2)) = true by simp; omega)]; rfl
  · have hs : sizeN b0 = 4 := by unfold sizeN; rw [if_neg (by omega), if_neg (by omega), if_neg (by omega), if_pos hc]
    unfold Lib.decodeN rune1N
    rw [hs, if_neg (show ¬ b0 < 128 by omega), cont_eq b1 h1, cont_eq b2 h2, cont_eq b3 h3, if_neg (show ¬ (b0 / 32 = 6 ∧ _) from fun h' => by omega), if_neg (show ¬ (b0 / 16 = 14 ∧ _) from fun h' => by omega)]
    have e : ((b0 % 8 * 64 + b1 % 64) * 64 + b2 % 64) * 64 + b3 % 64 = b0 % 8 * 262144 + b1 % 64 * 4096 + b2 % 64 * 64 + b3 % 64 := by omega
    have hd : b0 / 8 = 30 := by omega
    obtain ⟨v, hv⟩ : ∃ v, b0 % 8 * 262144 + b1 % 64 * 4096 + b2 % 64 * 64 + b3 % 64 = v := ⟨_, rfl⟩
    have e2 := e.trans hv
    rw [e2, hv]
    clear hv e e2
    by_cases h : (1 < n ∧ b1 / 64 = 2) ∧ (2 < n ∧ b2 / 64 = 2) ∧ (3 < n ∧ b3 / 64 = 2)
    · rw [if_pos ⟨hd, h⟩, if_neg (show ¬ ((4 : Nat) = 0 ∨ n < 4) by omega), if_neg (show ¬ (4 : Nat) = 1 by omega), if_neg (show ¬ (4 : Nat) = 2 by omega), if_neg (show ¬ (4 : Nat) = 3 by omega), if_pos (show (decide (b1 / 64 = 2) && decide (b2 / 64 = 2) && decide (b3 / 64 = 2)) = true by simp; omega), fitN_eq 4 _ (by omega)]
      rfl
    · rw [if_neg (fun h' => h h'.2)]
      by_cases hn2 : n < 4
      · rw [if_pos (show (4 : Nat) = 0 ∨ n < 4 from .inr hn2)]; rfl
      · rw [if_neg (show ¬ ((4 : Nat) = 0 ∨ n < 4) by omega), if_neg (show ¬ (4 : Nat) = 1 by omega), if_neg (show ¬ (4 : Nat) = 2 by omega), if_neg (show ¬ (4 : Nat) = 3 by omega), if_neg (show ¬ (decide (b1 / 64 = 2) && decide (b2 / 64 = 2) && decide (b3 / 64 = 2)) = true by simp; omega)]; rfl
  · have hs : sizeN b0 = 0 := by unfold sizeN; rw [if_neg (by omega), if_neg (by omega), if_neg (by omega), if_neg (by omega)]
    unfold Lib.decodeN rune1N
    rw [hs]
    simp only [true_or, if_true]
    repeat' split
    all_goals first
      | rfl
      | (exfalso; omega)
end Go.Proofs.YtafomdobfmmleaaGreatDoor
