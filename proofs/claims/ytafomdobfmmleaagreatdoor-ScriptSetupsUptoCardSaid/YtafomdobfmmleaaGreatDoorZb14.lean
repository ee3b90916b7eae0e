/- Lemmas and contracts, part 14. -/
import Derived.Test.YtafomdobfmmleaaGreatDoorZb13
import Derived.Lib.ItoaNum
/- Lines of a script in plain Lean: words, numerals, bytes as words; a line tells its act. No program here. -/
namespace Go.Proofs.YtafomdobfmmleaaGreatDoor
open Go.RowKit
set_option linter.unusedVariables false

/-- words with blanks between -/
def joinF : List (List UInt8) → List UInt8
  | [] => []
  | [x] => x
  | x :: y :: r => x ++ 32 :: joinF (y :: r)
/-- what stands between blanks -/
def splitF : List UInt8 → List (List UInt8)
  | [] => [[]]
  | c :: r => if c = 32 then [] :: splitF r else match splitF r with | [] => [[c]] | w :: ws => (c :: w) :: ws
def noBlank (x : List UInt8) : Prop := ∀ c ∈ x, c ≠ 32
theorem split_word : ∀ (x : List UInt8), noBlank x → splitF x = [x]
  | [], _ => rfl
  | c :: r, h => by
    have hc : c ≠ 32 := h c (by simp)
    have ih := split_word r (fun d hd => h d (by simp [hd]))
    unfold splitF
    rw [if_neg hc, ih]
theorem split_app : ∀ (x r : List UInt8), noBlank x → splitF (x ++ 32 :: r) = x :: splitF r
  | [], r, _ => by simp [splitF]
  | c :: x, r, h => by
    have hc : c ≠ 32 := h c (by simp)
    have ih := split_app x r (fun d hd => h d (by simp [hd]))
    rw [List.cons_append, show splitF (c :: (x ++ 32 :: r)) = if c = 32 then [] :: splitF (x ++ 32 :: r) else (match splitF (x ++ 32 :: r) with | [] => [[c]] | w :: ws => (c :: w) :: ws) from rfl, if_neg hc, ih]
theorem split_join : ∀ (l : List (List UInt8)), l ≠ [] → (∀ x ∈ l, noBlank x) → splitF (joinF l) = l
  | [], h, _ => absurd rfl h
  | [x], _, h => split_word x (h x (by simp))
  | x :: y :: r, _, h => by
    have ih := split_join (y :: r) (by simp) (fun z hz => h z (by simp [hz]))
    unfold joinF
    rw [split_app _ _ (h x (by simp)), ih]
/-! bytes as words -/
def hexD (n : Nat) : UInt8 := if n < 10 then UInt8.ofNat (48 + n) else UInt8.ofNat (87 + n)
def hexF (b : List UInt8) : List UInt8 := 120 :: b.flatMap fun c => [hexD (c.toNat / 16), hexD (c.toNat % 16)]
theorem u8ne {c : UInt8} (h : c.toNat ≠ 32) : c ≠ 32 := fun e => h (by rw [e]; rfl)
/-! numerals -/
def decVal (l : List UInt8) : Nat := l.foldl (fun n c => n * 10 + (c.toNat - 48)) 0
theorem decVal_snoc (l : List UInt8) (c : UInt8) : decVal (l ++ [c]) = decVal l * 10 + (c.toNat - 48) := by unfold decVal; rw [List.foldl_append]; rfl
theorem decVal_digits (u : Nat) : decVal (Lib.decDigits u) = u := by
  induction u using Nat.strongRecOn with
  | _ u ih =>
    by_cases h : u < 10
    · rw [Lib.decDigits, dif_pos h]
      show 0 * 10 + ((UInt8.ofNat (48 + u)).toNat - 48) = u
      rw [UInt8.toNat_ofNat']; omega
    · rw [Lib.decDigits, dif_neg h, decVal_snoc, ih (u / 10) (by omega), UInt8.toNat_ofNat']
      omega
theorem digits_range (u : Nat) : ∀ c ∈ Lib.decDigits u, 48 ≤ c.toNat ∧ c.toNat ≤ 57 := by
  induction u using Nat.strongRecOn with
  | _ u ih =>
    intro c hc
    by_cases h : u < 10
    · rw [Lib.decDigits, dif_pos h] at hc
      simp only [List.mem_singleton] at hc
      rw [hc, UInt8.toNat_ofNat']; omega
    · rw [Lib.decDigits, dif_neg h, List.mem_append, List.mem_singleton] at hc
      rcases hc with hc | hc
      · exact ih (u / 10) (by omega) c hc
      · rw [hc, UInt8.toNat_ofNat']; omega
theorem itoa_word (n : Int) : noBlank (Lib.itoa n) := by
  intro c hc
  unfold Lib.itoa at hc
  split at hc
  · rcases List.mem_cons.1 hc with rfl | hc
    · decide
    · have := digits_range _ c hc; exact u8ne (by omega)
  · have := digits_range _ c hc; exact u8ne (by omega)
end Go.Proofs.YtafomdobfmmleaaGreatDoor

/- An act's line in plain Lean: a line tells its act. No program here. -/
namespace Go.Proofs.YtafomdobfmmleaaGreatDoor
open Go.RowKit
set_option linter.unusedVariables false

/-- a signature that may be -/
def someS : SignD := ⟨0, 1⟩
/-- a message with a signature of its own that may be -/
def withS (m : MsgD) : MsgD :=
  if m.kind = 7 ∧ m.changes.length = 1 then { m with changes := m.changes.map fun c => { c with sign := someS } }
  else if signedK m.kind then { m with sign := someS } else m
/-- a message's bytes, its signature too -/
def fullB (m : MsgD) : List UInt8 := unsB m ++ (if m.kind = 7 then (match m.changes with | c :: _ => signP c.sign | [] => []) else if signedK m.kind then signP m.sign else [])
/-- what is wrong with a message -/
noncomputable def checkE (m : MsgD) : Int := open Classical in if msgE m = 0 ∧ ¬ m = bareF m then 100 else msgE m
/-- may a message be sent unsigned? -/
def unsOk (m : MsgD) : Prop := checkE (withS m) = 0 ∧ (fullB (withS m)).length ≤ 262144
def ownS (m : MsgD) : SignD := if m.kind = 7 then (match m.changes with | [c] => c.sign | _ => m.sign) else m.sign
/-- has a script's message such words? -/
def freeK (k : Int) : Bool := decide (k = 1) || decide (k = 10) || decide (k = 11) || decide (k = 12)
def wordsOk (m : MsgD) : Prop := unsOk m ∧ 0 ≤ (ownS m).key ∧ 0 ≤ (ownS m).digest ∧ (freeK m.kind = true → ownS m = zSign) ∧ (m.kind = 7 → m.sign = zSign)
def signW (s : SignD) : List UInt8 := hexF (enc s.key.toNat ++ enc s.digest.toNat)
def msgW (m : MsgD) : List (List UInt8) := [hexF (unsB m), signW (ownS m)]
theorem unsB_withS (m : MsgD) : unsB (withS m) = unsB m := by
  unfold withS
  split
  · rename_i h
    obtain ⟨c, hc⟩ : ∃ c, m.changes = [c] := by
      cases hx : m.changes with
      | nil => rw [hx] at h; simp at h
      | cons c r => cases r with
        | nil => exact ⟨c, rfl⟩
        | cons _ _ => rw [hx] at h; simp at h
    unfold unsB tailB
    simp only [h.1, hc, List.map_cons, List.map_nil]
    rfl
  · split <;> rfl
theorem one_of {α : Type} {l : List α} (h : l.length = 1) : ∃ c, l = [c] := by
  cases l with
  | nil => simp at h
  | cons c r => cases r with
    | nil => exact ⟨c, rfl⟩
    | cons _ _ => simp at h
/-! acts -/
def wDeliver : List UInt8 := [100, 101, 108, 105, 118, 101, 114]
def wDrop : List UInt8 := [100, 114, 111, 112]
def wDouble : List UInt8 := [100, 111, 117, 98, 108, 101]
def wTick : List UInt8 := [116, 105, 99, 107]
def wClock : List UInt8 := [99, 108, 111, 99, 107]
def wAsk : List UInt8 := [97, 115, 107]
def wRead : List UInt8 := [114, 101, 97, 100]
def wCrash : List UInt8 := [99, 114, 97, 115, 104]
def wStart : List UInt8 := [115, 116, 97, 114, 116]
def wHash : List UInt8 := [104, 97, 115, 104]
def wSend : List UInt8 := [115, 101, 110, 100]
def wSeal : List UInt8 := [115, 101, 97, 108]
def wRound : List UInt8 := [114, 111, 117, 110, 100]
def zAct : ActD := ⟨0, 0, 0, zOp, [], zMsg, false⟩
/-- an act with the fields of its kind alone -/
def keepF (a : ActD) : ActD :=
  if a.kind = 1 ∨ a.kind = 2 ∨ a.kind = 3 then { zAct with kind := a.kind, num := a.num }
  else if a.kind = 4 ∨ a.kind = 5 ∨ a.kind = 7 ∨ a.kind = 9 then { zAct with kind := a.kind, who := a.who }
  else if a.kind = 6 then { zAct with kind := a.kind, who := a.who, op := a.op }
  else if a.kind = 8 then { zAct with kind := a.kind, who := a.who, num := a.num }
  else if a.kind = 10 then { zAct with kind := a.kind, bytes := a.bytes }
  else if a.kind = 11 then { zAct with kind := a.kind, who := a.who, msg := a.msg, sealed := a.sealed }
  else if a.kind = 12 then { zAct with kind := a.kind }
  else zAct
/-- the word of a kind -/
def kwN (n : Nat) (s : Bool) : List UInt8 :=
  match n with
  | 1 => wDeliver
  | 2 => wDrop
  | 3 => wDouble
  | 4 => wTick
  | 5 => wClock
  | 6 => wAsk
  | 7 => wRead
  | 8 => wCrash
  | 9 => wStart
  | 10 => wHash
  | 11 => if s then wSeal else wSend
  | _ => wRound
/-- what stands behind it -/
def argW (a : ActD) : List (List UInt8) :=
  if a.kind = 1 ∨ a.kind = 2 ∨ a.kind = 3 then [Lib.itoa a.num]
  else if a.kind = 4 ∨ a.kind = 5 ∨ a.kind = 7 ∨ a.kind = 9 then [Lib.itoa a.who]
  else if a.kind = 6 then [Lib.itoa a.who, hexF (opB a.op)]
  else if a.kind = 8 then [Lib.itoa a.who, Lib.itoa a.num]
  else if a.kind = 10 then [hexF a.bytes]
  else if a.kind = 11 then Lib.itoa a.who :: msgW a.msg
  else []
/-- its line's words -/
def keepW (a : ActD) : List (List UInt8) := kwN a.kind.toNat a.sealed :: argW a
def keepOk (a : ActD) : Prop := (1 ≤ a.kind ∧ a.kind ≤ 12) ∧ (a.kind = 6 → opE a.op = 0) ∧ (a.kind = 11 → wordsOk a.msg)
/-- has an act a line? -/
def lineOk (a : ActD) : Prop := keepOk a ∧ a = keepF a
def lineF (a : ActD) : List UInt8 := joinF (keepW a)
end Go.Proofs.YtafomdobfmmleaaGreatDoor
