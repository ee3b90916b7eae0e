/- Lemmas and contracts, part 8. -/
import Derived.Test.YtbbcepmhkocgbaaGreatDoorZb7
import Derived.Lib.ItoaNum
/- Lines of a script in plain Lean: words, numerals, bytes as words; a line tells its act. No program here. -/
namespace Go.Proofs.YtbbcepmhkocgbaaGreatDoor
open Go.RowKit
set_option linter.unusedVariables false

/-- words with blanks between -/
def joinF : List (List UInt8) → List UInt8
  | [] => []
  | [x] => x
  | x :: y :: r => x ++ 32 :: joinF (y :: r)
/-- what stands between blanks -/
def splitF : List UInt8 → List (List UInt8)
  | [] => [[]]
  | c :: r => if c = 32 then [] :: splitF r else match splitF r with | [] => [[c]] | w :: ws => (c :: w) :: ws
def noBlank (x : List UInt8) : Prop := ∀ c ∈ x, c ≠ 32
theorem split_word : ∀ (x : List UInt8), noBlank x → splitF x = [x]
  | [], _ => rfl
  | c :: r, h => by
    have hc : c ≠ 32 := h c (by simp)
    have ih := split_word r (fun d hd => h d (by simp [hd]))
    unfold splitF
    rw [if_neg hc, ih]
theorem split_app : ∀ (x r : List UInt8), noBlank x → splitF (x ++ 32 :: r) = x :: splitF r
  | [], r, _ => by simp [splitF]
  | c :: x, r, h => by
    have hc : c ≠ 32 := h c (by simp)
    have ih := split_app x r (fun d hd => h d (by simp [hd]))
    rw [List.cons_append, show splitF (c :: (x ++ 32 :: r)) = if c = 32 then [] :: splitF (x ++ 32 :: r) else (match splitF (x ++ 32 :: r) with | [] => [[c]] | w :: ws => (c :: w) :: ws) from rfl, if_neg hc, ih]
theorem split_join : ∀ (l : List (List UInt8)), l ≠ [] → (∀ x ∈ l, noBlank x) → splitF (joinF l) = l
  | [], h, _ => absurd rfl h
  | [x], _, h => split_word x (h x (by simp))
  | x :: y :: r, _, h => by
    have ih := split_join (y :: r) (by simp) (fun z hz => h z (by simp [hz]))
    unfold joinF
    rw [split_app _ _ (h x (by simp)), ih]
theorem join_inj {l k : List (List UInt8)} (hl : l ≠ []) (hk : k ≠ []) (h1 : ∀ x ∈ l, noBlank x) (h2 : ∀ x ∈ k, noBlank x) (e : joinF l = joinF k) : l = k := by
  rw [← split_join l hl h1, ← split_join k hk h2, e]
/-! bytes as words -/
def hexD (n : Nat) : UInt8 := if n < 10 then UInt8.ofNat (48 + n) else UInt8.ofNat (87 + n)
def hexF (b : List UInt8) : List UInt8 := 120 :: b.flatMap fun c => [hexD (c.toNat / 16), hexD (c.toNat % 16)]
theorem hexD_toNat {n : Nat} (h : n < 16) : (hexD n).toNat = if n < 10 then 48 + n else 87 + n := by
  unfold hexD; split <;> rw [UInt8.toNat_ofNat'] <;> omega
theorem hexD_inj {n m : Nat} (h : n < 16) (k : m < 16) (e : hexD n = hexD m) : n = m := by
  have := congrArg UInt8.toNat e
  rw [hexD_toNat h, hexD_toNat k] at this
  split at this <;> split at this <;> omega
theorem hexL_inj : ∀ (a b : List UInt8), (a.flatMap fun c => [hexD (c.toNat / 16), hexD (c.toNat % 16)]) = (b.flatMap fun c => [hexD (c.toNat / 16), hexD (c.toNat % 16)]) → a = b
  | [], [], _ => rfl
  | [], _ :: _, h => by simp at h
  | _ :: _, [], h => by simp at h
  | x :: a, y :: b, h => by
    simp only [List.flatMap_cons, List.cons_append, List.nil_append, List.cons.injEq] at h
    have hx := x.toNat_lt
    have hy := y.toNat_lt
    have h1 := hexD_inj (by omega) (by omega) h.1
    have h2 := hexD_inj (by omega) (by omega) h.2.1
    have h3 : x.toNat = y.toNat := by omega
    rw [UInt8.toNat_inj.1 h3, hexL_inj a b h.2.2]
theorem hexF_inj {a b : List UInt8} (h : hexF a = hexF b) : a = b := by
  unfold hexF at h
  exact hexL_inj a b (by simpa using h)
theorem u8ne {c : UInt8} (h : c.toNat ≠ 32) : c ≠ 32 := fun e => h (by rw [e]; rfl)
theorem hexF_word (b : List UInt8) : noBlank (hexF b) := by
  intro c hc
  unfold hexF at hc
  simp only [List.mem_cons, List.mem_flatMap, List.not_mem_nil, or_false] at hc
  rcases hc with rfl | ⟨x, _, h⟩
  · decide
  · have hx := x.toNat_lt
    apply u8ne
    rcases h with rfl | rfl
    · rw [hexD_toNat (by omega)]; split <;> omega
    · rw [hexD_toNat (by omega)]; split <;> omega
/-! numerals -/
def decVal (l : List UInt8) : Nat := l.foldl (fun n c => n * 10 + (c.toNat - 48)) 0
theorem decVal_snoc (l : List UInt8) (c : UInt8) : decVal (l ++ [c]) = decVal l * 10 + (c.toNat - 48) := by unfold decVal; rw [List.foldl_append]; rfl
theorem decVal_digits (u : Nat) : decVal (Lib.decDigits u) = u := by
  induction u using Nat.strongRecOn with
  | _ u ih =>
    by_cases h : u < 10
    · rw [Lib.decDigits, dif_pos h]
      show 0 * 10 + ((UInt8.ofNat (48 + u)).toNat - 48) = u
      rw [UInt8.toNat_ofNat']; omega
    · rw [Lib.decDigits, dif_neg h, decVal_snoc, ih (u / 10) (by omega), UInt8.toNat_ofNat']
      omega
theorem digits_range (u : Nat) : ∀ c ∈ Lib.decDigits u, 48 ≤ c.toNat ∧ c.toNat ≤ 57 := by
  induction u using Nat.strongRecOn with
  | _ u ih =>
    intro c hc
    by_cases h : u < 10
    · rw [Lib.decDigits, dif_pos h] at hc
      simp only [List.mem_singleton] at hc
      rw [hc, UInt8.toNat_ofNat']; omega
    · rw [Lib.decDigits, dif_neg h, List.mem_append, List.mem_singleton] at hc
      rcases hc with hc | hc
      · exact ih (u / 10) (by omega) c hc
      · rw [hc, UInt8.toNat_ofNat']; omega
theorem itoa_inj {a b : Int} (h : Lib.itoa a = Lib.itoa b) : a = b := by
  unfold Lib.itoa at h
  have hne : ∀ u v : Nat, (45 : UInt8) :: Lib.decDigits u ≠ Lib.decDigits v := fun u v e => by
    have := digits_range v 45 (by rw [← e]; simp)
    simp at this
  split at h <;> split at h
  · simp only [List.cons.injEq, true_and] at h
    have := congrArg decVal h
    rw [decVal_digits, decVal_digits] at this
    omega
  · exact absurd h (hne _ _)
  · exact absurd h.symm (hne _ _)
  · have := congrArg decVal h
    rw [decVal_digits, decVal_digits] at this
    omega
theorem itoa_word (n : Int) : noBlank (Lib.itoa n) := by
  intro c hc
  unfold Lib.itoa at hc
  split at hc
  · rcases List.mem_cons.1 hc with rfl | hc
    · decide
    · have := digits_range _ c hc; exact u8ne (by omega)
  · have := digits_range _ c hc; exact u8ne (by omega)
end Go.Proofs.YtbbcepmhkocgbaaGreatDoor

/- An act's line in plain Lean: a line tells its act. No program here. -/
namespace Go.Proofs.YtbbcepmhkocgbaaGreatDoor
open Go.RowKit
set_option linter.unusedVariables false

theorem MsgD.ext' {a b : MsgD} (h1 : a.kind = b.kind) (h2 : a.src = b.src) (h3 : a.view = b.view) (h4 : a.seq = b.seq) (h5 : a.digest = b.digest) (h6 : a.client = b.client) (h7 : a.time = b.time) (h8 : a.result = b.result) (h9 : a.batch = b.batch) (h10 : a.cert = b.cert) (h11 : a.changes = b.changes) (h12 : a.entries = b.entries) (h13 : a.state = b.state) (h14 : a.topic = b.topic) (h15 : a.offset = b.offset) (h16 : a.proof = b.proof) (h17 : a.sign = b.sign) : a = b := by
  cases a; cases b; simp_all
/-- a signature that may be -/
def someS : SignD := ⟨0, 1⟩
/-- a message with a signature of its own that may be -/
def withS (m : MsgD) : MsgD :=
  if m.kind = 7 ∧ m.changes.length = 1 then { m with changes := m.changes.map fun c => { c with sign := someS } }
  else if signedK m.kind then { m with sign := someS } else m
/-- a message's bytes, its signature too -/
def fullB (m : MsgD) : List UInt8 := unsB m ++ (if m.kind = 7 then (match m.changes with | c :: _ => signP c.sign | [] => []) else if signedK m.kind then signP m.sign else [])
/-- what is wrong with a message -/
noncomputable def checkE (m : MsgD) : Int := open Classical in if msgE m = 0 ∧ ¬ m = bareF m then 100 else msgE m
/-- may a message be sent unsigned? -/
def unsOk (m : MsgD) : Prop := checkE (withS m) = 0 ∧ (fullB (withS m)).length ≤ 262144
def ownS (m : MsgD) : SignD := if m.kind = 7 then (match m.changes with | [c] => c.sign | _ => m.sign) else m.sign
/-- has a script's message such words? -/
def freeK (k : Int) : Bool := decide (k = 1) || decide (k = 10) || decide (k = 11) || decide (k = 12)
def wordsOk (m : MsgD) : Prop := unsOk m ∧ 0 ≤ (ownS m).key ∧ 0 ≤ (ownS m).digest ∧ (freeK m.kind = true → ownS m = zSign) ∧ (m.kind = 7 → m.sign = zSign)
def signW (s : SignD) : List UInt8 := hexF (enc s.key.toNat ++ enc s.digest.toNat)
def msgW (m : MsgD) : List (List UInt8) := [hexF (unsB m), signW (ownS m)]
theorem withS_kind (m : MsgD) : (withS m).kind = m.kind := by
  unfold withS
  split
  · rfl
  · split <;> rfl
theorem unsB_withS (m : MsgD) : unsB (withS m) = unsB m := by
  unfold withS
  split
  · rename_i h
    obtain ⟨c, hc⟩ : ∃ c, m.changes = [c] := by
      cases hx : m.changes with
      | nil => rw [hx] at h; simp at h
      | cons c r => cases r with
        | nil => exact ⟨c, rfl⟩
        | cons _ _ => rw [hx] at h; simp at h
    unfold unsB tailB
    simp only [h.1, hc, List.map_cons, List.map_nil]
    rfl
  · split <;> rfl
theorem checkE_ok {m : MsgD} (h : checkE m = 0) : msgE m = 0 ∧ m = bareF m := by
  unfold checkE at h
  split at h
  · cases h
  · rename_i hn
    refine ⟨h, Classical.byContradiction fun e => hn ⟨h, e⟩⟩
theorem signedK_of {k : Int} (h : 1 ≤ k ∧ k ≤ 12) : signedK k = !(freeK k || decide (k = 7)) := by
  have : k = 1 ∨ k = 2 ∨ k = 3 ∨ k = 4 ∨ k = 5 ∨ k = 6 ∨ k = 7 ∨ k = 8 ∨ k = 9 ∨ k = 10 ∨ k = 11 ∨ k = 12 := by omega
  rcases this with rfl | rfl | rfl | rfl | rfl | rfl | rfl | rfl | rfl | rfl | rfl | rfl <;> rfl
theorem withS_sized {m : MsgD} (h : mSized m) : mSized (withS m) := by
  unfold withS
  split
  · refine ⟨h.batch, fun c hc => ?_, h.entries, h.state, h.topic, h.ptopic, h.precord⟩
    simp only [List.mem_map] at hc
    obtain ⟨d, hd, rfl⟩ := hc
    exact h.changes d hd
  · split
    · exact ⟨h.batch, h.changes, h.entries, h.state, h.topic, h.ptopic, h.precord⟩
    · exact h
theorem one_of {α : Type} {l : List α} (h : l.length = 1) : ∃ c, l = [c] := by
  cases l with
  | nil => simp at h
  | cons c r => cases r with
    | nil => exact ⟨c, rfl⟩
    | cons _ _ => simp at h
theorem signW_inj {s t : SignD} (hs : 0 ≤ s.key ∧ s.key < 9223372036854775808 ∧ 0 ≤ s.digest ∧ s.digest < 9223372036854775808) (ht : 0 ≤ t.key ∧ t.key < 9223372036854775808 ∧ 0 ≤ t.digest ∧ t.digest < 9223372036854775808) (h : signW s = signW t) : s = t := by
  have h1 := hexF_inj h
  have h2 : signB s ++ [] = signB t ++ [] := by unfold signB; rw [h1]
  exact (signB_pi s t [] [] hs ht h2).1
def signI (s : SignD) : Prop := s.key < 9223372036854775808 ∧ s.digest < 9223372036854775808
set_option maxRecDepth 4000 in
theorem msgW_inj {a b : MsgD} (ha : wordsOk a) (sa : mSized a) (ia : signI (ownS a)) (hb : wordsOk b) (sb : mSized b) (ib : signI (ownS b)) (h : msgW a = msgW b) : a = b := by
  obtain ⟨⟨a1, _⟩, a2, a3, a4, a5⟩ := ha
  obtain ⟨⟨b1, _⟩, b2, b3, b4, b5⟩ := hb
  unfold msgW at h
  simp only [List.cons.injEq, and_true] at h
  have hu := hexF_inj h.1
  have hs := signW_inj ⟨a2, ia.1, a3, ia.2⟩ ⟨b2, ib.1, b3, ib.2⟩ h.2
  obtain ⟨ma, ca⟩ := checkE_ok a1
  obtain ⟨mb, cb⟩ := checkE_ok b1
  unfold msgE at ma mb
  rw [orE_zero] at ma mb
  rw [← unsB_withS a, ← unsB_withS b] at hu
  have ra := kind_range ma.1
  have z : ∀ m : MsgD, (m.kind = 7 → m.sign = zSign) → m.kind = 7 → (withS m).sign = zSign := fun m hm hk => by
    unfold withS
    split
    · exact hm hk
    · split
      · rename_i h2; rw [hk] at h2; cases h2
      · exact hm hk
  obtain ⟨⟨hk, hal⟩, _⟩ := unsB_pi _ _ ma.1 (withS_sized sa) mb.1 (withS_sized sb) (fun hk => z a a5 (by rw [← withS_kind]; exact hk)) (fun hk => z b b5 (by rw [← withS_kind]; exact hk)) (r := []) (s := []) (by rw [hu])
  rw [withS_kind] at ra
  rw [withS_kind, withS_kind] at hk
  unfold alike at hal
  rw [withS_kind] at hal
  by_cases h7 : a.kind = 7
  · have h7b : b.kind = 7 := by rw [← hk]; exact h7
    rw [if_pos h7, ← ca, ← cb] at hal
    obtain ⟨c, d, hc, hd, e1, e2, e3, e4, e5⟩ := hal
    have la : a.changes.length = 1 := by
      have := congrArg List.length hc
      unfold withS at this
      split at this
      · rename_i hx; exact hx.2
      · split at this <;> simpa using this
    have lb : b.changes.length = 1 := by
      have := congrArg List.length hd
      unfold withS at this
      split at this
      · rename_i hx; exact hx.2
      · split at this <;> simpa using this
    obtain ⟨x, hx⟩ := one_of la
    obtain ⟨y, hy⟩ := one_of lb
    have wa : withS a = { a with changes := [{ x with sign := someS }] } := by unfold withS; rw [if_pos ⟨h7, la⟩, hx]; rfl
    have wb : withS b = { b with changes := [{ y with sign := someS }] } := by unfold withS; rw [if_pos ⟨h7b, lb⟩, hy]; rfl
    have os : x.sign = y.sign := by
      unfold ownS at hs
      rw [if_pos h7, if_pos h7b, hx, hy] at hs
      exact hs
    rw [wa] at hc
    rw [wb] at hd
    simp only [List.cons.injEq, and_true] at hc hd
    subst hc hd
    simp only at e1 e2 e3 e4
    have hxy : x = y := ChangeD.ext' e1 e2 e3 e4 os
    rw [wa, wb] at e5
    injection e5 with f1 f2 f3 f4 f5 f6 f7 f8 f9 f10 f11 f12 f13 f14 f15 f16 f17
    exact MsgD.ext' f1 f2 f3 f4 f5 f6 f7 f8 f9 f10 (by rw [hx, hy, hxy]) f12 f13 f14 f15 f16 f17
  · have h7b : ¬ b.kind = 7 := by rw [← hk]; exact h7
    rw [if_neg h7, ← ca, ← cb] at hal
    have os : a.sign = b.sign := by
      unfold ownS at hs
      rw [if_neg h7, if_neg h7b] at hs
      exact hs
    have wa : withS a = if signedK a.kind then { a with sign := someS } else a := by unfold withS; rw [if_neg (fun h => h7 h.1)]
    have wb : withS b = if signedK b.kind then { b with sign := someS } else b := by unfold withS; rw [if_neg (fun h => h7b h.1)]
    rw [wa, wb, ← hk] at hal
    split at hal
    all_goals
      injection hal with f1 f2 f3 f4 f5 f6 f7 f8 f9 f10 f11 f12 f13 f14 f15 f16 f17
      exact MsgD.ext' hk f2 f3 f4 f5 f6 f7 f8 f9 f10 f11 f12 f13 f14 f15 f16 os
/-! acts -/
def s2b (s : String) : List UInt8 := s.toUTF8.data.toList
def wDeliver : List UInt8 := [100, 101, 108, 105, 118, 101, 114]
def wDrop : List UInt8 := [100, 114, 111, 112]
def wDouble : List UInt8 := [100, 111, 117, 98, 108, 101]
def wTick : List UInt8 := [116, 105, 99, 107]
def wClock : List UInt8 := [99, 108, 111, 99, 107]
def wAsk : List UInt8 := [97, 115, 107]
def wRead : List UInt8 := [114, 101, 97, 100]
def wCrash : List UInt8 := [99, 114, 97, 115, 104]
def wStart : List UInt8 := [115, 116, 97, 114, 116]
def wHash : List UInt8 := [104, 97, 115, 104]
def wSend : List UInt8 := [115, 101, 110, 100]
def wSeal : List UInt8 := [115, 101, 97, 108]
def wRound : List UInt8 := [114, 111, 117, 110, 100]
def zAct : ActD := ⟨0, 0, 0, zOp, [], zMsg, false⟩
/-- an act with the fields of its kind alone -/
def keepF (a : ActD) : ActD :=
  if a.kind = 1 ∨ a.kind = 2 ∨ a.kind = 3 then { zAct with kind := a.kind, num := a.num }
  else if a.kind = 4 ∨ a.kind = 5 ∨ a.kind = 7 ∨ a.kind = 9 then { zAct with kind := a.kind, who := a.who }
  else if a.kind = 6 then { zAct with kind := a.kind, who := a.who, op := a.op }
  else if a.kind = 8 then { zAct with kind := a.kind, who := a.who, num := a.num }
  else if a.kind = 10 then { zAct with kind := a.kind, bytes := a.bytes }
  else if a.kind = 11 then { zAct with kind := a.kind, who := a.who, msg := a.msg, sealed := a.sealed }
  else if a.kind = 12 then { zAct with kind := a.kind }
  else zAct
/-- the word of a kind -/
def kwN (n : Nat) (s : Bool) : List UInt8 :=
  match n with
  | 1 => wDeliver
  | 2 => wDrop
  | 3 => wDouble
  | 4 => wTick
  | 5 => wClock
  | 6 => wAsk
  | 7 => wRead
  | 8 => wCrash
  | 9 => wStart
  | 10 => wHash
  | 11 => if s then wSeal else wSend
  | _ => wRound
/-- what stands behind it -/
def argW (a : ActD) : List (List UInt8) :=
  if a.kind = 1 ∨ a.kind = 2 ∨ a.kind = 3 then [Lib.itoa a.num]
  else if a.kind = 4 ∨ a.kind = 5 ∨ a.kind = 7 ∨ a.kind = 9 then [Lib.itoa a.who]
  else if a.kind = 6 then [Lib.itoa a.who, hexF (opB a.op)]
  else if a.kind = 8 then [Lib.itoa a.who, Lib.itoa a.num]
  else if a.kind = 10 then [hexF a.bytes]
  else if a.kind = 11 then Lib.itoa a.who :: msgW a.msg
  else []
/-- its line's words -/
def keepW (a : ActD) : List (List UInt8) := kwN a.kind.toNat a.sealed :: argW a
theorem kw_inj : ∀ (i j : Fin 12) (s t : Bool), kwN (i.val + 1) s = kwN (j.val + 1) t → i = j ∧ (i.val = 10 → s = t) := by decide +kernel
theorem kw_word : ∀ (i : Fin 12) (s : Bool), (kwN (i.val + 1) s).all (fun c => c != 32) = true := by decide +kernel
theorem kw_eq {i j : Int} {s t : Bool} (hi : 1 ≤ i ∧ i ≤ 12) (hj : 1 ≤ j ∧ j ≤ 12) (h : kwN i.toNat s = kwN j.toNat t) : i = j ∧ (i = 11 → s = t) := by
  have := kw_inj ⟨i.toNat - 1, by omega⟩ ⟨j.toNat - 1, by omega⟩ s t (by simp only; rw [show i.toNat - 1 + 1 = i.toNat by omega, show j.toNat - 1 + 1 = j.toNat by omega]; exact h)
  obtain ⟨h1, h2⟩ := this
  simp only [Fin.mk.injEq] at h1
  refine ⟨by omega, fun e => h2 (by simp only; omega)⟩
def keepOk (a : ActD) : Prop := (1 ≤ a.kind ∧ a.kind ≤ 12) ∧ (a.kind = 6 → opE a.op = 0) ∧ (a.kind = 11 → wordsOk a.msg)
/-- has an act a line? -/
def lineOk (a : ActD) : Prop := keepOk a ∧ a = keepF a
def lineF (a : ActD) : List UInt8 := joinF (keepW a)
theorem keepW_word (a : ActD) (h : 1 ≤ a.kind ∧ a.kind ≤ 12) : ∀ x ∈ keepW a, noBlank x := by
  intro x hx
  unfold keepW at hx
  rcases List.mem_cons.1 hx with rfl | hx
  · intro c hc
    have := kw_word ⟨a.kind.toNat - 1, by omega⟩ a.sealed
    simp only at this
    rw [show a.kind.toNat - 1 + 1 = a.kind.toNat by omega] at this
    have := List.all_eq_true.1 this c hc
    simpa using this
  · unfold argW msgW signW at hx
    repeat' split at hx
    all_goals
      simp only [List.mem_cons, List.not_mem_nil, or_false] at hx
    all_goals first
      | (rw [hx]; exact itoa_word _)
      | (rw [hx]; exact hexF_word _)
      | (rcases hx with rfl | rfl | rfl <;> first | exact itoa_word _ | exact hexF_word _)
      | (rcases hx with rfl | rfl <;> first | exact itoa_word _ | exact hexF_word _)
theorem ActD.ext' {a b : ActD} (h1 : a.kind = b.kind) (h2 : a.who = b.who) (h3 : a.num = b.num) (h4 : a.op = b.op) (h5 : a.bytes = b.bytes) (h6 : a.msg = b.msg) (h7 : a.sealed = b.sealed) : a = b := by
  cases a; cases b; simp_all
structure aSized (a : ActD) : Prop where
  op : opSized a.op
  msg : mSized a.msg
  own : signI (ownS a.msg)
set_option maxRecDepth 4000 in
theorem lineF_inj {a b : ActD} (ha : lineOk a) (sa : aSized a) (hb : lineOk b) (sb : aSized b) (h : lineF a = lineF b) : a = b := by
  obtain ⟨⟨ra, oa, ma⟩, ka⟩ := ha
  obtain ⟨⟨rb, ob, mb⟩, kb⟩ := hb
  have hw : keepW a = keepW b := join_inj (by simp [keepW]) (by simp [keepW]) (keepW_word a ra) (keepW_word b rb) h
  unfold keepW at hw
  simp only [List.cons.injEq] at hw
  obtain ⟨hk, hs⟩ := kw_eq ra rb hw.1
  have hw := hw.2
  rw [ka, kb]
  unfold argW at hw
  unfold keepF
  rw [← hk] at hw mb ob ⊢
  obtain ⟨i, hi⟩ : ∃ i, a.kind = i := ⟨_, rfl⟩
  rw [hi] at ra oa ma ob mb hs hw ⊢
  have hii : i = 1 ∨ i = 2 ∨ i = 3 ∨ i = 4 ∨ i = 5 ∨ i = 6 ∨ i = 7 ∨ i = 8 ∨ i = 9 ∨ i = 10 ∨ i = 11 ∨ i = 12 := by omega
  rcases hii with rfl | rfl | rfl | rfl | rfl | rfl | rfl | rfl | rfl | rfl | rfl | rfl
  · simp at hw ⊢; exact itoa_inj hw
  · simp at hw ⊢; exact itoa_inj hw
  · simp at hw ⊢; exact itoa_inj hw
  · simp at hw ⊢; exact itoa_inj hw
  · simp at hw ⊢; exact itoa_inj hw
  · simp at hw ⊢
    have h1 := hexF_inj hw.2
    exact ⟨itoa_inj hw.1, (opB_pi a.op b.op [] [] ⟨oa rfl, sa.op⟩ ⟨ob rfl, sb.op⟩ (by rw [h1])).1⟩
  · simp at hw ⊢; exact itoa_inj hw
  · simp at hw ⊢; exact ⟨itoa_inj hw.1, itoa_inj hw.2⟩
  · simp at hw ⊢; exact itoa_inj hw
  · simp at hw ⊢; exact hexF_inj hw
  · simp at hw ⊢
    exact ⟨itoa_inj hw.1, msgW_inj (ma rfl) sa.msg sa.own (mb rfl) sb.msg sb.own hw.2, hs rfl⟩
  · simp
end Go.Proofs.YtbbcepmhkocgbaaGreatDoor
