/- WalDamage: for any records of bulk at most 1048576, behind a burst of at most 32 bits in the bytes and the sum of one record just the records ahead of it are there. Condition: the five listed package variables hold what their initialisers lay. -/
import Derived.Test.YtnpjfjgnhadmjaaGreatDoorZb4
import Derived.Deep.DrawnRows
import Derived.IntWalk
import Derived.Maps.Views
/- Bursts of at most 32 bits, in plain Lean: behind one no frame is whole. No program here. -/
namespace Go.Proofs.YtnpjfjgnhadmjaaGreatDoor
open Go.RowKit
set_option linter.unusedVariables false

theorem crcStep_xor (a b : BitVec 32) : crcStep (a ^^^ b) = crcStep a ^^^ crcStep b := by
  unfold crcStep
  rw [BitVec.getLsbD_xor, BitVec.ushiftRight_xor_distrib]
  cases a.getLsbD 0 <;> cases b.getLsbD 0 <;> simp
  · rw [BitVec.xor_assoc]
  · rw [BitVec.xor_assoc, BitVec.xor_assoc, BitVec.xor_comm crcP]
  · rw [BitVec.xor_assoc, ← BitVec.xor_assoc crcP, BitVec.xor_comm crcP, BitVec.xor_assoc, BitVec.xor_self, BitVec.xor_zero]
theorem crcIt_xor : ∀ (k : Nat) (a b : BitVec 32), crcIt k (a ^^^ b) = crcIt k a ^^^ crcIt k b
  | 0, _, _ => rfl
  | k + 1, a, b => by rw [crcIt, crcStep_xor, crcIt_xor k]; rfl
theorem crcStep_ne {d : BitVec 32} (h : d ≠ 0) : crcStep d ≠ 0 := by
  intro e
  apply h
  unfold crcStep at e
  split at e
  · have e2 : d >>> 1 = crcP := by
      have := congrArg (· ^^^ crcP) e
      simp only [BitVec.xor_assoc, BitVec.xor_self, BitVec.xor_zero] at this
      rw [this]; rfl
    have h1 : (d >>> 1).toNat = crcP.toNat := by rw [e2]
    rw [BitVec.toNat_ushiftRight, Nat.shiftRight_eq_div_pow] at h1
    have h2 := d.isLt
    have h3 : crcP.toNat = 3988292384 := rfl
    omega
  · rename_i h0
    rw [lsb_mod] at h0
    have h1 : (d >>> 1).toNat = 0 := by rw [e]; rfl
    rw [BitVec.toNat_ushiftRight, Nat.shiftRight_eq_div_pow] at h1
    apply BitVec.eq_of_toNat_eq
    show d.toNat = 0
    simp at h0
    omega
theorem crcIt_ne : ∀ (k : Nat) {d : BitVec 32}, d ≠ 0 → crcIt k d ≠ 0
  | 0, _, h => h
  | k + 1, _, h => by rw [crcIt]; exact crcIt_ne k (crcStep_ne h)
theorem crcIt_inj {k : Nat} {a b : BitVec 32} (h : crcIt k a = crcIt k b) : a = b := by
  rcases Classical.em (a = b) with e | e
  · exact e
  · have : a ^^^ b ≠ 0 := by
      intro h2
      apply e
      have := congrArg (· ^^^ b) h2
      simp only [BitVec.xor_assoc, BitVec.xor_self, BitVec.xor_zero] at this
      rw [this]; simp
    have h3 := crcIt_ne k this
    rw [crcIt_xor, h, BitVec.xor_self] at h3
    exact absurd rfl h3
theorem crcIt_add : ∀ (i k : Nat) (d : BitVec 32), crcIt (i + k) d = crcIt k (crcIt i d)
  | 0, k, d => by rw [Nat.zero_add]; rfl
  | i + 1, k, d => by rw [show i + 1 + k = (i + k) + 1 by omega, crcIt, crcIt_add i k]; rfl
theorem crcStep_shl {i : Nat} (h : i + 1 < 32) : crcStep (1#32 <<< (i + 1)) = 1#32 <<< i := by
  unfold crcStep
  rw [if_neg (by simp)]
  apply BitVec.eq_of_getLsbD_eq
  intro j hj
  simp only [BitVec.getLsbD_ushiftRight, BitVec.getLsbD_shiftLeft]
  rw [show (1 + j - (i + 1)) = j - i by omega]
  by_cases h1 : j < i
  · simp [h1, show 1 + j < i + 1 by omega]
  · have : ¬ 1 + j < i + 1 := by omega
    by_cases h2 : 1 + j < 32
    · simp [h1, this, h2, hj]
    · have hj31 : j = 31 := by omega
      subst hj31
      simp [h1, this]
      omega
theorem crcIt_shl : ∀ (i : Nat), i < 32 → crcIt i (1#32 <<< i) = 1#32
  | 0, _ => by simp [crcIt]
  | i + 1, h => by rw [crcIt, crcStep_shl h, crcIt_shl i (by omega)]
theorem crcByte_lin (a d : BitVec 32) (x : UInt8) : crcByte (a ^^^ d) x = crcByte a x ^^^ crcIt 8 d := by
  unfold crcByte
  rw [← crcIt_xor]
  congr 1
  rw [BitVec.xor_assoc, BitVec.xor_comm d, ← BitVec.xor_assoc]
theorem crcL_lin (d : BitVec 32) : ∀ (l : List UInt8) (a : BitVec 32), crcL (a ^^^ d) l = crcL a l ^^^ crcIt (8 * l.length) d := by
  intro l
  induction l generalizing d with
  | nil => intro a; rfl
  | cons x t ih =>
    intro a
    show crcL (crcByte (a ^^^ d) x) t = crcL (crcByte a x) t ^^^ _
    rw [crcByte_lin, ih, ← crcIt_add]
    congr 2
    simp; omega
theorem crcL_app (r : BitVec 32) (l k : List UInt8) : crcL r (l ++ k) = crcL (crcL r l) k := by unfold crcL; rw [List.foldl_append]
/-- one bit turned -/
def flip (l : List UInt8) (k : Nat) : List UInt8 := l.set (k / 8) (l.getD (k / 8) 0 ^^^ UInt8.ofNat (2 ^ (k % 8)))
theorem flip_len (l : List UInt8) (k : Nat) : (flip l k).length = l.length := by simp [flip]
theorem flip_cons0 {x : UInt8} {t : List UInt8} {k : Nat} (h : k < 8) : flip (x :: t) k = (x ^^^ UInt8.ofNat (2 ^ k)) :: t := by
  unfold flip
  rw [Nat.div_eq_of_lt h, Nat.mod_eq_of_lt h]
  rfl
theorem flip_cons1 {x : UInt8} {t : List UInt8} {k : Nat} (h : ¬ k < 8) : flip (x :: t) k = x :: flip t (k - 8) := by
  obtain ⟨j, rfl⟩ : ∃ j, k = j + 8 := ⟨k - 8, by omega⟩
  unfold flip
  rw [Nat.add_sub_cancel, Nat.add_div_right _ (by omega), Nat.add_mod_right]
  simp
theorem u8bit (x : UInt8) {k : Nat} (h : k < 8) : BitVec.ofNat 32 (x ^^^ UInt8.ofNat (2 ^ k)).toNat = BitVec.ofNat 32 x.toNat ^^^ (1#32 <<< k) := by
  have hx := x.toNat_lt
  have h2 : 2 ^ k < 256 := Nat.lt_of_lt_of_le (Nat.pow_lt_pow_right (by omega) h) (by decide)
  apply BitVec.eq_of_toNat_eq
  rw [BitVec.toNat_xor, BitVec.toNat_ofNat, BitVec.toNat_ofNat, BitVec.toNat_shiftLeft, UInt8.toNat_xor, UInt8.toNat_ofNat', Nat.mod_eq_of_lt (a := 2 ^ k) h2, Nat.mod_eq_of_lt (a := x.toNat) (by omega)]
  have h3 : x.toNat ^^^ 2 ^ k < 2 ^ 8 := Nat.xor_lt_two_pow (by omega) (by omega)
  rw [Nat.mod_eq_of_lt (by omega), show (1#32).toNat = 1 from rfl, Nat.shiftLeft_eq, Nat.one_mul, Nat.mod_eq_of_lt (a := 2 ^ k) (by omega)]
theorem crc_flip : ∀ (l : List UInt8) (k : Nat) (r : BitVec 32), k < 8 * l.length → crcL r (flip l k) = crcL r l ^^^ crcIt (8 * l.length - k) 1#32
  | [], k, r, h => by simp at h
  | x :: t, k, r, h => by
    by_cases hk : k < 8
    · rw [flip_cons0 hk]
      show crcL (crcByte r (x ^^^ UInt8.ofNat (2 ^ k))) t = crcL (crcByte r x) t ^^^ _
      have e : crcByte r (x ^^^ UInt8.ofNat (2 ^ k)) = crcByte r x ^^^ crcIt (8 - k) 1#32 := by
        unfold crcByte
        rw [u8bit x hk, ← BitVec.xor_assoc, crcIt_xor]
        congr 1
        conv => lhs; rw [show 8 = k + (8 - k) by omega]
        rw [crcIt_add, crcIt_shl k (by omega)]
      rw [e, crcL_lin, ← crcIt_add]
      congr 2
      simp; omega
    · rw [flip_cons1 hk]
      show crcL (crcByte r x) (flip t (k - 8)) = crcL (crcByte r x) t ^^^ _
      rw [crc_flip t (k - 8) _ (by simp at h; omega)]
      congr 2
      simp; omega
/-- is bit i turned? -/
def hitB (N first : Nat) (bs : BitVec 32) (i : Nat) : Bool := decide (first + i < N) && bs.getLsbD i
/-- the bytes behind q bits of a burst -/
def flips (l : List UInt8) (first : Nat) (bs : BitVec 32) : Nat → List UInt8
  | 0 => l
  | q + 1 => if hitB (8 * l.length) first bs q then flip (flips l first bs q) (first + q) else flips l first bs q
/-- the bits turned -/
def accD (N first : Nat) (bs : BitVec 32) : Nat → BitVec 32
  | 0 => 0#32
  | q + 1 => if hitB N first bs q then accD N first bs q ^^^ (1#32 <<< q) else accD N first bs q
def turnedF (N first : Nat) (bs : BitVec 32) : Nat → Bool
  | 0 => false
  | q + 1 => if hitB N first bs q then true else turnedF N first bs q
theorem flips_len (l : List UInt8) (first : Nat) (bs : BitVec 32) : ∀ q, (flips l first bs q).length = l.length
  | 0 => rfl
  | q + 1 => by
    unfold flips
    split
    · rw [flip_len, flips_len l first bs q]
    · exact flips_len l first bs q
theorem crc_flips (l : List UInt8) (first : Nat) (bs : BitVec 32) (r : BitVec 32) : ∀ q, q ≤ 32 → crcL r (flips l first bs q) = crcL r l ^^^ crcIt (8 * l.length - first) (accD (8 * l.length) first bs q)
  | 0, _ => by
    have : ∀ k, crcIt k 0#32 = 0#32 := fun k => by
      induction k with
      | zero => rfl
      | succ k ih => rw [crcIt]; exact ih
    simp [flips, accD, this]
  | q + 1, hq => by
    unfold flips accD
    by_cases hh : hitB (8 * l.length) first bs q = true
    · have hlt : first + q < 8 * l.length := by
        unfold hitB at hh
        rw [Bool.and_eq_true, decide_eq_true_eq] at hh
        exact hh.1
      rw [if_pos hh, if_pos hh, crc_flip _ _ _ (by rw [flips_len]; exact hlt), flips_len, crc_flips l first bs r q (by omega), crcIt_xor, BitVec.xor_assoc]
      congr 2
      conv => rhs; rw [show 8 * l.length - first = q + (8 * l.length - (first + q)) by omega]
      rw [crcIt_add, crcIt_shl q (by omega)]
    · rw [if_neg hh, if_neg hh]
      exact crc_flips l first bs r q (by omega)
theorem accD_bit (N first : Nat) (bs : BitVec 32) : ∀ q, q ≤ 32 → ∀ i, i < 32 → (accD N first bs q).getLsbD i = (decide (i < q) && hitB N first bs i)
  | 0, _, i, hi => by simp [accD]
  | q + 1, hq, i, hi => by
    have ih := accD_bit N first bs q (by omega) i hi
    have hs : (1#32 <<< q).getLsbD i = decide (i = q) := by
      rw [BitVec.getLsbD_shiftLeft]
      by_cases h1 : i < q
      · simp [h1, show ¬ i = q by omega]
      · by_cases h2 : i = q
        · subst h2; simp [hi]
        · have h3 : i - q ≠ 0 := by omega
          simp [h1, h2, hi, h3]
    unfold accD
    by_cases hh : hitB N first bs q = true
    · rw [if_pos hh, BitVec.getLsbD_xor, ih, hs]
      by_cases h2 : i = q
      · subst h2; simp [hh]
      · have : (decide (i < q + 1)) = decide (i < q) := by
          by_cases h3 : i < q
          · simp [h3, show i < q + 1 by omega]
          · simp [h3, show ¬ i < q + 1 by omega]
        simp [h2, this]
    · rw [if_neg hh, ih]
      by_cases h2 : i = q
      · subst h2; simp at hh; simp [hh]
      · have : (decide (i < q + 1)) = decide (i < q) := by
          by_cases h3 : i < q
          · simp [h3, show i < q + 1 by omega]
          · simp [h3, show ¬ i < q + 1 by omega]
        simp [this]
theorem turned_some {N first : Nat} {bs : BitVec 32} : ∀ {q : Nat}, turnedF N first bs q = true → ∃ i, i < q ∧ hitB N first bs i = true
  | 0, h => by simp [turnedF] at h
  | q + 1, h => by
    unfold turnedF at h
    split at h
    · rename_i hh; exact ⟨q, by omega, hh⟩
    · obtain ⟨i, h1, h2⟩ := turned_some h; exact ⟨i, by omega, h2⟩
theorem turned_none {l : List UInt8} {first : Nat} {bs : BitVec 32} : ∀ {q : Nat}, turnedF (8 * l.length) first bs q = false → flips l first bs q = l
  | 0, _ => rfl
  | q + 1, h => by
    unfold turnedF at h
    split at h
    · cases h
    · rename_i hh
      unfold flips
      rw [if_neg hh]
      exact turned_none h
theorem turned_ne {N first : Nat} {bs : BitVec 32} (h : turnedF N first bs 32 = true) : accD N first bs 32 ≠ 0 := by
  obtain ⟨i, h1, h2⟩ := turned_some h
  intro e
  have := accD_bit N first bs 32 (Nat.le_refl _) i h1
  rw [e, h2] at this
  simp [h1] at this
/-! the sum of a whole frame -/
theorem refIt_mod : ∀ (k : Nat) (r : BitVec 32) (c : Nat), refIt k r (c % 2 ^ k) = refIt k r c
  | 0, _, _ => rfl
  | k + 1, r, c => by
    have h1 : c % 2 ^ (k + 1) % 2 = c % 2 := by
      rw [Nat.pow_succ, Nat.mul_comm, Nat.mod_mul_right_mod]
    have h2 : c % 2 ^ (k + 1) / 2 = c / 2 % 2 ^ k := by
      rw [Nat.pow_succ, Nat.mul_comm, Nat.mod_mul_right_div_self]
    have h3 : refR r (c % 2 ^ (k + 1)) = refR r c := by unfold refR; rw [h1]
    rw [refIt, refIt, h2, h3, refIt_mod k]
theorem byte_step (r : BitVec 32) (n : Nat) (h : n < 2 ^ 32) : crcIt 8 (r ^^^ BitVec.ofNat 32 n) = crcByte r (UInt8.ofNat (n % 256)) ^^^ BitVec.ofNat 32 (n / 256) := by
  rw [ref_it 8 r n h, ← refIt_mod 8, ← ref_byte]
  congr 2
  rw [UInt8.toNat_ofNat']
  omega
theorem le4_word (s c : BitVec 32) : crcL c (le4 s) = crcIt 32 (c ^^^ s) := by
  have hs := s.isLt
  have e : s = BitVec.ofNat 32 s.toNat := by simp
  have h0 := byte_step c s.toNat hs
  rw [← e] at h0
  have e32 : ∀ d, crcIt 32 d = crcIt 8 (crcIt 8 (crcIt 8 (crcIt 8 d))) := fun d => by
    rw [← crcIt_add, ← crcIt_add, ← crcIt_add]
  show crcByte (crcByte (crcByte (crcByte c _) _) _) _ = _
  rw [e32, h0, byte_step _ _ (by omega), byte_step _ _ (by omega), byte_step _ _ (by omega)]
  rw [show s.toNat / 256 / 256 / 256 / 256 = 0 by omega, show s.toNat / 256 / 256 = s.toNat / 65536 by omega, show s.toNat / 65536 / 256 = s.toNat / 16777216 by omega, show s.toNat / 16777216 % 256 = s.toNat / 16777216 by omega]
  simp
theorem crc_whole (x : List UInt8) : crcL crcOne (x ++ le4 (sumF x)) = crcIt 32 crcOne := by
  rw [crcL_app, le4_word]
  unfold sumF
  congr 1
  generalize crcL crcOne x = c
  rw [show ~~~ c = crcOne ^^^ c from BitVec.allOnes_xor.symm, BitVec.xor_comm, BitVec.xor_assoc, BitVec.xor_self, BitVec.xor_zero]
theorem frame_eq (b : List UInt8) : frameF b = enc b.length ++ (b ++ le4 (sumF (bodyF b))) := by simp [frameF, bodyF]
/-- behind a burst a frame is no more whole -/
theorem frame_flips {b rest : List UInt8} {first : Nat} {bs : BitVec 32} (hb : b.length ≤ 524288) (h : turnedF (8 * (b.length + 4)) first bs 32 = true) :
    unframeF (enc b.length ++ flips (b ++ le4 (sumF (bodyF b))) first bs 32 ++ rest) = none := by
  obtain ⟨W, hW⟩ : ∃ W, b ++ le4 (sumF (bodyF b)) = W := ⟨_, rfl⟩
  have hWl : W.length = b.length + 4 := by rw [← hW]; simp [le4]
  have h0 := crc_whole (bodyF b)
  have e0 : bodyF b ++ le4 (sumF (bodyF b)) = enc b.length ++ W := by rw [← hW]; simp [bodyF]
  rw [e0, crcL_app] at h0
  have h1 := crc_flips W first bs (crcL crcOne (enc b.length)) 32 (Nat.le_refl _)
  have hl := flips_len W first bs 32
  rw [hW]
  rw [← hWl] at h
  obtain ⟨V, hV⟩ : ∃ V, flips W first bs 32 = V := ⟨_, rfl⟩
  rw [hV] at h1 hl ⊢
  have hne := crcIt_ne (8 * W.length - first) (turned_ne h)
  have hx : (V.take b.length).length = b.length := by rw [List.length_take]; omega
  have hs : (V.drop b.length).length = 4 := by rw [List.length_drop]; omega
  have hVe : V.take b.length ++ V.drop b.length = V := List.take_append_drop _ _
  generalize V.take b.length = x at *
  generalize V.drop b.length = s at *
  subst hVe
  have e2 : bytesS (enc b.length ++ (x ++ s) ++ rest) 0 524288 = (x, s ++ rest, 0) := by
    rw [← hx, show enc x.length ++ (x ++ s) ++ rest = enc x.length ++ x ++ (s ++ rest) by simp]
    exact bytesS_put (by omega) (by omega)
  have e3 : takeS (s ++ rest) 0 4 = (s, rest, 0) := by have := takeS_put (x := s) (rest := rest); rw [hs] at this; exact this
  have e4 : (enc b.length ++ (x ++ s) ++ rest).length - (s ++ rest).length = (enc b.length ++ x).length := by simp; omega
  have e5 : (enc b.length ++ (x ++ s) ++ rest).take (enc b.length ++ x).length = enc b.length ++ x := by
    rw [show enc b.length ++ (x ++ s) ++ rest = (enc b.length ++ x) ++ (s ++ rest) by simp, List.take_left]
  unfold unframeF
  rw [e2]
  simp only
  rw [e3, if_neg (by simp), e4, e5]
  rw [if_neg]
  intro e
  have h6 := crc_whole (enc b.length ++ x)
  have e7 : s = le4 (sumF (enc b.length ++ x)) := by simpa using e
  rw [← e7, List.append_assoc, crcL_app, h1, h0] at h6
  apply hne
  have := congrArg (crcIt 32 crcOne ^^^ ·) h6
  simp only [← BitVec.xor_assoc, BitVec.xor_self, BitVec.zero_xor] at this
  exact this
end Go.Proofs.YtnpjfjgnhadmjaaGreatDoor

/- Going through a log's records: the iterator All$1, and 'kept'. -/
namespace Go.Proofs.YtnpjfjgnhadmjaaGreatDoor
open Go.RowKit Go.Deep Go.Maps
set_option linter.unusedVariables false
attribute [local go_sem] Oper.semAt_some

/-- numbers from one on, and the records, as an iterator of a log has them -/
structure Its (w0 : World) (b1 b2 : Nat) (A1 A2 : Option Addr) (c1 c2 : Nat) (f : Int) (M : List (List UInt8)) : Prop where
  k1 : w0.cell? ⟨b1, 0, none⟩ = some (.slice A1 M.length c1)
  k2 : w0.cell? ⟨b2, 0, none⟩ = some (.slice A2 M.length c2)
  lt : M.length ≤ 1099511627776
  at1 : ∀ i, i < M.length → ∃ g, A1 = some ⟨g, 0, none⟩ ∧ w0.cell? ⟨g, i, none⟩ = some (.int .i64 (f + (i : Int)))
  at2 : ∀ i b, M[i]? = some b → ∃ g u, A2 = some ⟨g, 0, none⟩ ∧ w0.cell? ⟨g, i, none⟩ = some u ∧ Bs w0 u b
theorem Its.later {w0 w1 : World} {b1 b2 : Nat} {A1 A2 : Option Addr} {c1 c2 : Nat} {f : Int} {M : List (List UInt8)} (h : Its w0 b1 b2 A1 A2 c1 c2 f M) (hb : B w0 w1) : Its w1 b1 b2 A1 A2 c1 c2 f M :=
  ⟨hb.cell h.k1, hb.cell h.k2, h.lt, fun i hi => let ⟨g, e, k⟩ := h.at1 i hi; ⟨g, e, hb.cell k⟩, fun i b hi => let ⟨g, u, e, k, r⟩ := h.at2 i b hi; ⟨g, u, e, hb.cell k, r.later hb⟩⟩
/-- a number, its record as a value, the record -/
abbrev Ix := Int × Value × List UInt8
def ItY (w0 : World) (f : Int) (M : List (List UInt8)) (x : Ix) (W : World) : Prop := (∃ i : Nat, x.1 = f + (i : Int) ∧ M[i]? = some x.2.2) ∧ St w0 W [aBy x.2.1 x.2.2]
theorem ItY.bears {w0 w1 : World} {f : Int} {M : List (List UInt8)} {x : Ix} (hz : w0.heap.size ≤ w1.heap.size) : Bears w1.heap.size (ItY w0 f M x) :=
  ⟨fun W o h => ⟨h.1, h.2.later (B.alloc' _ _)⟩, fun W l o o' h hl ho hno => ⟨h.1, h.2.putObj o' (cel_cons (aBy.cel _ _) (by simp)) (by omega) ho hno⟩⟩
theorem B.putObj {w0 W : World} {l : Nat} {o o' : Obj} (h : B w0 W) (hl : w0.heap.size ≤ l) (ho : W.heap[l]? = some o) (hno : o.isCells = false) : B w0 (W.putObj l o') :=
  (St.putObj (L := []) o' (⟨h, trivial⟩ : St w0 W []) (by simp) hl ho hno).b
theorem B.bears {w0 w1 : World} (hz : w0.heap.size ≤ w1.heap.size) : Bears w1.heap.size (B w0) :=
  ⟨fun W o h => h.trans (B.alloc' _ _), fun W l o o' h hl ho hno => B.putObj h (by omega) ho hno⟩
section
variable {w0 : World} {b1 b2 : Nat} {A1 A2 : Option Addr} {c1 c2 : Nat} {f : Int} {M : List (List UInt8)}
set_option maxRecDepth 100000 in
set_option maxHeartbeats 2000000 in
theorem all1_in (hI : Its w0 b1 b2 A1 A2 c1 c2 f M) (k : Nat) (hk : 1 ≤ k) (l : Nat) (T : World → Prop) (hT : ∀ A B, T A → KeepsOthers A B → T B) (W1 : World) (hT1 : T W1) (h0 : B w0 W1)
    (hY : ∀ x W, ItY w0 f M x W → T W → YieldAt Fence.wide (k - 1) Tryz.prog l #[.int .i64 x.1, x.2.1] W fun e W' => e = .returned (.bool true) ∧ B w0 W' ∧ T W') :
    CallsIn Fence.wide k Tryz.prog 71 #[.func (.yield l) #[] #[], .pointer (some ⟨b1, 0, none⟩), .pointer (some ⟨b2, 0, none⟩)] W1 fun e W' => (∃ v, e = .returned v) ∧ B w0 W' ∧ T W' := by
  obtain ⟨m, hm⟩ : ∃ m, M.length = m := ⟨_, rfl⟩
  have HM := Lib.hid hm
  have k1 := h0.cell hI.k1
  have hlt := hI.lt
  rw [hm] at k1 hlt
  have HI := Lib.hid hI
  have H0 := Lib.hid h0
  clear hm hI h0
  refine callsIn_of_wp Tryz.func71 rfl trivial ?_ rfl
  simp only [Tryz.ntmps71, List.size_toArray, List.length_cons, List.length_nil, Nat.reduceAdd, Nat.reduceSub, Array.replicate_succ, Array.replicate_zero, List.push_toArray, List.append_toArray, List.nil_append, List.cons_append]
  gi_wp2
  gi_loopw [8] (fun i wr => ∃ j : Nat, i = .int .i64 (j : Int) ∧ j ≤ m ∧ T wr ∧ Hid (B w0 wr)) (fun i wr => m - (intOf i).toNat)
  case atStart => exact ⟨0, rfl, Nat.zero_le _, hT1, H0⟩
  case round =>
    obtain ⟨j, rfl, hj, hTr, hBr⟩ := hrel
    by_cases hjm : j < m
    · obtain ⟨g1, rfl, a1⟩ := HI.out.at1 j (by have := HM.out; omega)
      obtain ⟨b, hb⟩ : ∃ b, M[j]? = some b := ⟨_, List.getElem?_eq_getElem (by have := HM.out; omega)⟩
      obtain ⟨g2, u, rfl, a2, r2⟩ := HI.out.at2 j b hb
      have e1 := hBr.out.cell a1
      have e2 := hBr.out.cell a2
      have e3 := hBr.out.cell HI.out.k2
      rw [HM.out] at e3
      have HC := Lib.hid (clone89 (r2.later hBr.out))
      have HBJ := Lib.hid hb
      clear a1 a2 r2 hb
      gi_wp2_with (first
        | ((try refine ⟨trivial, ?_⟩); gi_at_call 69; (with_reducible refine (callsIn_wide.2 HC.out).mono ?_); rintro e w3 ⟨v3, rfl, r3, hb3⟩; have hS := (St.nil w0).later hBr.out |>.addRow hb3 r3; have hT3 := hT _ _ hTr (KeepsOthers.of_B hb3); have hyy := hY (f + (j : Int), v3, b) w3 ⟨⟨j, rfl, HBJ.out⟩, hS⟩ hT3; clear hb3 r3 hS; obtain ⟨fn, tmps, assign, body, hy, hR⟩ := hyy; dsimp only at hy))
      refine hR.mono ?_
      rintro e W3 ⟨rfl, hB3, hT4⟩
      have HB3 := Lib.hid hB3
      clear hB3 hR hy
      gi_wp2
      go_roundw
      case rel => exact ⟨j + 1, by go_num, by omega, hT4, HB3⟩
      case measure => simp [intOf]; omega
    · obtain rfl : j = m := by omega
      have HTr := Lib.hid hTr
      gi_wp2
      refine bodyPost_end (results_none rfl _ _ _) rfl ?_
      exact ⟨⟨_, rfl⟩, hBr.out, HTr.out⟩
set_option maxRecDepth 100000 in
set_option maxHeartbeats 4000000 in
theorem kept_yes {w : World} {m : Nat} (hI : Its w b1 b2 A1 A2 c1 c2 f M) (hlook : ∀ w' (i : Nat) b, B w w' → M[i]? = some b → ∃ v, (Instr.lookup 61 (.map (some m)) (.int .i64 (f + (i : Int))) false).run Tryz.prog w' = .ok v w' ∧ Bs w' v b) :
    Calls Tryz.prog 30 #[.func (.func 71) #[] #[.pointer (some ⟨b1, 0, none⟩), .pointer (some ⟨b2, 0, none⟩)], .map (some m)] w fun e w' => e = .returned (.bool true) ∧ B w w' := by
  have HI := Lib.hid hI
  have HL := Lib.hid hlook
  clear hI hlook
  refine (callsIn_wide (n := 4)).1 ?_
  refine callsIn_of_wp_marks Tryz.func30 rfl trivial ?_ rfl
  simp only [Tryz.ntmps30, List.size_toArray, List.length_cons, List.length_nil, Nat.reduceAdd, Nat.reduceSub, Array.replicate_succ, Array.replicate_zero, List.push_toArray, List.append_toArray, List.nil_append, List.cons_append]
  gi_wp2_with fail
  have h1 := aBlk.new (aBlk.new (St.nil w) 61 #[.map (some m)]) 4 #[.bool false]
  rw [World.size_alloc] at h1
  have hb1 := h1.b
  have hI1 := HI.out.later hb1
  have kb := (aBlk.get h1.swap).cell 0
  simp only [List.getElem?_toArray, List.getElem?_cons_zero] at kb
  have H1 := Lib.hid h1
  clear h1
  obtain ⟨w1, hw1⟩ : ∃ w1, (w.alloc (.cells #[.map (some m)] 61)).alloc (.cells #[.bool false] 4) = w1 := ⟨_, rfl⟩
  rw [hw1] at hb1 hI1 kb H1 ⊢
  have HB1 := Lib.hid hb1
  have HI1 := Lib.hid hI1
  have hsz : w1.heap.size = w.heap.size + 2 := by rw [← hw1]; simp
  clear hw1 hb1 hI1
  refine range_go (F := Fence.wide) rfl (by omega) (gf := 71) (lb := #[.pointer (some ⟨b1, 0, none⟩), .pointer (some ⟨b2, 0, none⟩)]) rfl trivial (enters_of Tryz.func71 (by kernel_rfl) rfl)
    (encs := fun x : Ix => #[.int .i64 x.1, x.2.1]) (S := fun _ => True) (fun x => rfl) (fun _ => B w1) (fun _ => B w1) (fun _ x => ItY w1 f M x)
    (fun _ => B.bears (Nat.le_refl _)) (fun _ _ => ItY.bears (Nat.le_refl _)) (fun _ => B.bears (Nat.le_refl _)) (Below.refl _ _)
    (fun x => { tmps := #[.func (.func 71) #[] #[.pointer (some ⟨b1, 0, none⟩), .pointer (some ⟨b2, 0, none⟩)], .map (some m), undef, .pointer (some ⟨w.heap.size, 0, none⟩), .pointer (some ⟨w.heap.size + 1, 0, none⟩), .int .i64 x.1, x.2.1, .func (.func 71) #[] #[.pointer (some ⟨b1, 0, none⟩), .pointer (some ⟨b2, 0, none⟩)], .int .i64 x.1, x.2.1, undef, undef, undef, undef, undef, undef], defers := [] }) ?assign ?body ?hit ?done
  case assign =>
    intro l x W K hK
    gi_wp2
    exact hK
  case hit =>
    intro l W1 T hT hT1 h0 hY
    refine (all1_in HI1.out _ (by omega) l T hT W1 hT1 h0 (fun x W hx hTW => hY [] x W hx hTW)).mono ?_
    rintro e W' ⟨h1, h2, h3⟩
    exact ⟨h1, [], trivial, h2, h3⟩
  case body =>
    rintro l pre ⟨xn, xv, xb⟩ W ⟨⟨i, hi, hx⟩, hS⟩
    dsimp only at hi hx hS
    subst hi
    obtain ⟨v, hrun, hv⟩ := HL.out W i xb (HB1.out.trans hS.b) hx
    have kl := hS.b.cell kb
    have hxb : xb.length ≤ big := hv.2
    have hE := Lib.hid (equal68 (hS.byBs hxb) hv)
    have HB := Lib.hid hS.b
    clear hS hv hx
    gi_wp2_with (first
      | ((try refine ⟨trivial, ?_⟩); gi_at_call 15; (with_reducible refine ((callsIn_wide.2 hE.out).inRound l).mono ?_); rintro e w3 ⟨rfl, rfl⟩; simp only [beq_self_eq_true]))
    exact ⟨KeepsOthers.refl _, HB.out⟩
  case done =>
    rintro D xs W hD _ hJ hK
    have hS := H1.out.later hJ
    have z0 := (aBlk.get hS).cell 0
    have f0 := (aBlk.get hS).frozen 0
    simp only [List.getElem?_toArray, List.getElem?_cons_zero] at z0
    have HS := Lib.hid hS
    have HD := Lib.hid hK
    clear hS hK hJ
    gi_wp2
    have h4 := aBlk.set HS.out 0 (.bool true)
    have hk4 := (KeepsOthers.setCell W ⟨w.heap.size + 1, 0, none⟩ (.bool true)).same D _ HD.out rfl
    have h5 := h4.putObj (.deferred none) (cel_cons (aBlk.cel _ _ _) (cel_cons (aBlk.cel _ _ _) (by simp))) (by omega) hk4 rfl
    refine ⟨by simp, .inl ⟨_, _, rfl, run_takeDeferred hk4, ?_⟩⟩
    have c5 := (aBlk.get h5).cell 0
    simp at c5
    refine ⟨.bool true, ?_, rfl, h5.b⟩
    simp [results, Tryz.f30, go_sem, c5]
end
end Go.Proofs.YtnpjfjgnhadmjaaGreatDoor

/- A log begun on an empty disk of any room; Append where a record is not put. -/
namespace Go.Proofs.YtnpjfjgnhadmjaaGreatDoor
open Go.RowKit Go.Deep Go.Maps
set_option linter.unusedVariables false

def dZr (r : Int) : Dk := ⟨[], r, false⟩
theorem createD (n : List UInt8) (r : Int) : createF (dZr r) (file1 n) = (0, dF n [] 0 r) := by
  unfold createF dZr
  rw [if_neg (by simp), if_neg (file1_ne n)]
  rfl
theorem appendD (n b c : List UInt8) (s : Nat) (r : Int) (h : (b.length : Int) + (c.length : Int) ≤ r) : appendF (dF n b s r) (file1 n) c = (0, dF n (b ++ c) s r) := by
  unfold appendF
  rw [turn_some (mayD n b s r) (f := ⟨file1 n, b, s⟩) rfl]
  rw [if_neg (by simp [dF, usedF]; omega)]
  rfl
theorem appendD_no (n b c : List UInt8) (s : Nat) (r : Int) (h : ¬ (b.length : Int) + (c.length : Int) ≤ r) : appendF (dF n b s r) (file1 n) c = (30, dF n b s r) := by
  unfold appendF
  rw [turn_some (mayD n b s r) (f := ⟨file1 n, b, s⟩) rfl]
  rw [if_pos (by simp [dF, usedF]; omega)]
  rfl
section
variable {W w : World} {p dp : Nat} {X : List Asn} {n : List UInt8} {most r : Int}
set_option maxRecDepth 20000 in
set_option maxHeartbeats 4000000 in
theorem begins_r (hr : 6 ≤ r) (h : St W w (aBlk p 48 #[.pointer (some ⟨dp, 0, none⟩), .string (bstr n), .int .i64 most, .slice none 0 0, .int .i64 0] :: aDisk dp (dZr r) :: X)) (hn : n.length ≤ 4194304) :
    Calls Tryz.prog 54 #[.pointer (some ⟨p, 0, none⟩), .int .i64 1, .int .i64 1] w fun e w' => e = .returned (.int .i64 0) ∧ St W w' (aLg p dp (lg0 n most 0) :: aDisk dp (dF n (headF 1) 6 r) :: X) := by
  have hb := aBlk.get h
  have c0 := hb.cell 0
  have c1 := hb.cell 1
  have c3 := hb.cell 3
  simp at c0 c1 c3
  have hfl : (file1 n).length ≤ maxLen := by simp [file1]; unfold maxLen; omega
  have HFL := Lib.hid hfl
  have o4 : ∀ x ∈ [Value.int .i64 1, .int .i64 1, .slice none 0 0, .int .i64 6], x.oneCell' = true := by simp [Value.oneCell']
  have HFI := Lib.hid (fun w' => file_c w' (n := n) (by omega))
  have HCR := Lib.hid (by have := create_c h.swap hfl; rw [createD] at this; exact this)
  have HPN := Lib.hid (fun w' Y (hS : St W w' Y) => show Calls Tryz.prog 78 #[.slice none 0 0, .int .u64 1] w' fun e w'' => ∃ v, e = .returned v ∧ St W w'' (aBy v (enc 1) :: Y) from hS.fresh (putNum70 (Bs.nil w') 1 (by omega) (by unfold big; simp)))
  have HFR := Lib.hid (fun w' v Y (hS : St W w' (aBy v (enc 1) :: Y)) => frame_yes hS (hS.byBs (by rw [enc_lt (by omega)]; simp [big])) (by rw [enc_lt (by omega)]; simp))
  have H6 := Lib.hid head1_len
  have HBG1 := Lib.hid (by have := appendD n [] (headF 1) 0 r (by rw [head1_len]; simp; omega); simpa using this)
  have HBG2 := Lib.hid (by have := syncD n (headF 1) 0 r; rw [head1_len] at this; exact this)
  have HAP := Lib.hid (fun w' v Y (hS : St W w' (aDisk dp (dF n [] 0 r) :: aBy v (headF 1) :: Y)) => show Calls Tryz.prog 66 #[.pointer (some ⟨dp, 0, none⟩), .string (bstr (file1 n)), v] w' fun e w'' => e = .returned (.int .i64 0) ∧ St W w'' (aDisk dp (dF n (headF 1) 0 r) :: aBy v (headF 1) :: Y) from by
    have := append_c hS HFL.out (hS.swap.byBs (by rw [head1_len]; unfold big; omega)) (by rw [head1_len]; omega)
    rw [HBG1.out] at this
    exact this)
  have HSY := Lib.hid (fun w' Y (hS : St W w' (aDisk dp (dF n (headF 1) 0 r) :: Y)) => show Calls Tryz.prog 37 #[.pointer (some ⟨dp, 0, none⟩), .string (bstr (file1 n))] w' fun e w'' => e = .returned (.int .i64 0) ∧ St W w'' (aDisk dp (dF n (headF 1) 6 r) :: Y) from by
    have := sync_c hS HFL.out
    rw [HBG2.out] at this
    exact this)
  have HK8 := Lib.hid (fun (w' : World) (s c7 : Nat) (Y : List Asn) (hS : St W w' (aBlk p 48 #[.pointer (some ⟨dp, 0, none⟩), .string (bstr n), .int .i64 most, .slice none 0 0, .int .i64 0] :: aRow 107 4 (.slice (some ⟨s, 0, none⟩) 1 c7) 1 [.int .i64 1, .int .i64 1, .slice none 0 0, .int .i64 6] :: Y)) =>
    show St W (w'.setCell ⟨p, 3, none⟩ (.slice (some ⟨s, 0, none⟩) 1 c7)) (lgL p dp (lg0 n most 0) s c7 (.slice none 0 0) ++ Y) from by
    have h1 := aBlk.set hS 3 (.slice (some ⟨s, 0, none⟩) 1 c7)
    have h2 := aPl.nil h1
    exact h2.rot3.rot3)
  have H66 := H6
  clear h hb hfl H6 hr
  go_enter Tryz.func54, Tryz.ntmps54
  go_wp2_with (first
    | (go_at_call 67; (with_reducible refine (HFI.out _).mono ?_); rintro e w1 ⟨rfl, rfl⟩)
    | (go_at_call 88; (with_reducible refine HCR.out.mono ?_); rintro e w2 ⟨rfl, hS⟩; have H2 := Lib.hid hS; have k0 := hS.cellOf (g := p) (t := 48) (cs := #[.pointer (some ⟨dp, 0, none⟩), .string (bstr n), .int .i64 most, .slice none 0 0, .int .i64 0]) (by simp) 0; simp only [List.getElem?_toArray, List.getElem?_cons_zero] at k0; clear hS)
    | (go_at_call 78; (with_reducible refine (HPN.out _ _ H2.out).mono ?_); rintro e w3 ⟨v3, rfl, hS⟩; have H3 := Lib.hid hS; clear hS)
    | (go_at_call 8; (with_reducible refine (HFR.out _ _ _ H3.out).mono ?_); rintro e w4 ⟨v4, rfl, hS⟩; obtain ⟨A4, c4, hv⟩ := hS.bySlice; rw [show (frameF (enc 1)).length = 6 from H66.out] at hv; subst hv; have H4 := Lib.hid (show St W w4 (aBy (.slice A4 6 c4) (headF 1) :: _) from hS); have k40 := hS.cellOf (g := p) (t := 48) (cs := #[.pointer (some ⟨dp, 0, none⟩), .string (bstr n), .int .i64 most, .slice none 0 0, .int .i64 0]) (by simp) 0; simp only [List.getElem?_toArray, List.getElem?_cons_zero] at k40; clear hS)
    | (go_at_call 66; (with_reducible refine (HAP.out _ _ _ H4.out.rot3).mono ?_); rintro e w5 ⟨rfl, hS⟩; have H5 := Lib.hid hS; have k50 := hS.cellOf (g := p) (t := 48) (cs := #[.pointer (some ⟨dp, 0, none⟩), .string (bstr n), .int .i64 most, .slice none 0 0, .int .i64 0]) (by simp) 0; simp only [List.getElem?_toArray, List.getElem?_cons_zero] at k50; clear hS)
    | (go_at_call 37; (with_reducible refine (HSY.out _ _ H5.out).mono ?_); rintro e w6 ⟨rfl, hS⟩; have H6 := Lib.hid hS; have k63 := hS.cellOf (g := p) (t := 48) (cs := #[.pointer (some ⟨dp, 0, none⟩), .string (bstr n), .int .i64 most, .slice none 0 0, .int .i64 0]) (by simp) 3; simp only [List.getElem?_toArray, List.getElem?_cons_succ, List.getElem?_cons_zero] at k63; clear hS)
    | (at_builtin; refine wpList_append_St rfl (.tmp 64) (.tmp 70) 46 rfl Tryz.underlying46 infoSeg rfl (by decide) rfl rfl ((H6.out.later (B.alloc' _ _)).rowNil 107 4) (Rd.four _ _ _ _ _ _) o4 (by unfold maxLen; omega) (by omega) ?_; intro A7 c7 w7 hS; simp only [Nat.zero_add, List.nil_append] at hS; simp only [Nat.zero_add]; obtain ⟨s, rfl⟩ := hS.rowNSome (by omega); have H8 := Lib.hid (HK8.out _ _ _ _ hS.rot5); have k73 := (aBlk.get hS.rot5).cell 3; have f73 := (aBlk.get hS.rot5).frozen 3; simp at k73; clear hS)
    | (go_at_call 27; (with_reducible refine (Llast_o H8.out (lg0E n most 0)).mono ?_); rintro e w9 ⟨rfl, hb⟩; rw [show lastF (lg0 n most 0) = 0 from rfl]; have H9 := Lib.hid (H8.out.later hb); have k94 := (lgL.cells H9.out).2.2.2.2.1; have f94 := (aBlk.get H9.out).frozen 4; clear hb))
  go_ret
  have h9 := aBlk.set H9.out 4 (.int .i64 0)
  refine ⟨rfl, ?_⟩
  have h10 : St W _ (lgL p dp (lg0 n most 0) s c7 (.slice none 0 0) ++ (aDisk dp (dF n (headF 1) 6 r) :: aBy (.slice A4 6 c4) (headF 1) :: aBy v3 (enc 1) :: X)) := h9
  exact (aLg.shut (lg0E n most 0) h10).rot3.drop.rot3.drop
set_option maxRecDepth 20000 in
set_option maxHeartbeats 4000000 in
theorem open0_r (hr : 6 ≤ r) (h : St W w (aDisk dp (dZr r) :: X)) (hm : mayN n most = true) (hn : n.length ≤ 4194304) :
    Calls Tryz.prog 18 #[.pointer (some ⟨dp, 0, none⟩), .string (bstr n), .int .i64 most] w fun e w' => ∃ p, e = .returned (.tuple #[.pointer (some ⟨p, 0, none⟩), .int .i64 0]) ∧ St W w' (aLg p dp (lg0 n most 0) :: aDisk dp (dF n (headF 1) 6 r) :: X) := by
  have HC := Lib.hid (clone_c h (fun f hf => by cases hf))
  have HM := Lib.hid (fun w' => may_c w' (n := n) (m := most))
  have HNL := Lib.hid hn
  have HRR := Lib.hid hr
  rw [hm] at HM
  clear h hm hn hr
  go_enter Tryz.func18, Tryz.ntmps18
  go_wp2_with (first
    | (go_at_call 50; (with_reducible refine HC.out.mono ?_); rintro e w1 ⟨c, rfl, hS⟩; have H1 := Lib.hid hS.drop; clear hS)
    | (go_at_call 51; (with_reducible refine (offD_c H1.out).mono ?_); rintro e w2 ⟨rfl, rfl⟩; rw [show (dZr r).off = false from rfl])
    | (go_at_call 52; (with_reducible refine (HM.out _).mono ?_); rintro e w3 ⟨rfl, hb⟩; have H3 := Lib.hid (aBlk.new (H1.out.later hb) 48 #[.pointer (some ⟨dp, 0, none⟩), .string (bstr n), .int .i64 most, .slice none 0 0, .int .i64 0]); clear hb)
    | (go_at_call 53; (with_reducible refine (numbers0 H3.out.swap rfl).mono ?_); rintro e w4 ⟨rfl, hS⟩; have H4 := Lib.hid hS.swap; clear hS)
    | (go_at_call 54; (with_reducible refine (begins_r HRR.out H4.out HNL.out).mono ?_); rintro e w5 ⟨rfl, hS⟩; have H5 := Lib.hid hS; clear hS))
  go_ret2
  exact ⟨_, rfl, H5.out⟩
end
section
variable {W w : World} {p dp : Nat} {X : List Asn} {g : Lg} {d d' : Dk} {u : Value} {b : List UInt8}
set_option maxRecDepth 20000 in
set_option maxHeartbeats 8000000 in
theorem Lappend_full (h : St W w (aLg p dp g :: aDisk dp d :: X)) (hu : ∀ (w' : World) (Y : List Asn), St W w' (Y ++ X) → Bs w' u b) (hb : b.length ≤ 524288) (hg1 : g.n = 1) (hroll : g.L = [] ∨ g.size < g.most) (hn : g.name.length ≤ 4194304) (hap : appendF d (file1 g.name) (frameF b) = (30, d))
    (hsz : 0 ≤ g.size ∧ g.size ≤ 1099511627776) (hl : g.L.length + 1 ≤ 1099511627776) :
    Calls Tryz.prog 21 #[.pointer (some ⟨p, 0, none⟩), u] w fun e w' => e = .returned (.tuple #[.int .i64 0, .int .i64 30]) ∧ St W w' (aLg p dp g :: aDisk dp d :: X) := by
  obtain ⟨s, c, vL, hE, h⟩ := aLg.open_ h
  have HN := Lib.hid (Lnone_o h)
  obtain ⟨AL, cL, rfl⟩ := lgL.recs h
  have hu0 : Bs w u b := hu w (lgL p dp g s c (.slice AL g.L.length cL) ++ [aDisk dp d]) h
  have HFR := Lib.hid (frame_yes h hu0 hb)
  have HU := Lib.hid hu
  have HFL := Lib.hid (frame_len hb)
  have hfn : (file1 g.name).length ≤ maxLen := by simp [file1]; unfold maxLen; omega
  have HFI := Lib.hid (fun w' => file_c w' (n := g.name) (by omega))
  obtain ⟨Au, cu, rfl⟩ := hu0.rd.slice
  have HEE := Lib.hid hE
  have HAP := Lib.hid (fun w' v Y (hS : St W w' (aDisk dp d :: Y)) (hv : Bs w' v (frameF b)) => show Calls Tryz.prog 66 #[.pointer (some ⟨dp, 0, none⟩), .string (bstr (file1 g.name)), v] w' fun e w'' => e = .returned (.int .i64 30) ∧ St W w'' (aDisk dp d :: Y) from by
    have := append_c hS hfn hv (by have := HFL.out; omega)
    rw [hap] at this
    exact this)
  obtain ⟨name, most, sure, sn, first, size, L⟩ := g
  simp only at *
  subst hg1
  obtain ⟨fl, hfl⟩ : ∃ fl, (frameF b).length = fl := ⟨_, rfl⟩
  have HFLE := Lib.hid hfl
  have hfl2 : fl ≤ 524302 := by have := HFL.out; omega
  obtain ⟨l, hll⟩ : ∃ l, L.length = l := ⟨_, rfl⟩
  have HLL := Lib.hid hll
  obtain ⟨bl, hbl⟩ : ∃ bl, b.length = bl := ⟨_, rfl⟩
  have HBL := Lib.hid hbl
  obtain ⟨hsz1, hsz2⟩ := hsz
  have hr2 : L.length = 0 ∨ size < most := hroll.elim (fun e => .inl (by rw [e]; rfl)) .inr
  rw [hll] at hr2
  have hmk := fun w' => run_mk8 w' bl (by omega)
  rw [hbl] at HFR HU ⊢
  rw [hll] at HFR
  have HBB := Lib.hid (show b.length ≤ big by unfold big; omega)
  have HLB := Lib.hid hl
  have HCL := Lib.hid (fun (w' : World) (Y : List Asn) (hS : St W w' (lgL p dp { name := name, most := most, sure := sure, n := 1, first := first, size := size, L := L } s c (.slice AL l cL) ++ Y)) => lgL.cells hS)
  have HEN := Lib.hid (fun (w' : World) (Y : List Asn) (hS : St W w' (lgL p dp { name := name, most := most, sure := sure, n := 1, first := first, size := size, L := L } s c (.slice AL l cL) ++ Y)) => Lend_o hS)
  clear h hu hu0 hb hn hap hl hfn hE hfl hll hbl hroll
  go_enter Tryz.func21, Tryz.ntmps21
  go_wp2_with (first
    | (go_at_call 64; (with_reducible refine HN.out.mono ?_); rintro e w1 ⟨rfl, rfl⟩)
    | (go_at_call 8; (with_reducible refine HFR.out.mono ?_); rintro e w2 ⟨vf, rfl, hS⟩; obtain ⟨Af, cf, hv⟩ := hS.bySlice; rw [HFLE.out] at hv; subst hv; have H2 := Lib.hid (show St W w2 (lgL p dp { name := name, most := most, sure := sure, n := 1, first := first, size := size, L := L } s c (.slice AL l cL) ++ (aBy (.slice Af fl cf) (frameF b) :: aDisk dp d :: X)) from St.rot4 (St.rot4 (St.rot4 hS))); clear hS)
    | (go_at_call 65; (with_reducible refine (HEN.out _ _ H2.out).mono ?_); rintro e w3 ⟨rfl, hb⟩; have H3 := Lib.hid (H2.out.later hb); obtain ⟨m0, m1, m2, m3, m4, n0, n1, n2, n3⟩ := HCL.out _ _ H3.out; clear hb))
  have hcase : (¬ 0 < l) ∨ (0 < l ∧ ¬ most ≤ size) := by omega
  rcases hcase with p1 | ⟨p1, p2⟩
  all_goals
    go_quiet (fail)
    go_wp2_with (first
      | (go_at_call 65; (with_reducible refine (HEN.out _ _ (H3.out.drewN _)).mono ?_); rintro e w4 ⟨rfl, hb⟩; have H4 := Lib.hid (((H3.out.drewN _).later hb).later (Below.refl _ _).drew); have hS := (H3.out.drewN _).later hb; clear m0 m1 m2 m3 m4 n0 n1 n2 n3; obtain ⟨m0, m1, m2, m3, m4, n0, n1, n2, n3⟩ := HCL.out _ _ hS; clear hb hS))
    go_region_held3 (fun w' => w'.cell? ⟨p, 0, none⟩ = some (.pointer (some ⟨dp, 0, none⟩)) ∧ w'.cell? ⟨p, 1, none⟩ = some (.string (bstr name)) ∧ w'.cell? ⟨s, 0, none⟩ = some (.int .i64 1)) (first | assumption | (refine ⟨?_, ?_, ?_⟩ <;> assumption)) (first
      | (go_at_call 67; (with_reducible refine (HFI.out _).mono ?_); rintro e w5 ⟨rfl, rfl⟩)
      | (go_at_call 66; (with_reducible refine (HAP.out _ _ _ (St.rot5 H4.out) ((St.rot4 H4.out).byBs (by have := HFL.out; unfold big; omega))).mono ?_); rintro e w6 ⟨rfl, hS⟩; have H6 := Lib.hid hS; clear m0 m1 m2 m3 m4 n0 n1 n2 n3; obtain ⟨m0, m1, m2, m3, m4, n0, n1, n2, n3⟩ := HCL.out _ _ (St.drop hS); clear hS))
    all_goals
      go_wp2_with fail
      go_ret2
      exact ⟨rfl, aLg.shut HEE.out (show St W _ (lgL p dp { name := name, most := most, sure := sure, n := 1, first := first, size := size, L := L } s c (.slice AL l cL) ++ (aDisk dp d :: X)) from (H6.out.rot5.drop).rot4.rot4.rot4)⟩
set_option maxRecDepth 20000 in
theorem Lappend_long (h : St W w (aLg p dp g :: X)) (hu : Bs w u b) (hb : ¬ b.length ≤ 524288) :
    Calls Tryz.prog 21 #[.pointer (some ⟨p, 0, none⟩), u] w fun e w' => e = .returned (.tuple #[.int .i64 0, .int .i64 3]) ∧ w = w' := by
  obtain ⟨s, c, vL, hE, h⟩ := aLg.open_ h
  have HN := Lib.hid (Lnone_o h)
  have HFR := Lib.hid (frame_no h hu hb)
  clear h hu hb hE
  go_enter Tryz.func21, Tryz.ntmps21
  go_wp2_with (first
    | (go_at_call 64; (with_reducible refine HN.out.mono ?_); rintro e w1 ⟨rfl, rfl⟩)
    | (go_at_call 8; (with_reducible refine HFR.out.mono ?_); rintro e w2 ⟨rfl, rfl⟩))
  go_ret2
  exact ⟨rfl, rfl⟩
end
end Go.Proofs.YtnpjfjgnhadmjaaGreatDoor

/- All on a log with one segment: numbers and records, as an iterator has them. -/
namespace Go.Proofs.YtnpjfjgnhadmjaaGreatDoor
open Go.RowKit Go.Deep Go.Maps
set_option linter.unusedVariables false
attribute [local go_sem ↓] Go.wp_at_zero Go.wp_at_succ

theorem Rd.blk {w : World} {g : Nat} {t : TypeId} {x : Value} (h : Blk w g t #[x]) : Rd w (.slice (some ⟨g, 0, none⟩) 1 1) 1 1 [x] := by
  refine ⟨rfl, _, _, rfl, fun e => (by cases e), Nat.le_refl _, fun ad had => ?_⟩
  cases had
  refine ⟨fun _ => h.lt, fun j u' hu => ?_⟩
  have ea : (⟨g, 0, none⟩ : Addr).add j = ⟨g, j, none⟩ := by unfold Addr.add; split <;> simp_all
  rw [ea, h.cell, ← hu]
  simp
/-- 'append(l, x...)' of one record that lies by itself -/
theorem St.plAppendRd {W w : World} {L : List Asn} {x v u : Value} {b : List UInt8} {M : List (List UInt8)} {ty : TypeId} (h : St W w (aPl v M :: aBy x b :: L)) (hu : Rd w u 1 1 [x]) (hb : b.length ≤ big) (hl : M.length + 1 ≤ 1099511627776) :
    ∃ A c w', (Builtin.append_ #[63, 63] ty #[v, u]).run Tryz.prog w = .ok (.slice A (M.length + 1) c) w' ∧ St W w' (aPl (.slice A (M.length + 1) c) (M ++ [b]) :: L) := by
  obtain ⟨own, ⟨o1, o2, k1, k2, k3, ⟨vs, ⟨h1, h2⟩, h3⟩, ⟨h4, h5⟩⟩, ho, hback⟩ := h.merge.focus
  obtain ⟨Ax, cx, rfl⟩ := own_slice h4
  obtain ⟨v', w', hrun, r4, x4, y4⟩ := append_Rd (P := Tryz.prog) (t := 63) (ty := ty) Tryz.underlying63 info47 rfl Nat.zero_lt_one h1 hu (by simp [Value.oneCell']) (by unfold maxLen; omega) (by omega) (Nat.zero_le _)
  obtain ⟨A, c, rfl⟩ := own_slice r4
  refine ⟨A, c, w', hrun, ?_⟩
  have hgx : Ext (fun g => some g = v.ownBlock) w w' := (Ext.refl _ _).grown x4 (fun g e _ => e.symm)
  have f7 := h3.ext hgx (fun g cs _ hB' e => row_ne h1 hB' (by decide) e.symm)
  have q3 := row_ext h4 hgx (fun g hg e => row_row h1 h4 (by decide) e.symm hg)
  have f8 := (f7.mono (own' := fun x => own x ∨ w.heap.size ≤ x) (fun g hg => .inl (k1 g hg))).snoc q3 hb (fun g hg => .inl (k2 g (h5 g hg)))
  refine hback w' (aPl (.slice A (M.length + 1) c) (M ++ [b])) ((Ext.refl _ _).grown x4 (fun g e _ => k1 g (h2 g e))) ⟨_, ⟨by rw [List.length_append]; exact r4, fun g hg => ?_⟩, f8⟩
  rcases y4 with e | e
  · exact .inl (k1 g (h2 g (by rw [← e, hg])))
  · right; rw [e] at hg; injection hg with hg; omega
section
variable {W w : World} {p dp s c : Nat} {X : List Asn} {g : Lg} {vL : Value}
theorem Lfirst_o (h : St W w (lgL p dp g s c vL ++ X)) : Calls Tryz.prog 26 #[.pointer (some ⟨p, 0, none⟩)] w fun e w' => e = .returned (.int .i64 g.first) ∧ B w w' := by
  have HN := Lib.hid (Lnone_o h)
  obtain ⟨_, _, _, k3, _, _, k1, _⟩ := lgL.cells h
  clear h
  go_enter Tryz.func26, Tryz.ntmps26
  go_wp2_with (first
    | (go_at_call 64; (with_reducible refine HN.out.mono ?_); rintro e w1 ⟨rfl, rfl⟩))
  go_ret
  exact ⟨rfl, Below.refl _ _⟩
theorem Lfirst_c (h : St W w (aLg p dp g :: X)) : Calls Tryz.prog 26 #[.pointer (some ⟨p, 0, none⟩)] w fun e w' => e = .returned (.int .i64 g.first) ∧ B w w' := by
  obtain ⟨s, c, vL, hE, h1⟩ := aLg.open_ h
  exact Lfirst_o h1
theorem Lnone_c (h : St W w (aLg p dp g :: X)) : Calls Tryz.prog 64 #[.pointer (some ⟨p, 0, none⟩)] w fun e w' => e = .returned (.bool false) ∧ w = w' := by
  obtain ⟨s, c, vL, hE, h1⟩ := aLg.open_ h
  exact Lnone_o h1
/-- the numbers from f on -/
def numsC (f : Int) (k : Nat) : List Value := (List.range k).map fun i : Nat => Value.int .i64 (f + (i : Int))
theorem numsC_len (f : Int) (k : Nat) : (numsC f k).length = k := by simp [numsC]
theorem numsC_succ (f : Int) (k : Nat) : numsC f (k + 1) = numsC f k ++ [.int .i64 (f + (k : Int))] := by
  unfold numsC; rw [List.range_succ, List.map_append]; rfl
theorem numsC_get (f : Int) {k i : Nat} (h : i < k) : (numsC f k)[i]? = some (.int .i64 (f + (i : Int))) := by
  simp [numsC, h]
theorem infoI64 : (Tryz.prog.info? 2).map (fun i => (i.zero, i.size, i.bytes)) = some (some (.int .i64 0), 1, 8) := by kernel_rfl
set_option maxRecDepth 20000 in
set_option maxHeartbeats 8000000 in
theorem Lall_c (h : St W w (aLg p dp g :: X)) : Calls Tryz.prog 31 #[.pointer (some ⟨p, 0, none⟩)] w fun e w' => ∃ b1 b2 A1 A2 c1 c2, e = .returned (.func (.func 71) #[] #[.pointer (some ⟨b1, 0, none⟩), .pointer (some ⟨b2, 0, none⟩)]) ∧ St W w' (aLg p dp g :: X) ∧ Its w' b1 b2 A1 A2 c1 c2 g.first g.L := by
  have h2 := aBlk.new (aBlk.new h 97 #[.slice none 0 0]) 63 #[.slice none 0 0]
  rw [World.size_alloc] at h2
  have H2 := Lib.hid (aPl.nil (h2.rowNil 2 1))
  have HN := Lib.hid (fun w' Y (hS : St W w' (aLg p dp g :: Y)) => Lnone_c hS)
  have HF := Lib.hid (fun w' Y (hS : St W w' (aLg p dp g :: Y)) => Lfirst_c hS)
  have HL := Lib.hid (fun w' Y (hS : St W w' (aLg p dp g :: Y)) => Llast_c hS)
  have HG := Lib.hid (fun w' Y i b (hi : g.L[i]? = some b) (hS : St W w' (aLg p dp g :: Y)) => Lget_c hS hi)
  obtain ⟨s, c, vL, hE, h1⟩ := aLg.open_ h
  have HE := Lib.hid hE
  clear h h2 h1 hE
  go_enter Tryz.func31, Tryz.ntmps31
  go_wp2_with (first
    | (go_at_call 64; (with_reducible refine (HN.out _ _ H2.out.rot5).mono ?_); rintro e w1 ⟨rfl, rfl⟩)
    | (go_at_call 26; (with_reducible refine (HF.out _ _ H2.out.rot5).mono ?_); rintro e w2 ⟨rfl, hb⟩; have H3 := Lib.hid (H2.out.later hb); clear hb))
  obtain ⟨b1, hb1⟩ : ∃ b1, w.heap.size = b1 := ⟨_, rfl⟩
  obtain ⟨b2, hb2⟩ : ∃ b2, b1 + 1 = b2 := ⟨_, rfl⟩
  rw [hb1, hb2] at H3
  rw [hb1, hb2]
  have hne : ¬ b1 = b2 := by omega
  obtain ⟨h1, h2, h3⟩ := HE.out
  have HLF := Lib.hid (show lastF g = g.first + (g.L.length : Int) - 1 from rfl)
  obtain ⟨l, hl⟩ : ∃ l, g.L.length = l := ⟨_, rfl⟩
  have HLL := Lib.hid hl
  rw [hl] at HLF h1
  obtain ⟨f, hf⟩ : ∃ f, g.first = f := ⟨_, rfl⟩
  rw [hf] at HLF HG h2 h3 ⊢
  have HLF2 := Lib.hid (HLF.out)
  rw [HLF2.out] at HL
  have HFF := Lib.hid hf
  clear hb1 hb2 hl hf HLF H2
  go_loopw [5] (fun i wr => ∃ (j : Nat) (vA vO : Value), j ≤ l ∧ i = .int .i64 (f + (j : Int)) ∧ Hid (St W wr (aLg p dp g :: aPl vO (g.L.take j) :: aRow 2 1 vA j (numsC f j) :: aBlk b2 63 #[vO] :: aBlk b1 97 #[vA] :: X))) (fun i _ => (f + (l : Int) - intOf i).toNat)
  case atStart => exact ⟨0, _, _, Nat.zero_le _, by simp, H3.out.rot5⟩
  case round =>
    obtain ⟨j, vA, vO, hj, rfl, HS⟩ := hrel
    by_cases hjl : j < l
    · obtain ⟨b, hbj⟩ : ∃ b, g.L[j]? = some b := ⟨_, List.getElem?_eq_getElem (by have := HLL.out; omega)⟩
      have HBJ := Lib.hid hbj
      have q1 : f + (j : Int) ≤ f + (l : Int) - 1 := by omega
      have hbig : b.length ≤ big := by
        obtain ⟨s, c, vL, _, hx⟩ := aLg.open_ HS.out
        obtain ⟨_, _, _, _, _, hy⟩ := aPl.at (St.rot3 hx) hbj
        exact hy.2
      have HBB := Lib.hid hbig
      clear hbj hbig
      go_wp2_with (first
        | (go_at_call 27; (with_reducible refine (HL.out _ _ HS.out).mono ?_); rintro e w3 ⟨rfl, hb⟩; have H4 := Lib.hid (HS.out.later hb); clear hb)
        | (go_at_call 22; (with_reducible refine (HG.out _ _ _ _ HBJ.out H4.out).mono ?_); rintro e w4 ⟨vb, rfl, hS⟩; obtain ⟨Ab, cb, rfl⟩ := hS.bySlice; have H5 := Lib.hid hS; clear hS))
      have z41 := (aBlk.get H5.out.rot6).lt
      have z42 := (aBlk.get H5.out.rot5).lt
      have k1 := (aBlk.get H5.out.rot6).cell 0
      have k2 := (aBlk.get H5.out.rot5).cell 0
      simp only [List.getElem?_toArray, List.getElem?_cons_zero] at k1 k2
      have o1 : ∀ x ∈ [Value.int .i64 (f + (j : Int))], x.oneCell' = true := by simp [Value.oneCell']
      have g1 : j + 1 ≤ maxLen := by unfold maxLen; omega
      have g2 : (j + 1) * 8 ≤ 140737488355328 := by omega
      have HA0 := Lib.hid H5.out.rot4
      have hb1 := (aBlk.new (HA0.out.later (B.alloc' w4 (.cells #[.int .i64 (f + (j : Int))] 2))) 22 #[.slice Ab b.length cb]).swap.later (Below.refl _ _).drew
      rw [World.size_alloc] at hb1
      have HB1 := Lib.hid hb1
      have HRB1 := Lib.hid ((Rd.one w4 (.int .i64 (f + (j : Int))) 2).later ((B.alloc' _ (.cells #[.slice Ab b.length cb] 22)).trans (Below.refl _ _).drew))
      have HB2 := Lib.hid ((aBlk.new HA0.out 22 #[.slice Ab b.length cb]).swap.later ((B.alloc' (w4.alloc (.cells #[.slice Ab b.length cb] 22)) (.cells #[.int .i64 (f + (j : Int))] 2)).trans (Below.refl _ _).drew))
      have hrb2 := (Rd.one (w4.alloc (.cells #[.slice Ab b.length cb] 22)) (.int .i64 (f + (j : Int))) 2).later (Below.refl _ _).drew
      rw [World.size_alloc] at hrb2
      have HRB2 := Lib.hid hrb2
      clear hb1 hrb2
      have HA := Lib.hid ((show St W w4.drew _ from H5.out.later (Below.refl _ _).drew).rot4)
      have HLT := Lib.hid (show (g.L.take j).length = j by rw [List.length_take]; have := HLL.out; omega)
      have hlt2 : (g.L.take j).length + 1 ≤ 1099511627776 := by have := HLT.out; omega
      have HLT2 := Lib.hid hlt2
      clear hlt2
      have HK := Lib.hid (fun w9 A8 c8 A9 c9 (hS : St W w9 (aPl (.slice A9 (j + 1) c9) (g.L.take j ++ [b]) :: aRow 2 1 (.slice A8 (j + 1) c8) (j + 1) (numsC f j ++ [.int .i64 (f + (j : Int))]) :: aLg p dp g :: aBlk b2 63 #[vO] :: aBlk b1 97 #[vA] :: X)) =>
        show St W ((w9.setCell ⟨b1, 0, none⟩ (.slice A8 (j + 1) c8)).setCell ⟨b2, 0, none⟩ (.slice A9 (j + 1) c9)) (aLg p dp g :: aPl (.slice A9 (j + 1) c9) (g.L.take (j + 1)) :: aRow 2 1 (.slice A8 (j + 1) c8) (j + 1) (numsC f (j + 1)) :: aBlk b2 63 #[.slice A9 (j + 1) c9] :: aBlk b1 97 #[.slice A8 (j + 1) c8] :: X) from by
        have h1 := aBlk.set hS.rot5 0 (.slice A8 (j + 1) c8)
        have h2 := aBlk.set h1.rot5 0 (.slice A9 (j + 1) c9)
        rw [numsC_succ, List.take_succ_eq_append_getElem (lt_of HBJ.out), show g.L[j]'(lt_of HBJ.out) = b from by
          have := HBJ.out
          rw [List.getElem?_eq_getElem (lt_of HBJ.out)] at this
          exact Option.some.inj this]
        exact h2.rot3.rot4.swap.rot5)
      go_region_law (first
        | (refine step_append_St (by rfl) (.tmp 25) (.tmp 27) 97 (by rfl) Tryz.underlying97 infoI64 rfl Nat.zero_lt_one (by rfl) (by rfl) (HA.out.later (B.alloc' _ _)) (Rd.one _ _ _) o1 g1 g2 ?_; intro A8 c8 w8 hS; have H8 := Lib.hid hS; clear k1 k2; have k1 := (aBlk.get hS.rot6).cell 0; have k2 := (aBlk.get hS.rot5).cell 0; have z1 := (aBlk.get hS.rot6).lt; have z2 := (aBlk.get hS.rot5).lt; simp only [List.getElem?_toArray, List.getElem?_cons_zero] at k1 k2; clear hS)
        | (refine step_append_St (by rfl) (.tmp 25) (.tmp 27) 97 (by rfl) Tryz.underlying97 infoI64 rfl Nat.zero_lt_one (by rfl) (by rfl) HB1.out HRB1.out o1 g1 g2 ?_; intro A8 c8 w8 hS; have H8 := Lib.hid hS; clear k1 k2; have k1 := (aBlk.get hS.swap.drop.rot6).cell 0; have k2 := (aBlk.get hS.swap.drop.rot5).cell 0; have z1 := (aBlk.get hS.swap.drop.rot6).lt; have z2 := (aBlk.get hS.swap.drop.rot5).lt; simp only [List.getElem?_toArray, List.getElem?_cons_zero] at k1 k2; clear hS)
        | (refine step_append_St (by rfl) (.tmp 25) (.tmp 27) 97 (by rfl) Tryz.underlying97 infoI64 rfl Nat.zero_lt_one (by rfl) (by rfl) HB2.out HRB2.out o1 g1 g2 ?_; intro A8 c8 w8 hS; have H8 := Lib.hid hS; clear k1 k2; have k1 := (aBlk.get hS.swap.drop.rot6).cell 0; have k2 := (aBlk.get hS.swap.drop.rot5).cell 0; have z1 := (aBlk.get hS.swap.drop.rot6).lt; have z2 := (aBlk.get hS.swap.drop.rot5).lt; simp only [List.getElem?_toArray, List.getElem?_cons_zero] at k1 k2; clear hS)
        | (obtain ⟨A9, c9, w9, hrun, hS⟩ := St.plAppendRd (ty := 63) (H8.out.later (B.alloc' w8 (.cells #[.slice Ab b.length cb] 22))).rot4.swap2 (Rd.one _ _ _) HBB.out HLT2.out; rw [HLT.out] at hrun hS; refine step_append_run (by rfl) (.tmp 29) (.tmp 31) 63 (by rfl) (by rfl) (by rfl) hrun ?_; have H9 := Lib.hid hS; clear k1 k2; have k1 := (aBlk.get hS.rot5).cell 0; have k2 := (aBlk.get hS.rot4).cell 0; have f1 := (aBlk.get hS.rot5).frozen 0; have f2 := (aBlk.get hS.rot4).frozen 0; simp only [List.getElem?_toArray, List.getElem?_cons_zero] at k1 k2; clear hS hrun)
        | (obtain ⟨A9, c9, w9, hrun, hS⟩ := St.plAppendRd (ty := 63) H8.out.swap.drop.rot4.swap2 (Rd.blk (aBlk.get H8.out.swap)) HBB.out HLT2.out; rw [HLT.out] at hrun hS; refine step_append_run (by rfl) (.tmp 29) (.tmp 31) 63 (by rfl) (by rfl) (by rfl) hrun ?_; have H9 := Lib.hid hS; clear k1 k2; have k1 := (aBlk.get hS.rot5).cell 0; have k2 := (aBlk.get hS.rot4).cell 0; have f1 := (aBlk.get hS.rot5).frozen 0; have f2 := (aBlk.get hS.rot4).frozen 0; simp only [List.getElem?_toArray, List.getElem?_cons_zero] at k1 k2; clear hS hrun))
      all_goals
        go_wp2_with fail
        go_roundw
        case rel => exact ⟨j + 1, _, _, by omega, by rw [show ((j + 1 : Nat) : Int) = (j : Int) + 1 from rfl]; simp [Int.add_assoc], HK.out _ _ _ _ _ H9.out⟩
        case measure => simp [intOf]; omega
    · obtain rfl : j = l := by omega
      have HS2 := Lib.hid HS.out
      have q1 : ¬ f + (j : Int) ≤ f + (j : Int) - 1 := by omega
      clear HS
      go_wp2_with (first
        | (go_at_call 27; (with_reducible refine (HL.out _ _ HS2.out).mono ?_); rintro e w3 ⟨rfl, hb⟩; have H4 := Lib.hid (HS2.out.later hb); clear hb))
      go_ret
      have h4 := H4.out
      rw [List.take_of_length_le (by have := HLL.out; omega)] at h4
      have k1 := (aBlk.get h4.rot5).cell 0
      have k2 := (aBlk.get h4.rot4).cell 0
      simp only [List.getElem?_toArray, List.getElem?_cons_zero] at k1 k2
      have hrow := h4.rot3
      obtain ⟨A1, c1, rfl⟩ := hrow.rowSlice
      obtain ⟨A2, c2, rfl⟩ := aPl.slice h4.swap
      rw [HFF.out]
      refine ⟨b1, b2, A1, A2, c1, c2, rfl, h4.swap.drop.swap.drop.swap.drop.swap.drop, ?_⟩
      · refine ⟨by rw [HLL.out]; exact k1, k2, by have := HLL.out; omega, fun i hi => ?_, fun i b hi => ?_⟩
        · obtain ⟨g1, rfl⟩ := hrow.rowNSome (by have := HLL.out; omega)
          exact ⟨g1, rfl, hrow.rowN (numsC_get f (by have := HLL.out; omega))⟩
        · obtain ⟨gl, c3, u, hv, k3, r3⟩ := aPl.at h4.swap hi
          injection hv with e1 e2 e3
          subst e1
          exact ⟨gl, u, rfl, k3, r3⟩
end
end Go.Proofs.YtnpjfjgnhadmjaaGreatDoor

/- The walk of 'burst'. -/
namespace Go.Proofs.YtnpjfjgnhadmjaaGreatDoor
open Go.RowKit Go.Deep Go.Maps
set_option linter.unusedVariables false

theorem xor8 (x : UInt8) {km : Nat} (h : km < 8) : bits BinOp.xor IntKind.u8 (x.toNat : Int) (IntKind.u8.wrap (2 ^ km)) = ((x ^^^ UInt8.ofNat (2 ^ km)).toNat : Int) := by
  have h2 : 2 ^ km < 256 := Nat.lt_of_lt_of_le (Nat.pow_lt_pow_right (by omega) h) (by decide)
  have hx := x.toNat_lt
  have e1 : IntKind.u8.wrap (2 ^ km) = ((2 ^ km : Nat) : Int) := by
    rw [show ((2 : Int) ^ km) = ((2 ^ km : Nat) : Int) by simp]
    generalize 2 ^ km = m at *
    simp [IntKind.wrap, IntKind.signed, IntKind.bits]
    omega
  rw [e1]
  have e0 : bits BinOp.xor IntKind.u8 (x.toNat : Int) ((2 ^ km : Nat) : Int) = IntKind.u8.wrap (((BitVec.ofInt 8 (x.toNat : Int) ^^^ BitVec.ofInt 8 ((2 ^ km : Nat) : Int)).toNat : Nat) : Int) := rfl
  rw [e0, BitVec.ofInt_natCast, BitVec.ofInt_natCast, BitVec.toNat_xor, BitVec.toNat_ofNat, BitVec.toNat_ofNat, UInt8.toNat_xor, UInt8.toNat_ofNat', Nat.mod_eq_of_lt (a := x.toNat) (by omega), Nat.mod_eq_of_lt (a := 2 ^ km) (by omega)]
  have h3 : x.toNat ^^^ 2 ^ km < 2 ^ 8 := Nat.xor_lt_two_pow (by omega) (by omega)
  generalize x.toNat ^^^ 2 ^ km = y at *
  simp [IntKind.wrap, IntKind.signed, IntKind.bits]
  omega
theorem xor8m (x : UInt8) {km : Nat} (h : km < 8) : bits BinOp.xor IntKind.u8 (x.toNat : Int) (2 ^ km % 256) = ((x ^^^ UInt8.ofNat (2 ^ km)).toNat : Int) := by
  have := xor8 x h
  rw [show IntKind.u8.wrap ((2 : Int) ^ km) = 2 ^ km % 256 by simp [IntKind.wrap, IntKind.signed, IntKind.bits]] at this
  exact this
theorem flip_mid {pre M post : List UInt8} {k : Nat} (h : k / 8 < M.length) : (pre ++ M ++ post).set (pre.length + k / 8) ((pre ++ M ++ post).getD (pre.length + k / 8) 0 ^^^ UInt8.ofNat (2 ^ (k % 8))) = pre ++ flip M k ++ post := by
  have e : (pre ++ M ++ post).getD (pre.length + k / 8) 0 = M.getD (k / 8) 0 := by
    simp only [List.getD_eq_getElem?_getD]
    rw [List.append_assoc, List.getElem?_append_right (by omega), Nat.add_sub_cancel_left, List.getElem?_append_left h]
  rw [e]
  unfold flip
  rw [List.append_assoc, List.set_append_right _ _ (by omega), Nat.add_sub_cancel_left, List.set_append_left _ _ h, List.append_assoc]
theorem cellsB_set (V : List UInt8) (z : Nat) (y : UInt8) : (cellsB V).set z (.int .u8 (y.toNat : Int)) = cellsB (V.set z y) := by
  unfold cellsB
  rw [List.map_set]
theorem turnedF_succ (N f : Nat) (bs : BitVec 32) (q : Nat) : turnedF N f bs (q + 1) = if hitB N f bs q then true else turnedF N f bs q := rfl
theorem flips_succ (l : List UInt8) (f : Nat) (bs : BitVec 32) (q : Nat) : flips l f bs (q + 1) = if hitB (8 * l.length) f bs q then flip (flips l f bs q) (f + q) else flips l f bs q := rfl
theorem bitW (bs : BitVec 32) (q : Nat) : (bits BinOp.and IntKind.u32 ((bs.toNat : Int) / 2 ^ q) 1 == 1) = bs.getLsbD q := by
  have h := andW (bs >>> q)
  rw [shrW] at h
  rw [show ((bs.toNat : Int) / 2 ^ q) = ((bs.toNat / 2 ^ q : Nat) : Int) by simp, h, BitVec.getLsbD, Nat.testBit_eq_decide_div_mod_eq]
  have : bs.toNat / 2 ^ q % 2 = 0 ∨ bs.toNat / 2 ^ q % 2 = 1 := by omega
  rcases this with e | e <;> rw [e] <;> rfl
section
variable {W w : World} {X : List Asn} {v : Value} {pre R post : List UInt8} {at_ : Nat} {bs : BitVec 32}
set_option maxRecDepth 20000 in
set_option maxHeartbeats 4000000 in
theorem burst_c (h : St W w (aBy v (pre ++ R ++ post) :: X)) (hl : (pre ++ R ++ post).length ≤ 1048576) (hR : 4 ≤ R.length) (ha : at_ < 4294967296) :
    Calls Tryz.prog 35 #[v, .int .i64 (pre.length : Int), .int .i64 ((pre.length + R.length : Nat) : Int), .int .u32 (at_ : Int), .int .u32 (bs.toNat : Int)] w fun e w' => e = .returned (.bool (turnedF (8 * R.length) (at_ % (8 * R.length)) bs 32)) ∧ St W w' (aBy v (pre ++ flips R (at_ % (8 * R.length)) bs 32 ++ post) :: X) := by
  have H0 := Lib.hid h
  obtain ⟨A, c, rfl⟩ := h.bySlice
  obtain ⟨L, hL⟩ : ∃ L, (pre ++ R ++ post).length = L := ⟨_, rfl⟩
  have HL := Lib.hid hL
  have hLe : pre.length + R.length + post.length = L := by rw [← hL]; simp; omega
  rw [hL] at hl ⊢
  obtain ⟨p, hp⟩ : ∃ p, pre.length = p := ⟨_, rfl⟩
  obtain ⟨r, hr⟩ : ∃ r, R.length = r := ⟨_, rfl⟩
  have HP := Lib.hid hp
  have HR := Lib.hid hr
  rw [hp, hr] at hLe
  rw [hr] at hR ⊢
  rw [hp]
  obtain ⟨N, hN⟩ : ∃ N, 8 * r = N := ⟨_, rfl⟩
  have HN := Lib.hid hN
  rw [hN]
  have hN1 : 32 ≤ N ∧ N ≤ 8388608 := by omega
  obtain ⟨f, hf⟩ : ∃ f, at_ % N = f := ⟨_, rfl⟩
  have HF := Lib.hid hf
  rw [hf]
  have hfN : f < N := by rw [← hf]; exact Nat.mod_lt _ (by omega)
  have hpr : p + r ≤ 1048576 := by omega
  have hE0 : ((p + r : Nat) : Int) ≤ 1048576 := by omega
  obtain ⟨E, hE⟩ : ∃ E : Int, ((p + r : Nat) : Int) = E := ⟨_, rfl⟩
  rw [hE] at hE0 ⊢
  have q0 : E - (p : Int) = (r : Int) := by omega
  have q1 : 8 * (r : Int) = (N : Int) := by omega
  have q2 : (at_ : Int) % (N : Int) = (f : Int) := by omega
  clear h hL hp hr hN hf hLe hE
  go_enter Tryz.func35, Tryz.ntmps35
  go_wp2_with fail
  rw [q2]
  go_loopw [13, 24] (fun tu i wr => ∃ q : Nat, q ≤ 32 ∧ i = .int .i64 (q : Int) ∧ tu = .bool (turnedF N f bs q) ∧ Hid (St W wr (aBy (.slice A L c) (pre ++ flips R f bs q ++ post) :: X))) (fun _ i _ => 32 - (intOf i).toNat)
  case atStart => exact ⟨0, by omega, rfl, rfl, by have := H0.out; rw [HL.out] at this; exact this⟩
  case round =>
    obtain ⟨q, hq, rfl, rfl, HS⟩ := hrel
    by_cases hq2 : q < 32
    · by_cases h1 : f + q < N
      · have h1i : (f : Int) + (q : Int) < (N : Int) := by omega
        cases h2 : bs.getLsbD q with
        | false =>
          have hT := bitW bs q
          rw [h2] at hT
          have HH := Lib.hid (show hitB N f bs q = false by unfold hitB; rw [h2]; simp)
          clear h2
          go_wp2_with fail
          go_roundw
          case rel =>
            refine ⟨q + 1, by omega, by go_num, by rw [turnedF_succ, HH.out]; rfl, ?_⟩
            have := HS.out
            rw [flips_succ, HR.out, HN.out, HH.out]
            exact this
          case measure => simp [intOf]; omega
        | true =>
          have hT := bitW bs q
          rw [h2] at hT
          have HH := Lib.hid (show hitB N f bs q = true by unfold hitB; rw [h2]; simp [h1])
          obtain ⟨k, hk⟩ : ∃ k : Nat, f + q = k := ⟨_, rfl⟩
          have HK := Lib.hid hk
          have q3 : (f : Int) + (q : Int) = (k : Int) := by omega
          rw [hk] at h1
          rw [q3] at h1i
          clear h2 hk
          obtain ⟨V, hV⟩ : ∃ V, pre ++ flips R f bs q ++ post = V := ⟨_, rfl⟩
          have HV := Lib.hid hV
          have hVl : V.length = L := by rw [← hV, ← HL.out]; simp [flips_len]
          rw [hV] at HS
          have hS := HS.out
          obtain ⟨kd, hkd⟩ : ∃ kd, k / 8 = kd := ⟨_, rfl⟩
          obtain ⟨km, hkm⟩ : ∃ km, k % 8 = km := ⟨_, rfl⟩
          obtain ⟨z, hz⟩ : ∃ z, p + kd = z := ⟨_, rfl⟩
          have HKD := Lib.hid hkd
          have HKM := Lib.hid hkm
          have HZ := Lib.hid hz
          have hrl : 8 * r = N := HN.out
          have hzL : z < L := by
            have h5 : p + r ≤ L := by
              have := HL.out
              simp at this
              have h7 := HP.out
              have h8 := HR.out
              omega
            omega
          unfold aBy at hS
          rw [hVl] at hS
          obtain ⟨g, rfl⟩ := hS.rowNSome (by omega)
          have hx : V[z]? = some V[z] := List.getElem?_eq_getElem (by omega)
          obtain ⟨x, hxx⟩ : ∃ x, V[z]'(by omega) = x := ⟨_, rfl⟩
          rw [hxx] at hx
          have HXZ := Lib.hid hx
          have k0 := hS.rowN (j := z) (x := .int .u8 (x.toNat : Int)) (by simp [cellsB, hx])
          have f0 := hS.rowFree z
          have HSS := Lib.hid hS
          have e1 : (k : Int) / 8 = (kd : Int) := by omega
          have e2 : (k : Int) % 8 = (km : Int) := by omega
          have e3 : (p : Int) + (kd : Int) = (z : Int) := by omega
          have e4 : (k : Int).tdiv 8 = (kd : Int) := by rw [Int.tdiv_eq_ediv_of_nonneg (by omega)]; exact e1
          have e5 : (k : Int).tmod 8 = (km : Int) := by rw [Int.tmod_eq_emod_of_nonneg (by omega)]; exact e2
          have e6 : IntKind.i64.wrap (kd : Int) = (kd : Int) := IntWalk.i64_in _ (by omega)
          have e7 : IntKind.i64.wrap (km : Int) = (km : Int) := IntWalk.i64_in _ (by omega)
          have e8 : IntKind.i64.wrap (z : Int) = (z : Int) := IntWalk.i64_in _ (by omega)
          have hzi : (z : Int) < (L : Int) := by omega
          have hkm8 : km < 8 := by omega
          clear hS hkd hkm hz hx hxx hV hVl
          go_wp2_with fail
          go_region_law (fail)
          have hS2 := HSS.out.rowSet (j := z) (by omega) (.int .u8 ((x ^^^ UInt8.ofNat (2 ^ km)).toNat : Int))
          rw [cellsB_set] at hS2
          have e9 : V.set z (x ^^^ UInt8.ofNat (2 ^ km)) = pre ++ flips R f bs (q + 1) ++ post := by
            rw [flips_succ, HR.out, HN.out, HH.out, if_pos rfl, HK.out, ← flip_mid (by rw [flips_len, HR.out]; have := HKD.out; omega), HV.out, HKD.out, HKM.out, HP.out, HZ.out]
            simp only [List.getD_eq_getElem?_getD]
            rw [HXZ.out]
            rfl
          have e10 : (pre ++ flips R f bs (q + 1) ++ post).length = L := by rw [← HL.out]; simp [flips_len]
          rw [e9] at hS2
          have HS2 := Lib.hid (show St W _ (aBy (.slice (some ⟨g, 0, none⟩) L c) (pre ++ flips R f bs (q + 1) ++ post) :: X) from by unfold aBy; rw [e10]; exact hS2)
          have HX8 := Lib.hid (xor8m x hkm8)
          clear hS2 e9 e10
          go_wp2_with fail
          go_roundw
          case rel =>
            refine ⟨q + 1, by omega, by go_num, by rw [turnedF_succ, HH.out]; rfl, ?_⟩
            rw [HX8.out]
            exact HS2.out.later (Below.refl _ _).drew
          case measure => simp [intOf]; omega
      · have h1i : ¬ (f : Int) + (q : Int) < (N : Int) := by omega
        have HH := Lib.hid (show hitB N f bs q = false by unfold hitB; simp [h1])
        go_wp2_with fail
        go_roundw
        case rel =>
          refine ⟨q + 1, by omega, by go_num, by rw [turnedF_succ, HH.out]; rfl, ?_⟩
          have := HS.out
          rw [flips_succ, HR.out, HN.out, HH.out]
          exact this
        case measure => simp [intOf]; omega
    · obtain rfl : q = 32 := by omega
      go_wp2_with fail
      go_ret
      exact ⟨rfl, HS.out⟩
end
end Go.Proofs.YtnpjfjgnhadmjaaGreatDoor

/- A log's file in plain Lean; maps under numbers; lists of byte strings among the arguments. -/
namespace Go.Proofs.YtnpjfjgnhadmjaaGreatDoor
open Go.ChangeShapes Go.WideShapes Go.ChangeAt Go.RowKit Go.Maps Go.Deep
set_option linter.unusedVariables false

/-- the slice value v reads as the byte strings L; all that is read lies in blocks of 'inn' -/
def Lss (inn : Nat → Prop) (w : World) (v : Value) (L : List (List UInt8)) : Prop :=
  ∃ (A : Option Addr) (cap : Nat), v = .slice A L.length cap ∧ (A = none → L.length = 0 ∧ cap = 0) ∧ L.length ≤ cap ∧ cap ≤ maxLen ∧ (0 < L.length → ∃ b off, A = some ⟨b, off, none⟩ ∧ b < w.heap.size ∧ inn b ∧
    ∀ i x, L[i]? = some x → ∃ u, w.cell? ⟨b, off + i, none⟩ = some u ∧ Bs w u x ∧ ∀ g, u.ownBlock = some g → x ≠ [] → inn g)
theorem Lss.ext {inn own : Nat → Prop} {w w' : World} {v : Value} {L : List (List UInt8)} (h : Lss inn w v L) (hb : Ext own w w') (hd : ∀ g, inn g → ¬ own g) : Lss inn w' v L := by
  obtain ⟨A, cap, rfl, hn, hc, hm, hr⟩ := h
  refine ⟨A, cap, rfl, hn, hc, hm, fun h0 => ?_⟩
  obtain ⟨b, off, rfl, hb1, hi, hx⟩ := hr h0
  refine ⟨b, off, rfl, Nat.lt_of_lt_of_le hb1 hb.size, hi, fun i x hix => ?_⟩
  obtain ⟨u, h1, h2, h3⟩ := hx i x hix
  exact ⟨u, hb.cell (hd b hi) h1, h2.ext hb (fun g hg hne => hd g (h3 g hg hne)), h3⟩
theorem Lss.later {inn : Nat → Prop} {w w' : World} {v : Value} {L : List (List UInt8)} (h : Lss inn w v L) (hb : B w w') : Lss inn w' v L := h.ext (Ext.of_B (own := fun _ => False) hb) (fun _ _ => id)
section
variable {H : Type} {enc : TypeId × Value → H} {P : Program} {w : World} {base : Nat} {held : Bool} {spare : Nat → Bool}
/-- how much a list of byte strings holds -/
def bulkL (L : List (List UInt8)) : Nat := (L.map (fun x => x.length + 1)).sum
theorem open_bssU {r : Reach} {b0 : Nat} {T t e : TypeId} {v : Value} {d : DataW H} {p : List MemPlace} (hT : P.underlying T = some (.slice t)) (ht : P.underlying t = some (.slice e)) (he : P.underlying e = some (.int .u8)) (hCt : P.cellsOf t = 1) (hC : P.cellsOf e = 1)
    (hv : Value.okWide P w r b0 T v) (h : DataW.Trod enc P w base spare held T v d p) (hB : Rows.uptoBulk d ≤ 1048576) : ∃ L, Lss (fun g => g < w.heap.size) w v L ∧ bulkL L + 1 ≤ Rows.uptoBulk d := by
  obtain ⟨A, len, cap, rfl⟩ := okWide_slice hT hv
  obtain ⟨fuel, hf⟩ := h
  rcases open_slice1 hT hCt hf with ⟨h2, h3⟩ | ⟨a, len', cap', m, n, V, D, Pl, hcs, hb, hl, hm, hmm, hx, hi⟩
  · simp [Value.cells] at h2
    obtain ⟨rfl, rfl, rfl⟩ := h2
    exact ⟨[], ⟨none, 0, rfl, fun _ => ⟨rfl, rfl⟩, Nat.le_refl _, by unfold maxLen; omega, fun h => by simp at h⟩, by have := bulk_one d; simpa [bulkL] using this⟩
  · simp [Value.cells] at hcs
    obtain ⟨rfl, rfl, rfl⟩ := hcs
    have hlm : len ≤ m := by rw [hmm]; split <;> omega
    simp only [Prod.mk.injEq] at hx
    have hall : Rows.uptoBulkAll ((List.range len).map D) + 1 ≤ Rows.uptoBulk d := by rw [hx.1, ← bulk_slice]; omega
    have hat : ∀ i, i < len → Rows.uptoBulk (D i) ≤ Rows.uptoBulkAll ((List.range len).map D) := by
      intro i hil
      have : ∀ (l : List (DataW H)) (y : DataW H), y ∈ l → Rows.uptoBulk y ≤ Rows.uptoBulkAll l := by
        intro l y hy
        induction l with
        | nil => cases hy
        | cons z r ih =>
          simp only [Rows.uptoBulkAll]
          rcases List.mem_cons.1 hy with e | e
          · subst e; omega
          · have := ih e; omega
      exact this _ _ (List.mem_map.2 ⟨i, by simpa using hil, rfl⟩)
    obtain ⟨L, hLl, hL⟩ := list_choose (P := fun i (x : List UInt8) => (∃ u, w.cell? (a.add i) = some u ∧ Bs w u x) ∧ x.length + 1 ≤ Rows.uptoBulk (D i)) len (fun i hil => by
      obtain ⟨hc, htr⟩ := hi i (by omega)
      obtain ⟨bs, hbs, hbl⟩ := bs_upto ht he hC htr (by have := hat i hil; show Rows.uptoBulk (D i) ≤ _; omega)
      exact ⟨bs, ⟨V i, hc, hbs⟩, hbl⟩)
    refine ⟨L, ⟨some a, cap, by rw [hLl], fun h => (by cases h), by omega, hm, fun hn => ?_⟩, ?_⟩
    · obtain ⟨⟨u0, z, _⟩, _⟩ := hL 0 _ (List.getElem?_eq_getElem hn)
      have za : a = ⟨a.block, a.off, none⟩ := by
        have := cell_spot z
        simp [Addr.add] at this
        exact this
      have hblt := World.block_lt_of_cell? w _ z
      rw [block_of_add] at hblt
      refine ⟨a.block, a.off, by rw [← za], hblt, hblt, fun i x hx => ?_⟩
      obtain ⟨⟨u, h1, h2⟩, _⟩ := hL i x hx
      rw [za, addr_add] at h1
      exact ⟨u, h1, h2, fun g hg hne => h2.lt hne hg⟩
    · have := bulk_sum (fun x : List UInt8 => x.length + 1) L ((List.range len).map D) (by simp [hLl]) (fun i x d hx hd => by
        have hil : i < len := by
          rcases Nat.lt_or_ge i L.length with h | h
          · omega
          · rw [List.getElem?_eq_none h] at hx; cases hx
        rw [List.getElem?_map, List.getElem?_range hil] at hd
        cases hd
        exact (hL i x hx).2)
      unfold bulkL
      omega
end
/-- a map as an object, whatever its elements -/
def aMapR (P : Program) (k : TypeId) (R : Value → Option (DataW Unit × List MemPlace)) (m : Nat) (D : DataW Unit) : Asn where
  at_ own w := own m ∧ ∃ n, w.ownsMap P k R m n D
  ext h hx hd := by
    obtain ⟨h1, n, es, clock, hb, r⟩ := h
    exact ⟨h1, n, es, clock, (hx.block m (Array.getElem?_eq_some_iff.1 hb).1 (hd _ h1)).trans hb, r⟩
  bound h := by
    obtain ⟨h1, n, h2⟩ := h
    exact ⟨⟨h1, h2.lt⟩, n, h2⟩
section
variable {W w : World} {P : Program} {k e T : TypeId} {R : Value → Option (DataW Unit × List MemPlace)} {m : Nat} {D : DataW Unit} {L : List Asn}
theorem aMapR.new (h : St W w L) : St W (w.alloc (.map #[] 0)) (aMapR P k R w.heap.size (.map []) :: L) :=
  h.add (B.alloc' _ _) (A := aMapR P k R w.heap.size (.map [])) (own := fun x => x = w.heap.size) ⟨rfl, 0, World.ownsMap_made w P k R⟩ (fun x e => by omega)
theorem aMapR.look (h : St W w (aMapR P k R m D :: L)) (K : Keyed P k) (ht : P.underlying T = some (.map k e)) {z : Value} (hz : (zeroValue e).run P w = .ok z w) {zd : DataW Unit} {zp : List MemPlace} (hzd : R z = some (zd, zp)) {key : Value} {kl : Lit} (hkey : keyOf P k key = some kl) :
    ∃ v ps, (Instr.lookup T (.map (some m)) key false).run P w = .ok v w ∧ R v = some (D.atKey kl zd, ps) := by
  obtain ⟨own, ⟨h1, n, hn⟩, _⟩ := h.get
  exact hn.lookup K ht hz hzd hkey
theorem aMapR.store (h : St W w (aMapR P k R m D :: L)) {N : Nat} (hD : ∃ E, D = .map E ∧ E.length ≤ N) (hN : N < maxLen) (K : Keyed P k) (ht : P.underlying T = some (.map k e)) {key val : Value} {kl : Lit} {d : DataW Unit} {ps : List MemPlace} (hkey : keyOf P k key = some kl) (hv : R val = some (d, ps)) :
    ∃ w', (Instr.mapUpdate T (.map (some m)) key val).run P w = .ok () w' ∧ St W w' (aMapR P k R m (D.put kl d) :: L) ∧ ∃ E, D.put kl d = .map E ∧ E.length ≤ N + 1 := by
  obtain ⟨own, ⟨h1, n, h2⟩, ho, hback⟩ := h.focus
  obtain ⟨E, rfl, hE⟩ := hD
  obtain ⟨w', r1, r2, r3⟩ := (ownsMap_tight h2).store K ht (by omega) hkey hv
  refine ⟨w', r1, hback w' (aMapR P k R m _) (Ext.of_grown r3.grown (fun x hx => by injection hx with hx; rw [← hx]; exact h1)) ⟨.inl h1, _, r2⟩, ?_⟩
  refine ⟨_, rfl, ?_⟩
  have := List.length_filter_le (fun p : Lit × DataW Unit => !p.1.sameKey kl) E
  rw [length_insert]
  omega
end
/-- slices, told whole -/
def valAt : Value → Option (DataW Unit × List MemPlace)
  | .slice none l c => some (.agg [.nil, .lit (.int .i64 (l : Int)), .lit (.int .i64 (c : Int))], [])
  | .slice (some ⟨g, o, none⟩) l c => some (.agg [.lit (.int .i64 (g : Int)), .lit (.int .i64 (o : Int)), .lit (.int .i64 (l : Int)), .lit (.int .i64 (c : Int))], [])
  | .slice (some ⟨g, o, some s⟩) l c => some (.agg [.lit (.int .i64 (g : Int)), .lit (.int .i64 (o : Int)), .lit (.int .i64 (s : Int)), .lit (.int .i64 (l : Int)), .lit (.int .i64 (c : Int))], [])
  | _ => none
theorem valAt_inj {v u : Value} {y : DataW Unit} {p q : List MemPlace} (h : valAt v = some (y, p)) (k : valAt u = some (y, q)) : v = u := by
  unfold valAt at h k
  split at h <;> split at k <;> simp_all
  all_goals
    obtain ⟨h1, _⟩ := h
    obtain ⟨k1, _⟩ := k
    rw [← h1] at k1
    simp at k1 <;> first
      | omega
      | (simp_all; done)
      | (simp_all; omega)
theorem i64Law : Keyed Tryz.prog 2 := int_keyed Tryz.underlying2
theorem keyI {n : Int} (h : -9223372036854775808 ≤ n ∧ n ≤ 9223372036854775807) : keyOf Tryz.prog 2 (.int .i64 n) = some (.int .i64 n) :=
  keyOf_int_mk Tryz.underlying2 (by simp [Lit.wf, IntKind.min, IntKind.max, IntKind.signed, IntKind.bits]; omega)
theorem zeroBy (w : World) : (zeroValue 22).run Tryz.prog w = .ok (.slice none 0 0) w := by kernel_rfl
abbrev aM64 (m : Nat) (D : DataW Unit) : Asn := aMapR Tryz.prog 2 valAt m D
/-! the file of a log whose records are R -/
def bodyR (R : List (List UInt8)) : List UInt8 := R.flatMap frameF
def fileD (R : List (List UInt8)) : List UInt8 := headF 1 ++ bodyR R
theorem bodyR_app (R S : List (List UInt8)) : bodyR (R ++ S) = bodyR R ++ bodyR S := by simp [bodyR]
theorem fileD_snoc (R : List (List UInt8)) (b : List UInt8) : fileD (R ++ [b]) = fileD R ++ frameF b := by
  unfold fileD; rw [bodyR_app]; simp [bodyR]
theorem fileD_nil : fileD [] = headF 1 := by simp [fileD, bodyR]
theorem framesF_body : ∀ (R : List (List UInt8)) (rest : List UInt8), (∀ b ∈ R, b.length ≤ 524288) → framesF (bodyR R ++ rest) = R.map (fun b => (b, (frameF b).length)) ++ framesF rest
  | [], rest, _ => by simp [bodyR]
  | b :: R, rest, h => by
    have hb := h b (by simp)
    have e : bodyR (b :: R) ++ rest = frameF b ++ (bodyR R ++ rest) := by simp [bodyR]
    rw [e, framesF_some (unframe_frame hb)]
    simp only [List.drop_left]
    rw [framesF_body R rest (fun x hx => h x (by simp [hx]))]
    rfl
theorem head_body (x : List UInt8) : (headF 1 ++ x).drop 6 = x := by rw [← head1_len, List.drop_left]
def lgD (R : List (List UInt8)) : Lg := ⟨nLog, 4194304, 0, 1, 1, ((fileD R).length : Int), R⟩
theorem lgD_nil : lgD [] = lg0 nLog 4194304 0 := by unfold lgD lg0; rw [fileD_nil, head1_len]; rfl
theorem lgD_add (R : List (List UInt8)) (b : List UInt8) : (lgD R).add b = lgD (R ++ [b]) := by
  unfold lgD Lg.add; simp only; rw [fileD_snoc, List.length_append]; simp
theorem lgD_last (R : List (List UInt8)) : lastF (lgD R) = (R.length : Int) := by unfold lastF lgD; simp only; omega
/-- where each record ends -/
def endsC (R : List (List UInt8)) : List Value := (List.range R.length).map fun i : Nat => Value.int .i64 ((fileD (R.take (i + 1))).length : Int)
theorem endsC_len (R : List (List UInt8)) : (endsC R).length = R.length := by simp [endsC]
theorem endsC_snoc (R : List (List UInt8)) (b : List UInt8) : endsC (R ++ [b]) = endsC R ++ [.int .i64 ((fileD (R ++ [b])).length : Int)] := by
  unfold endsC
  rw [List.length_append, List.length_singleton, List.range_succ, List.map_append]
  congr 1
  · apply List.map_congr_left
    intro i hi
    have : i < R.length := by simpa using hi
    rw [List.take_append_of_le_length (by omega)]
  · rw [List.map_singleton, List.take_of_length_le (by simp)]
theorem endsC_get (R : List (List UInt8)) {k : Nat} (h : k < R.length) : (endsC R)[k]? = some (.int .i64 ((fileD (R.take (k + 1))).length : Int)) := by
  simp [endsC, h]
/-- the file cut at a record: ahead of its bytes, its bytes and its sum, behind -/
def preD (R : List (List UInt8)) (k : Nat) (b : List UInt8) : List UInt8 := fileD (R.take k) ++ enc b.length
def midD (b : List UInt8) : List UInt8 := b ++ le4 (sumF (bodyF b))
def postD (R : List (List UInt8)) (k : Nat) : List UInt8 := bodyR (R.drop (k + 1))
theorem file_cut {R : List (List UInt8)} {k : Nat} {b : List UInt8} (h : R[k]? = some b) : fileD R = preD R k b ++ midD b ++ postD R k := by
  have hk := lt_of h
  have e : R = R.take k ++ b :: R.drop (k + 1) := by
    have h2 : R[k] = b := by rw [List.getElem?_eq_getElem hk] at h; exact Option.some.inj h
    rw [← h2, List.getElem_cons_drop]
    exact (List.take_append_drop k R).symm
  conv => lhs; rw [e]
  unfold fileD preD midD postD fileD
  rw [bodyR_app, show bodyR (b :: R.drop (k + 1)) = frameF b ++ bodyR (R.drop (k + 1)) by simp [bodyR], frame_eq]
  simp
theorem file_end {R : List (List UInt8)} {k : Nat} {b : List UInt8} (h : R[k]? = some b) : fileD (R.take (k + 1)) = preD R k b ++ midD b := by
  have hk := lt_of h
  have h2 : R[k] = b := by rw [List.getElem?_eq_getElem hk] at h; exact Option.some.inj h
  rw [List.take_succ_eq_append_getElem hk, h2, fileD_snoc, frame_eq]
  unfold preD midD
  simp
theorem mid_len (b : List UInt8) : (midD b).length = b.length + 4 := by simp [midD, le4]
/-- the file with a burst -/
def hurtD (R : List (List UInt8)) (k : Nat) (b : List UInt8) (f : Nat) (bs : BitVec 32) : List UInt8 := preD R k b ++ flips (midD b) f bs 32 ++ postD R k
theorem hurt_len {R : List (List UInt8)} {k : Nat} {b : List UInt8} {f : Nat} {bs : BitVec 32} (h : R[k]? = some b) : (hurtD R k b f bs).length = (fileD R).length := by
  rw [file_cut h]; unfold hurtD; simp [flips_len]
theorem hurt_none {R : List (List UInt8)} {k : Nat} {b : List UInt8} {f : Nat} {bs : BitVec 32} (h : R[k]? = some b) (ht : turnedF (8 * (b.length + 4)) f bs 32 = false) : hurtD R k b f bs = fileD R := by
  rw [file_cut h]; unfold hurtD
  rw [turned_none (by rw [mid_len]; exact ht)]
theorem hurt_head (R : List (List UInt8)) (k : Nat) (b : List UInt8) (f : Nat) (bs : BitVec 32) : hurtD R k b f bs = headF 1 ++ (bodyR (R.take k) ++ (enc b.length ++ flips (midD b) f bs 32 ++ postD R k)) := by
  unfold hurtD preD fileD; simp
theorem hurt_frames {R : List (List UInt8)} {k : Nat} {b : List UInt8} {f : Nat} {bs : BitVec 32} (hR : ∀ b ∈ R, b.length ≤ 524288) (h : R[k]? = some b) (ht : turnedF (8 * (b.length + 4)) f bs 32 = true) :
    framesF ((hurtD R k b f bs).drop 6) = (R.take k).map (fun b => (b, (frameF b).length)) := by
  rw [hurt_head, head_body, framesF_body _ _ (fun x hx => hR x (List.mem_of_mem_take hx)), framesF_none (show unframeF (enc b.length ++ flips (midD b) f bs 32 ++ postD R k) = none from frame_flips (hR b (List.mem_of_getElem? h)) ht), List.append_nil]
theorem file_frames {R : List (List UInt8)} (hR : ∀ b ∈ R, b.length ≤ 524288) : framesF ((fileD R).drop 6) = R.map (fun b => (b, (frameF b).length)) := by
  unfold fileD
  have := framesF_body R [] hR
  rw [List.append_nil] at this
  rw [head_body, this, framesF_none unframe_nil, List.append_nil]
/-- the log of a file of such frames -/
theorem lg_of {B : List UInt8} {S : List (List UInt8)} (h : framesF (B.drop 6) = S.map (fun b => (b, (frameF b).length))) : (lgOpen nLog 4194304 B 1 6).L = S ∧ (lgOpen nLog 4194304 B 1 6).first = 1 ∧ lastF (lgOpen nLog 4194304 B 1 6) = (S.length : Int) := by
  have e : (framesF (B.drop 6)).map (·.1) = S := by rw [h, List.map_map]; exact List.map_id' S
  refine ⟨e, rfl, ?_⟩
  unfold lastF lgOpen lgOf
  simp only
  rw [e]; omega
/-- what 'had' says -/
structure HadN (W : World) (R : List (List UInt8)) (D : DataW Unit) : Prop where
  had : ∀ (i : Nat) (b : List UInt8), R[i]? = some b → ∃ v y, valAt v = some (y, []) ∧ (∀ z, D.atKey (.int .i64 (1 + (i : Int))) z = y) ∧ Bs W v b
  e1 : ∃ E, D = .map E ∧ E.length ≤ R.length
theorem HadN.start (W : World) : HadN W [] (.map []) := ⟨fun i b h => by simp at h, _, rfl, Nat.le_refl _⟩
theorem HadN.step {W : World} {R : List (List UInt8)} {D : DataW Unit} (h : HadN W R D) {v : Value} {b : List UInt8} {y : DataW Unit} (hv : valAt v = some (y, [])) (hb : Bs W v b) (h1 : ∃ E, D.put (.int .i64 (1 + (R.length : Int))) y = .map E ∧ E.length ≤ R.length + 1) :
    HadN W (R ++ [b]) (D.put (.int .i64 (1 + (R.length : Int))) y) := by
  obtain ⟨a1, E, eE, _⟩ := h
  refine ⟨fun i c hc => ?_, by rw [List.length_append]; exact h1⟩
  by_cases e : i = R.length
  · subst e
    rw [List.getElem?_append_right (Nat.le_refl _), Nat.sub_self] at hc
    obtain rfl := Option.some.inj hc
    exact ⟨v, y, hv, fun z => atKey_put_same ⟨_, eE⟩ (by trivial) _ _, hb⟩
  · have hi := lt_of hc
    rw [List.length_append, List.length_singleton] at hi
    rw [List.getElem?_append_left (by omega)] at hc
    obtain ⟨u, z, k1, k2, k3⟩ := a1 i c hc
    refine ⟨u, z, k1, fun t => ?_, k3⟩
    rw [atKey_put_other (by intro e2; injection e2 with _ e3; omega)]
    exact k2 t
theorem HadN.look {W w : World} {R : List (List UInt8)} {D : DataW Unit} (h : HadN W R D) (hR : R.length ≤ 1048576) {m : Nat} {X : List Asn} (hS : St W w (aM64 m D :: X)) {i : Nat} {b : List UInt8} (hi : R[i]? = some b) :
    ∃ v, (Instr.lookup 61 (.map (some m)) (.int .i64 (1 + (i : Int))) false).run Tryz.prog w = .ok v w ∧ Bs w v b := by
  have hil := lt_of hi
  obtain ⟨v, ps, h1, h2⟩ := aMapR.look hS i64Law Tryz.underlying61 (zeroBy w) (show valAt (.slice none 0 0) = some (_, []) from rfl) (keyI (n := 1 + (i : Int)) (by omega))
  obtain ⟨u, y, k1, k2, k3⟩ := h.had i b hi
  rw [k2] at h2
  obtain rfl := valAt_inj h2 k1
  exact ⟨v, h1, k3.later hS.b⟩
theorem HadN.lookv {W : World} {R : List (List UInt8)} {D : DataW Unit} (h : HadN W R D) (hR : R.length ≤ 1048576) {i : Nat} {b : List UInt8} (hi : R[i]? = some b) :
    ∃ v, Bs W v b ∧ ∀ (w : World) (m : Nat) (X : List Asn), St W w (aM64 m D :: X) → (Instr.lookup 61 (.map (some m)) (.int .i64 (1 + (i : Int))) false).run Tryz.prog w = .ok v w := by
  have hil := lt_of hi
  obtain ⟨u, y, k1, k2, k3⟩ := h.had i b hi
  refine ⟨u, k3, fun w m X hS => ?_⟩
  obtain ⟨v, ps, h1, h2⟩ := aMapR.look hS i64Law Tryz.underlying61 (zeroBy w) (show valAt (.slice none 0 0) = some (_, []) from rfl) (keyI (n := 1 + (i : Int)) (by omega))
  rw [k2] at h2
  obtain rfl := valAt_inj h2 k1
  exact h1
theorem valBs {w : World} {v : Value} {b : List UInt8} (h : Bs w v b) : ∃ y, valAt v = some (y, []) := by
  rcases h.isNil with ⟨rfl, _⟩ | ⟨⟨g, o, s⟩, cap, rfl⟩
  · exact ⟨_, rfl⟩
  · cases s <;> exact ⟨_, rfl⟩
end Go.Proofs.YtnpjfjgnhadmjaaGreatDoor

/- The walk of WalDamage. -/
namespace Go.Proofs.YtnpjfjgnhadmjaaGreatDoor
open Go.RowKit Go.Deep Go.Maps
set_option linter.unusedVariables false

theorem bulkL_len : ∀ L : List (List UInt8), L.length ≤ bulkL L
  | [] => by simp
  | x :: t => by have := bulkL_len t; simp only [bulkL, List.map_cons, List.sum_cons, List.length_cons] at *; omega
theorem bulkL_mem {b : List UInt8} : ∀ {L : List (List UInt8)}, b ∈ L → b.length + 1 ≤ bulkL L
  | [], h => by cases h
  | x :: t, h => by
    have ih := @bulkL_mem b t
    simp only [bulkL, List.map_cons, List.sum_cons] at *
    rcases List.mem_cons.1 h with e | e
    · subst e; omega
    · have := ih e; omega
section
variable {W w : World} {X : List Asn} {p dp m : Nat} {R : List (List UInt8)} {b : List UInt8} {u : Value}
/-- the disk of a log whose records are R -/
def dkD (R : List (List UInt8)) : Dk := dF nLog (fileD R) 6 1048576
theorem Lapp_yes (h : St W w (aLg p dp (lgD R) :: aDisk dp (dkD R) :: X)) (hu : Bs W u b) (hb : b.length ≤ 524288) (hf : (fileD (R ++ [b])).length ≤ 1048576) (hR : R.length ≤ 1048576) :
    Calls Tryz.prog 21 #[.pointer (some ⟨p, 0, none⟩), u] w fun e w' => e = .returned (.tuple #[.int .i64 (1 + (R.length : Int)), .int .i64 0]) ∧ St W w' (aLg p dp (lgD (R ++ [b])) :: aDisk dp (dkD (R ++ [b])) :: X) := by
  have e1 : (fileD R).length + (frameF b).length ≤ 1048576 := by rw [fileD_snoc, List.length_append] at hf; exact hf
  have := Lappend_c (d' := dkD (R ++ [b])) h (fun w' Y hS => hu.later hS.b) hb rfl (.inr (by show ((fileD R).length : Int) < 4194304; omega)) (by show nLog.length ≤ _; simp [nLog]) (by
    unfold dkD
    rw [fileD_snoc]
    exact appendD nLog (fileD R) (frameF b) 6 1048576 (by omega)) (by show 0 ≤ ((fileD R).length : Int) ∧ ((fileD R).length : Int) ≤ _; omega) (by show R.length + 1 ≤ _; omega)
  rw [lgD_add, lgD_last, List.length_append] at this
  refine this.mono fun e w' h2 => ⟨?_, h2.2⟩
  rw [h2.1]
  simp only [List.length_singleton]
  rw [show ((R.length + 1 : Nat) : Int) = 1 + (R.length : Int) by omega]
theorem Lapp_full (h : St W w (aLg p dp (lgD R) :: aDisk dp (dkD R) :: X)) (hu : Bs W u b) (hb : b.length ≤ 524288) (hf : ¬ (fileD (R ++ [b])).length ≤ 1048576) (hf0 : (fileD R).length ≤ 1048576) (hR : R.length ≤ 1048576) :
    Calls Tryz.prog 21 #[.pointer (some ⟨p, 0, none⟩), u] w fun e w' => e = .returned (.tuple #[.int .i64 0, .int .i64 30]) ∧ St W w' (aLg p dp (lgD R) :: aDisk dp (dkD R) :: X) := by
  have e1 : ¬ (fileD R).length + (frameF b).length ≤ 1048576 := by rw [fileD_snoc, List.length_append] at hf; exact hf
  exact Lappend_full h (fun w' Y hS => hu.later hS.b) hb rfl (.inr (by show ((fileD R).length : Int) < 4194304; omega)) (by show nLog.length ≤ _; simp [nLog]) (by
    unfold dkD
    exact appendD_no nLog (fileD R) (frameF b) 6 1048576 (by omega)) (by show 0 ≤ ((fileD R).length : Int) ∧ ((fileD R).length : Int) ≤ _; omega) (by show R.length + 1 ≤ _; omega)
theorem used_dk (R : List (List UInt8)) : usedF (dkD R).R = (fileD R).length := by simp [usedF, dkD, dF]
theorem writeD {n B B' : List UInt8} {s : Nat} {r : Int} (h : B'.length = B.length) (hr : (B.length : Int) ≤ r) : writeF (dF n B s r) (file1 n) 0 B' = (0, dF n B' 0 r) := by
  unfold writeF
  rw [turn_some (mayD n B s r) (f := ⟨file1 n, B, s⟩) rfl]
  unfold writeB
  rw [if_neg (by omega), if_neg (by simp [dF, usedF]; omega)]
  simp [dF, h]
theorem hurt_headOf (R : List (List UInt8)) (k : Nat) (b : List UInt8) (f : Nat) (bs : BitVec 32) : headOf (hurtD R k b f bs) = some (1, 6) := by rw [hurt_head]; exact headOf_headF _
theorem infoInt : (Tryz.prog.info? 3).map (fun i => (i.zero, i.size, i.bytes)) = some (some (.int .i64 0), 1, 8) := by kernel_rfl
/-- what stands at the head of the loop -/
def DmSt (W wr : World) (p dp m : Nat) (R : List (List UInt8)) (D : DataW Unit) (AE : Option Addr) (cE : Nat) : Prop :=
  St W wr (aRow 3 1 (.slice AE R.length cE) R.length (endsC R) :: aM64 m D :: aLg p dp (lgD R) :: aDisk dp (dkD R) :: [])
structure DmOk (W : World) (R : List (List UInt8)) (D : DataW Unit) (q : Nat) : Prop where
  had : HadN W R D
  len : R.length ≤ q
  short : ∀ b ∈ R, b.length ≤ 524288
  file : (fileD R).length ≤ 1048576
set_option maxRecDepth 20000 in
set_option maxHeartbeats 8000000 in
theorem walDamage_c {v : Value} {inn : Nat → Prop} {L : List (List UInt8)} {wh at_ : Nat} {bs : BitVec 32} (hL : Lss inn W v L) (hbu : bulkL L ≤ 1048576) (hw : wh < 256) (ha : at_ < 4294967296) :
    Calls Tryz.prog 6 #[v, .int .u8 (wh : Int), .int .u32 (at_ : Int), .int .u32 (bs.toNat : Int)] W fun e w' => e = .returned (.bool true) ∧ B W w' := by
  have hmm := @run_makeMap Tryz.prog
  have HNW := Lib.hid (show Calls Tryz.prog 16 #[.int .i64 1048576] W fun e w' => ∃ p, e = .returned (.tuple #[.pointer (some ⟨p, 0, none⟩), .int .i64 0]) ∧ St W w' [aDisk p (dZr 1048576)] from new_yes (k := 1048576) (St.nil W) (by omega))
  have HO := Lib.hid (fun w' dp X (h : St W w' (aDisk dp (dZr 1048576) :: X)) => show Calls Tryz.prog 18 #[.pointer (some ⟨dp, 0, none⟩), .string ⟨#[108, 111, 103]⟩, .int .i64 4194304] w' _ from open0_r (n := nLog) (most := 4194304) (r := 1048576) (by omega) h (mayLog 4194304 (by omega)) (by simp [nLog]))
  have HB := Lib.hid (fun w' => begun_c w')
  obtain ⟨A, cap, rfl, hn, hc, hm, hr⟩ := hL
  have HR := Lib.hid hr
  have hLn : L.length ≤ 1048576 := by have := bulkL_len L; omega
  have HBU := Lib.hid (show ∀ b ∈ L, b.length ≤ 1048576 from fun b hb => by have := bulkL_mem hb; omega)
  clear hn hc hm hr hbu
  obtain ⟨l, hl⟩ : ∃ l, L.length = l := ⟨_, rfl⟩
  have HL := Lib.hid hl
  rw [hl] at hLn ⊢
  clear hl
  go_enter Tryz.func6, Tryz.ntmps6
  go_wp2_with (first
    | (go_at_call 16; (with_reducible refine HNW.out.mono ?_); rintro e w1 ⟨dp, rfl, hS⟩; have H1 := Lib.hid hS; clear hS)
    | (go_at_call 18; (with_reducible refine (HO.out _ _ _ H1.out).mono ?_); rintro e w2 ⟨pl, rfl, hS⟩; have H2 := Lib.hid hS; clear hS)
    | (go_at_call 12; (with_reducible refine (HB.out _).mono ?_); rintro e w3 ⟨rfl, hb⟩; have H3 := Lib.hid (H2.out.later hb); clear hb))
  have h5 := aMapR.new (P := Tryz.prog) (k := 2) (R := valAt) H3.out
  have H6 := Lib.hid (show DmSt W (w3.alloc (.map #[] 0)) pl dp w3.heap.size [] (.map []) none 0 from by
    unfold DmSt dkD
    rw [lgD_nil, fileD_nil]
    exact St.rowNil h5 3 1)
  clear h5
  generalize w3.heap.size = m at *
  generalize w3.alloc (.map #[] 0) = w4 at *
  clear H1 H2 H3 HNW HO
  go_loopw [14, 50] (fun en i wr => ∃ (q : Nat) (R : List (List UInt8)) (D : DataW Unit) (AE : Option Addr) (cE : Nat), q ≤ l ∧ i = .int .i64 (q : Int) ∧ en = .slice AE R.length cE ∧ Hid (DmSt W wr pl dp m R D AE cE) ∧ Hid (DmOk W R D q)) (fun _ i _ => l - (intOf i).toNat)
  case atStart => exact ⟨0, [], .map [], none, 0, Nat.zero_le _, rfl, rfl, H6, ⟨HadN.start W, Nat.le_refl _, fun b hb => by simp at hb, by rw [fileD_nil, head1_len]; omega⟩⟩
  case round =>
    obtain ⟨q, R, D, AE, cE, hq, rfl, rfl, HS, HK⟩ := hrel
    clear H6
    obtain ⟨rl, hrl⟩ : ∃ rl, R.length = rl := ⟨_, rfl⟩
    have HRL := Lib.hid hrl
    have hrq : rl ≤ q := by rw [← hrl]; exact HK.out.len
    rw [hrl]
    clear hrl
    by_cases hql : q < l
    · have hqi : (q : Int) < (l : Int) := by omega
      obtain ⟨bb, off, rfl, _, _, hcx⟩ := HR.out (by have := HL.out; omega)
      obtain ⟨x, hx⟩ : ∃ x, L[q]? = some x := ⟨_, List.getElem?_eq_getElem (by have := HL.out; omega)⟩
      obtain ⟨u, ku, hub, _⟩ := hcx q x hx
      have HXB := Lib.hid (HBU.out x (List.mem_of_getElem? hx))
      obtain ⟨Au, cu, rfl⟩ := hub.rd.slice
      have HUB := Lib.hid hub
      have hS := HS.out
      unfold DmSt at hS
      have kx := hS.b.cell ku
      clear hcx hx ku hub
      by_cases hc1 : x.length ≤ 524288
      · by_cases hc2 : (fileD (R ++ [x])).length ≤ 1048576
        · have HA := Lib.hid (Lapp_yes hS.rot4.rot4 HUB.out hc1 hc2 (by have := HRL.out; omega))
          obtain ⟨y, hy⟩ := valBs HUB.out
          have HST := Lib.hid (fun w' (h : St W w' (aLg pl dp (lgD (R ++ [x])) :: aDisk dp (dkD (R ++ [x])) :: aRow 3 1 (.slice AE R.length cE) R.length (endsC R) :: aM64 m D :: [])) =>
            aMapR.store h.rot4 HK.out.had.e1 (by have := HRL.out; unfold maxLen; omega) i64Law Tryz.underlying61 (keyI (n := 1 + (R.length : Int)) (by have := HRL.out; omega)) hy)
          have HOK := Lib.hid (fun D' (h1 : ∃ E, D' = .map E ∧ E.length ≤ R.length + 1) (he : D' = D.put (.int .i64 (1 + (R.length : Int))) y) => show DmOk W (R ++ [x]) D' (q + 1) from by
            subst he
            exact ⟨HK.out.had.step hy HUB.out h1, by have := HRL.out; rw [List.length_append, List.length_singleton]; omega, fun b hb => by
              rcases List.mem_append.1 hb with e | e
              · exact HK.out.short b e
              · simp at e; subst e; exact hc1, hc2⟩)
          have o1 : ∀ z ∈ [Value.int .i64 ((fileD (R ++ [x])).length : Int)], z.oneCell' = true := by simp [Value.oneCell']
          have g1 : rl + 1 ≤ maxLen := by unfold maxLen; omega
          have g2 : (rl + 1) * 8 ≤ 140737488355328 := by omega
          rw [HRL.out] at HA HST
          clear hS hc1 hc2 hy
          go_wp2_with (first
            | (go_at_call 21; (with_reducible refine HA.out.mono ?_); rintro e w5 ⟨rfl, hS⟩; obtain ⟨w6, r1, r2, r3⟩ := HST.out _ hS; have H7 := Lib.hid r2; have HE := Lib.hid r3; clear hS r2 r3 kx)
            | (at_mapUpdate; refine wpList_mapUpdate_run rfl (.tmp 62) (.tmp 63) (.tmp 64) 61 rfl rfl rfl rfl r1 ?_)
            | (go_at_call 33; (with_reducible refine (usedD_c H7.out.rot3).mono ?_); rintro e w7 ⟨rfl, hb⟩; rw [used_dk]; have H8 := Lib.hid ((H7.out.later hb).rot4.later (B.alloc' _ (.cells #[.int .i64 ((fileD (R ++ [x])).length : Int)] 3))); clear hb)
            | (at_builtin; refine wpList_append_St rfl (.tmp 65) (.tmp 68) 64 rfl Tryz.underlying64 infoInt rfl Nat.zero_lt_one rfl rfl H8.out (Rd.one _ _ _) o1 g1 g2 ?_; intro A9 c9 w9 hS; have H9 := Lib.hid hS; clear hS))
          go_roundw
          case rel =>
            have hl1 : (R ++ [x]).length = rl + 1 := by rw [List.length_append, List.length_singleton, HRL.out]
            refine ⟨q + 1, R ++ [x], _, A9, c9, by omega, by go_num, by rw [hl1], ?_, HOK.out _ (by rw [HRL.out]; exact HE.out) (by rw [HRL.out])⟩
            unfold DmSt
            rw [hl1, endsC_snoc]
            exact H9.out
          case measure => simp [intOf]; omega
        · have HA := Lib.hid (Lapp_full hS.rot4.rot4 HUB.out hc1 hc2 HK.out.file (by have := HRL.out; omega))
          clear hS hc1 hc2
          go_wp2_with (first
            | (go_at_call 21; (with_reducible refine HA.out.mono ?_); rintro e w5 ⟨rfl, hS⟩; have H7 := Lib.hid hS.rot4.rot4; clear hS))
          go_roundw
          case rel => exact ⟨q + 1, R, D, AE, cE, by omega, by go_num, by rw [HRL.out], H7.out, ⟨HK.out.had, by have := HRL.out; omega, HK.out.short, HK.out.file⟩⟩
          case measure => simp [intOf]; omega
      · have HA := Lib.hid (Lappend_long hS.rot3 (HUB.out.later hS.b) hc1)
        clear hS hc1
        go_wp2_with (first
          | (go_at_call 21; (with_reducible refine HA.out.mono ?_); rintro e w5 ⟨rfl, rfl⟩))
        go_roundw
        case rel => exact ⟨q + 1, R, D, AE, cE, by omega, by go_num, by rw [HRL.out], HS, ⟨HK.out.had, by have := HRL.out; omega, HK.out.short, HK.out.file⟩⟩
        case measure => simp [intOf]; omega
    · obtain rfl : q = l := by omega
      by_cases hr0 : rl = 0
      · subst hr0
        have hS := HS.out
        unfold DmSt at hS
        have HSB := Lib.hid hS.b
        clear hS
        go_wp2_with fail
        go_ret
        exact ⟨rfl, HSB.out⟩
      · obtain ⟨k, hk⟩ : ∃ k, wh % rl = k := ⟨_, rfl⟩
        have hkr : k < rl := by rw [← hk]; exact Nat.mod_lt _ (by omega)
        have q1 : (wh : Int) % (rl : Int) = (k : Int) := by omega
        have hri : ¬ (rl : Int) = 0 := by omega
        obtain ⟨b, hb⟩ : ∃ b, R[k]? = some b := ⟨_, List.getElem?_eq_getElem (by have := HRL.out; omega)⟩
        have HBK := Lib.hid hb
        have hbl : b.length ≤ 524288 := HK.out.short b (List.mem_of_getElem? hb)
        have hS := HS.out
        unfold DmSt at hS
        obtain ⟨ge, rfl⟩ := hS.rowNSome (by have := HRL.out; omega)
        have kE := hS.rowN (endsC_get R (k := k) (by have := HRL.out; omega))
        rw [file_end hb, List.length_append] at kE
        have HCUT := Lib.hid (file_cut hb)
        obtain ⟨pf, hpf⟩ : ∃ pf, (preD R k b).length = pf := ⟨_, rfl⟩
        have HPF := Lib.hid hpf
        have hpf1 : 1 ≤ pf := by
          rw [← hpf]; unfold preD fileD
          rw [List.length_append, List.length_append, head1_len]; omega
        have hF := congrArg List.length (file_cut hb)
        rw [List.length_append, List.length_append, hpf] at hF
        have hF0 := HK.out.file
        have HBU2 := Lib.hid (fun (w' : World) v Y (h : St W w' (aBy v (fileD R) :: Y)) => show Calls Tryz.prog 35 #[v, .int .i64 (pf : Int), .int .i64 ((pf + (midD b).length : Nat) : Int), .int .u32 (at_ : Int), .int .u32 (bs.toNat : Int)] w' fun e w'' => e = .returned (.bool (turnedF (8 * (b.length + 4)) (at_ % (8 * (b.length + 4))) bs 32)) ∧ St W w'' (aBy v (hurtD R k b (at_ % (8 * (b.length + 4))) bs) :: Y) from by
          rw [HCUT.out] at h
          have := burst_c (bs := bs) h (by rw [← HCUT.out]; exact HK.out.file) (by rw [mid_len]; omega) ha
          rw [mid_len] at this ⊢
          rw [HPF.out] at this
          exact this)
        rw [hpf] at kE
        obtain ⟨E1, hE1⟩ : ∃ E1 : Int, ((pf + (midD b).length : Nat) : Int) = E1 := ⟨_, rfl⟩
        rw [hE1] at kE HBU2
        rw [mid_len] at hF hE1
        obtain ⟨F, hFF⟩ : ∃ F, (fileD R).length = F := ⟨_, rfl⟩
        have HFF := Lib.hid hFF
        rw [hFF] at hF hF0
        obtain ⟨bl, hbl2⟩ : ∃ bl, b.length = bl := ⟨_, rfl⟩
        have HBL := Lib.hid hbl2
        rw [hbl2] at hF hE1 hbl
        obtain ⟨T, hT⟩ : ∃ T, turnedF (8 * (b.length + 4)) (at_ % (8 * (b.length + 4))) bs 32 = T := ⟨_, rfl⟩
        have HT := Lib.hid hT
        obtain ⟨V, hV⟩ : ∃ V, hurtD R k b (at_ % (8 * (b.length + 4))) bs = V := ⟨_, rfl⟩
        have HV := Lib.hid hV
        rw [hT, hV] at HBU2
        have hVl : V.length = F := by rw [← hV, hurt_len hb, hFF]
        have HVL := Lib.hid hVl
        have HVH := Lib.hid (show headOf V = some (1, 6) by rw [← hV]; exact hurt_headOf R k b _ bs)
        have HSS := Lib.hid (show ∃ S : List (List UInt8), framesF (V.drop 6) = S.map (fun b => (b, (frameF b).length)) ∧ (∀ (i : Nat) c, S[i]? = some c → R[i]? = some c) ∧ (if T then S.length = k else S.length = rl) from by
          cases T with
          | true =>
            refine ⟨R.take k, by rw [← hV]; exact hurt_frames HK.out.short hb hT, fun i c hi => ?_, ?_⟩
            · rw [List.getElem?_take] at hi
              split at hi
              · exact hi
              · cases hi
            · rw [if_pos rfl, List.length_take]; have := HRL.out; omega
          | false =>
            refine ⟨R, by rw [← hV, hurt_none hb hT]; exact file_frames HK.out.short, fun i c hi => hi, ?_⟩
            rw [if_neg (by simp)]; exact HRL.out)
        have HLK := Lib.hid (fun (w' : World) Y (h : St W w' (aM64 m D :: Y)) (i : Nat) c (hi : R[i]? = some c) => HK.out.had.look (by have := HRL.out; omega) h hi)
        obtain ⟨vb, hvb, hlv⟩ := HK.out.had.lookv (by have := HRL.out; omega) hb
        obtain ⟨Ab, cb, rfl⟩ := hvb.rd.slice
        have HLV := Lib.hid hlv
        clear hvb hlv
        obtain ⟨kk, hkk⟩ : ∃ kk : Int, (k : Int) + 1 = kk := ⟨_, rfl⟩
        have HKK := Lib.hid hkk
        obtain ⟨z1, hz1⟩ : ∃ z1 : Int, E1 - 4 = z1 := ⟨_, rfl⟩
        have q2 : z1 - (bl : Int) = (pf : Int) := by omega
        have q3 : IntKind.i64.wrap z1 = z1 := IntWalk.i64_in _ (by omega)
        have q4 : IntKind.i64.wrap (pf : Int) = (pf : Int) := IntWalk.i64_in _ (by omega)
        have q5 : IntKind.i64.wrap kk = kk := IntWalk.i64_in _ (by omega)
        have q6 : ¬ (F : Int) < E1 := by omega
        have q7 : ¬ (pf : Int) < 1 := by omega
        have hki : (k : Int) < (rl : Int) := by omega
        obtain ⟨S, hs1, hs2, hs3⟩ := HSS.out
        have HLG := Lib.hid (show (lgOpen nLog 4194304 V 1 6).L = S ∧ (lgOpen nLog 4194304 V 1 6).first = 1 ∧ lastF (lgOpen nLog 4194304 V 1 6) = (if T then (k : Int) else (rl : Int)) from by
          obtain ⟨g1, g2, g3⟩ := lg_of hs1
          refine ⟨g1, g2, ?_⟩
          rw [g3]
          cases T with
          | true => rw [if_pos rfl] at hs3 ⊢; rw [hs3]
          | false => rw [if_neg (by simp)] at hs3 ⊢; rw [hs3])
        have HS2 := Lib.hid hs2
        clear hs1 hs2 hs3
        have HKY := Lib.hid (fun (w10 w' : World) Y (h : St W w10 (aM64 m D :: Y)) (hb : B w10 w') (i : Nat) c (hi : S[i]? = some c) => HLK.out w' _ (h.later hb) i c (HS2.out i c hi))
        have HGE := Lib.hid (fun w' X (h : St W w' (aDisk dp (dkD R) :: X)) => show Calls Tryz.prog 34 #[.pointer (some ⟨dp, 0, none⟩), .string ⟨#[108, 111, 103, 46, 49]⟩] w' fun e w'' => ∃ v, e = .returned (.tuple #[v, .int .i64 0]) ∧ St W w'' (aBy v (fileD R) :: aDisk dp (dkD R) :: X) from by
          have := get_c h (n := file1 nLog) (by simp [file1, nLog]; unfold maxLen; omega)
          rw [show getF (dkD R) (file1 nLog) = (fileD R, 0) from getD _ _ _ _] at this
          exact this)
        have HWR := Lib.hid (fun w' v X (h : St W w' (aDisk dp (dkD R) :: X)) (hv : Bs w' v V) => show Calls Tryz.prog 36 #[.pointer (some ⟨dp, 0, none⟩), .string ⟨#[108, 111, 103, 46, 49]⟩, .int .i64 0, v] w' fun e w'' => e = .returned (.int .i64 0) ∧ St W w'' (aDisk dp (dF nLog V 0 1048576) :: X) from by
          have := write_c (k := 0) h (n := file1 nLog) (by simp [file1, nLog]; unfold maxLen; omega) hv (by have := HVL.out; omega)
          rw [show writeF (dkD R) (file1 nLog) 0 V = (0, dF nLog V 0 1048576) from writeD (by rw [HVL.out, HFF.out]) (by rw [HFF.out]; omega)] at this
          exact this)
        have HSY := Lib.hid (fun w' X (h : St W w' (aDisk dp (dF nLog V 0 1048576) :: X)) => show Calls Tryz.prog 37 #[.pointer (some ⟨dp, 0, none⟩), .string ⟨#[108, 111, 103, 46, 49]⟩] w' fun e w'' => e = .returned (.int .i64 0) ∧ St W w'' (aDisk dp (dF nLog V V.length 1048576) :: X) from by
          have := sync_c h (n := file1 nLog) (by simp [file1, nLog]; unfold maxLen; omega)
          rw [syncD] at this
          exact this)
        have HOP := Lib.hid (fun w' X (h : St W w' (aDisk dp (dF nLog V V.length 1048576) :: X)) => show Calls Tryz.prog 18 #[.pointer (some ⟨dp, 0, none⟩), .string ⟨#[108, 111, 103]⟩, .int .i64 4194304] w' fun e w'' => ∃ p g', e = .returned (.tuple #[.pointer (some ⟨p, 0, none⟩), .int .i64 0]) ∧ St W w'' (aLg p dp g' :: X) ∧ g'.L = S ∧ g'.first = 1 ∧ lastF g' = (if T then (k : Int) else (rl : Int)) from
          (open1_c (n := nLog) (most := 4194304) h (mayLog 4194304 (by omega)) (by simp [nLog]) (by have := HVL.out; omega) HVH.out).mono fun e w'' ⟨p, h1, h2⟩ => ⟨p, _, h1, h2.drop2, HLG.out⟩)
        have HE1 := Lib.hid hE1
        have H0 := Lib.hid hS
        clear hk hb hpf hF hE1 hFF hbl2 hT hV hVl hr0 hS kE
        rw [HRL.out] at H0
        go_wp2_with (first
          | (go_at_call 34; (with_reducible refine (HGE.out _ _ H0.out.rot4).mono ?_); rintro e w5 ⟨v5, rfl, hS⟩; obtain ⟨A5, c5, hv5⟩ := hS.bySlice; rw [HFF.out] at hv5; subst hv5; have H5 := Lib.hid hS; have hlk := fun n => HLV.out (w5.drewN n) m _ (hS.rot4.drewN n); rw [HBL.out, show 1 + (k : Int) = kk from by rw [← HKK.out]; omega] at hlk; have kE := hS.rot3.rowN (endsC_get R (k := k) (by have := HRL.out; omega)); rw [file_end HBK.out, List.length_append, HPF.out, mid_len, HBL.out, HE1.out] at kE; clear hS))
        go_quiet (fail)
        cases T
        all_goals
          go_wp2_with (first
            | (go_at_call 35; (with_reducible refine (HBU2.out _ _ _ (H5.out.drewN _)).mono ?_); rintro e w6 ⟨rfl, hS⟩; have H6 := Lib.hid hS; clear hS kE hlk)
            | (go_at_call 36; (with_reducible refine (HWR.out _ _ _ H6.out.swap (H6.out.byBs (by have := HVL.out; unfold big; omega))).mono ?_); rintro e w7 ⟨rfl, hS⟩; have H7 := Lib.hid hS; clear hS)
            | (go_at_call 37; (with_reducible refine (HSY.out _ _ H7.out).mono ?_); rintro e w8 ⟨rfl, hS⟩; have H8 := Lib.hid hS; clear hS)
            | (go_at_call 18; (with_reducible refine (HOP.out _ _ H8.out).mono ?_); rintro e w9 ⟨pm, g', rfl, hS, ge1, ge2, ge3⟩; have H9 := Lib.hid hS; have GE1 := Lib.hid ge1; have GE2 := Lib.hid ge2; have GE3 := Lib.hid ge3; clear hS ge1 ge2 ge3)
            | (go_at_call 31; (with_reducible refine (Lall_c H9.out).mono ?_); rintro e w10 ⟨b1, b2, A1, A2, c1, c2, rfl, hS, hI⟩; rw [GE1.out, GE2.out] at hI; have H10 := Lib.hid hS; have HI := Lib.hid hI; clear hS hI)
            | (go_at_call 30; (with_reducible refine (kept_yes HI.out (fun w' i c hb hi => HKY.out w10 w' _ H10.out.rot4 hb i c hi)).mono ?_); rintro e w11 ⟨rfl, hb⟩; have H11 := Lib.hid (H10.out.later hb); clear hb)
            | (go_at_call_of 27 pm; (with_reducible refine (Llast_c H11.out).mono ?_); rintro e w12 ⟨rfl, hb⟩; rw [GE3.out]; have H12 := Lib.hid (H11.out.later hb); clear hb)
            | (go_at_call_of 27 pl; (with_reducible refine (Llast_c H12.out.rot5).mono ?_); rintro e w13 ⟨rfl, hb⟩; rw [lgD_last, HRL.out]; have H13 := Lib.hid (H12.out.later hb); clear hb))
          go_ret
          first
            | exact ⟨rfl, H13.out.b⟩
            | exact ⟨rfl, H12.out.b⟩
end
end Go.Proofs.YtnpjfjgnhadmjaaGreatDoor

/- WalDamage: for any records of bulk at most 1048576, behind a burst of at most 32 bits in the bytes and the sum of one record just the records ahead of it are there. Condition: the five listed package variables hold what their initialisers lay. -/
namespace Go.Proofs.YtnpjfjgnhadmjaaGreatDoor
open Go.ChangeShapes Go.WideShapes Go.ChangeAt Go.RowKit Go.Deep
set_option linter.unusedVariables false

set_option maxRecDepth 100000 in
theorem walDamage_contract (H : Type) (enc : TypeId × Value → H) (W : World) (base : Nat) (args : Array Value) (ds gs : List (DataW H)) (before : List MemPlace)
    (hval : ∀ (j : Nat) t v, Tryz.f6.params[j]? = some t → args[j]? = some v → Value.okWide Tryz.prog W .any base t v)
    (hW : DataW.Whole enc Tryz.prog Tryz.f6.params.toList Rows.walDamageSpec.vars false W args.toList ds gs before) (hk : ∀ k, (Rows.OpenSpec.upto Rows.walDamageSpec).cond = some k → k H (ds ++ gs) = true)
    (hsz0 : (DataW.weightsEach Tryz.prog (Tryz.f6.params.toList ++ Rows.walDamageSpec.plain.varTypes Tryz.prog) (ds ++ gs)).all (· ≤ reachBytes) = true) :
    Calls Tryz.prog 6 args W fun e W' => ∃ v, e = .returned v ∧ Rows.walDamageSpec.post enc Tryz.prog Tryz.f6 false true false false W args v W' := by
  have hW' := hW
  obtain ⟨p, q, hA0, hV, rfl, hfz, hnd⟩ := hW
  have hA : DataW.TrodAll enc Tryz.prog W 0 (fun _ => true) true Tryz.f6.params.toList args.toList ds p := hA0
  rw [Tryz.params6] at hA hval
  obtain ⟨rfl, rfl⟩ := trodVars_none hV
  have hsz : (DataW.weightsEach Tryz.prog (Tryz.f6.params.toList ++ []) (ds ++ [])).all (· ≤ reachBytes) = true := hsz0
  rw [Tryz.params6] at hsz
  have hB := uptoBound (hk _ rfl)
  rw [List.append_nil] at hB
  obtain ⟨v0, vs0, d0, ds0, p0, q0, hargs, rfl, rfl, h0, r0⟩ := trodAll_cons hA
  obtain ⟨v1, vs1, d1, ds1, p1, q1, rfl, rfl, rfl, h1, r1⟩ := trodAll_cons r0
  obtain ⟨v2, vs2, d2, ds2, p2, q2, rfl, rfl, rfl, h2, r2⟩ := trodAll_cons r1
  obtain ⟨v3, vs3, d3, ds3, p3, q3, rfl, rfl, rfl, h3, r3⟩ := trodAll_cons r2
  obtain ⟨rfl, rfl, rfl⟩ := trodAll_nil r3
  obtain rfl : args = #[v0, v1, v2, v3] := by cases args; simp_all
  simp only [Rows.uptoBulkAll] at hB
  obtain ⟨L, hL, hLb⟩ := open_bssU Tryz.underlying63 Tryz.underlying22 Tryz.underlying5 (by kernel_rfl) (by kernel_rfl) (hval 0 63 v0 rfl rfl) h0 (by omega)
  obtain ⟨n1, rfl, _, _, hn1⟩ := Go.ChangeShapes.open_int Tryz.underlying5 (hval 1 5 v1 rfl rfl) h1
  obtain ⟨n2, rfl, _, _, hn2⟩ := Go.ChangeShapes.open_int Tryz.underlying29 (hval 2 29 v2 rfl rfl) h2
  obtain ⟨n3, rfl, _, _, hn3⟩ := Go.ChangeShapes.open_int Tryz.underlying29 (hval 3 29 v3 rfl rfl) h3
  have b1 : 0 ≤ n1 ∧ n1 ≤ 255 := by simpa [Lit.wf, IntKind.min, IntKind.max, IntKind.signed, IntKind.bits] using hn1
  have b2 : 0 ≤ n2 ∧ n2 ≤ 4294967295 := by simpa [Lit.wf, IntKind.min, IntKind.max, IntKind.signed, IntKind.bits] using hn2
  have b3 : 0 ≤ n3 ∧ n3 ≤ 4294967295 := by simpa [Lit.wf, IntKind.min, IntKind.max, IntKind.signed, IntKind.bits] using hn3
  obtain ⟨k1, rfl⟩ : ∃ k : Nat, n1 = (k : Int) := ⟨n1.toNat, (Int.toNat_of_nonneg b1.1).symm⟩
  obtain ⟨k2, rfl⟩ : ∃ k : Nat, n2 = (k : Int) := ⟨n2.toNat, (Int.toNat_of_nonneg b2.1).symm⟩
  obtain ⟨s, rfl⟩ : ∃ s : BitVec 32, n3 = (s.toNat : Int) := ⟨BitVec.ofNat 32 n3.toNat, by rw [BitVec.toNat_ofNat]; omega⟩
  refine (walDamage_c hL (by omega) (by omega) (by omega)).mono fun e W' ⟨he, hg⟩ => ?_
  subst he
  exact ⟨_, rfl, law_post prog_laid (by kernel_rfl) rfl ⟨rfl, rfl, rfl⟩ (tb := 4) (by kernel_rfl) Tryz.underlying4 hW' hg⟩
set_option maxRecDepth 100000 in
theorem walDamage_reads (os : Os) (H : Type) (enc : TypeId × Value → H) : ∃ places, DataW.whole enc Tryz.prog ((laidWorld os).forCall (fun _ _ => 0) ⟨#[], #[.slice none 0 0, .int .u8 0, .int .u32 0, .int .u32 0], []⟩).memory Tryz.f6.params.toList Rows.walDamageSpec.vars false (#[.slice none 0 0, .int .u8 0, .int .u32 0, .int .u32 0] : Array Value).toList 8 = some ([.nil, .lit (.int .u8 0), .lit (.int .u32 0), .lit (.int .u32 0)], [], places) :=
  ⟨[], by kernel_rfl⟩
set_option maxRecDepth 100000 in
theorem walDamage_lifted (os : Os) (started : os.Started) (H : Type) (enc : TypeId × Value → H) (F : Stop.Interp) :
    ReturnsInHanded {} Tryz.checked os 6 .any ((Rows.OpenSpec.upto Rows.walDamageSpec).preRow enc Tryz.prog Tryz.f6 Rows.walDamageUptoRow.domain false Rows.walDamageUptoRow.laid) (((Rows.OpenSpec.upto Rows.walDamageSpec).at F).post enc Tryz.prog Tryz.f6 false true false false) := by
  obtain ⟨places, hx⟩ := walDamage_reads os H enc
  refine returnsInHanded_of_row (C := Tryz.checked) (s := (Rows.OpenSpec.upto Rows.walDamageSpec)) prog_own started (by kernel_rfl) Tryz.func6
    (witness_row_atRef (enc := enc) (C := Tryz.checked) false (laidWorld os) #[.slice none 0 0, .int .u8 0, .int .u32 0, .int .u32 0] rfl (by kernel_rfl) (by kernel_rfl) (by kernel_rfl)
      (OpenSpec.preRow_of_cond 8 hx (by kernel_rfl) (fun k hk => by cases hk; kernel_rfl) (by kernel_rfl) (laid_met os _))) ?_
  intro W base args ds gs before hval hW _ hk hsz _ _ _
  exact walDamage_contract H enc W base args ds gs before hval hW hk hsz
theorem walDamage_said : Rows.WalDamageUptoSaid :=
  OpenClaim.holds_of_cond 6 Tryz.f6 rfl rfl rfl rfl rfl rfl rfl ⟨rfl, rfl, rfl, rfl, rfl⟩ rfl rfl rfl rfl rfl (by kernel_rfl) Tryz.func6 (by kernel_rfl)
    (of_decide_eq_true (by kernel_rfl)) (by unfold Func.isWrapper; first | (rw [if_pos (by decide +kernel)]; kernel_rfl) | (rw [if_neg (by decide +kernel)]; exact ⟨rfl, rfl⟩))
    (fun os started H enc _ F => by rw [OpenClaim.pre_eq_preRow]; exact walDamage_lifted os started H enc F)
theorem walDamage_plain (f : FuncId) (fn : Func) (hf : Tryz.pinned.checked.prog.funcNamed "bulla/bullalaw04.WalDamage" = some f) (hfn : Tryz.pinned.checked.prog.funcs[f]? = some fn) :
    true = Tryz.pinned.checked.prog.looks [] ∧ ∀ (j : Nat) t, fn.params[j]? = some t → Tryz.pinned.checked.prog.wantsStandIn t = false := by
  obtain rfl : f = 6 := Option.some.inj ((show Tryz.prog.funcNamed "bulla/bullalaw04.WalDamage" = some 6 by kernel_rfl).symm.trans hf) |>.symm
  obtain rfl : fn = Tryz.f6 := (Option.some.inj (Tryz.func6.symm.trans hfn)).symm
  refine ⟨by kernel_rfl, fun j t ht => ?_⟩
  rw [Tryz.params6] at ht
  have hm : t = 63 ∨ t = 5 ∨ t = 29 := by
    have := Array.mem_of_getElem? ht
    simpa using this
  rcases hm with rfl | rfl | rfl
  · exact (show Tryz.prog.wantsStandIn 63 = false by kernel_rfl)
  · exact (show Tryz.prog.wantsStandIn 5 = false by kernel_rfl)
  · exact (show Tryz.prog.wantsStandIn 29 = false by kernel_rfl)
theorem walDamageUpto_holds : Rows.WalDamageUptoCardSaid :=
  Claim7.holds_tied_plain_at .later [] _ _ _ _ walDamage_said (fun _ h => by cases h) (by kernel_rfl) (fun _ h => by cases h) walDamageUpto_row_tie rfl ⟨rfl, rfl⟩ (by kernel_rfl) rfl walDamage_plain (by kernel_rfl)
end Go.Proofs.YtnpjfjgnhadmjaaGreatDoor
