/- What is put is read back, and what is read was put. Plain. -/
import Derived.Test.YthgpkbhilkdckaaCj
namespace Go.Proofs.Ythgpkbhilkdckaa
set_option linter.unusedVariables false

theorem ofNat_toNat (c : UInt8) : UInt8.ofNat c.toNat = c := by simp
theorem num_read (most : Nat) : ∀ (bs : List UInt8) (i acc v : Nat) (rest : List UInt8), numGo most i acc bs = (v, rest, 0) → ∃ d, v = acc + d * 128 ^ i ∧ bs = enc d ++ rest ∧ (0 < i → 0 < d)
  | [], i, acc, v, rest, h => by simp [numGo] at h
  | c :: r, i, acc, v, rest, h => by
    have hc := c.toNat_lt
    unfold numGo at h
    split at h
    · simp at h
    · split at h
      · rename_i h2
        obtain ⟨d, h3, h4, h5⟩ := num_read most r _ _ v rest h
        have hd := h5 (by omega)
        refine ⟨c.toNat % 128 + 128 * d, ?_, ?_, fun _ => by omega⟩
        · rw [h3, Nat.pow_succ, Nat.add_mul]
          have : d * (128 ^ i * 128) = 128 * d * 128 ^ i := by rw [Nat.mul_comm (128 ^ i) 128, ← Nat.mul_assoc, Nat.mul_comm d 128]
          omega
        · rw [enc_ge (by omega), show (c.toNat % 128 + 128 * d) % 128 + 128 = c.toNat by omega, show (c.toNat % 128 + 128 * d) / 128 = d by omega, ofNat_toNat, h4]
          rfl
      · split at h
        · simp at h
        · rename_i h1 h2 h3
          simp only [Prod.mk.injEq] at h
          refine ⟨c.toNat, h.1.symm, ?_, fun hi => by omega⟩
          rw [enc_lt (by omega), ofNat_toNat, h.2.1]
          rfl
theorem num_put (most : Nat) : ∀ (d i acc : Nat) (rest : List UInt8), i ≤ 9 → d * 128 ^ i < 18446744073709551616 → (0 < i → 0 < d) → acc + d * 128 ^ i ≤ most → numGo most i acc (enc d ++ rest) = (acc + d * 128 ^ i, rest, 0) := by
  intro d
  induction d using Nat.strongRecOn with
  | ind d ih =>
    intro i acc rest hi hb h0 hm
    have e9 : (128 : Nat) ^ 9 = 9223372036854775808 := by decide
    by_cases hd : d < 128
    · rw [enc_lt hd]
      have hc : (UInt8.ofNat d).toNat = d := by rw [UInt8.toNat_ofNat']; omega
      have h9 : ¬ (i = 9 ∧ 1 < (UInt8.ofNat d).toNat) := by
        rw [hc]
        rintro ⟨rfl, h⟩
        have := Nat.mul_le_mul_right (128 ^ 9) h
        omega
      show numGo most i acc (UInt8.ofNat d :: rest) = _
      rw [numGo_good (by rw [hc]; omega) h9 (by rw [hc]; rintro (h | h) <;> omega), hc]
    · rw [enc_ge hd]
      have hc : (UInt8.ofNat (d % 128 + 128)).toNat = d % 128 + 128 := by rw [UInt8.toNat_ofNat']; omega
      have h9 : i ≠ 9 := by
        rintro rfl
        have := Nat.mul_le_mul_right (128 ^ 9) (show 128 ≤ d by omega)
        omega
      show numGo most i acc (UInt8.ofNat (d % 128 + 128) :: (enc (d / 128) ++ rest)) = _
      have hs : d % 128 * 128 ^ i + d / 128 * 128 ^ (i + 1) = d * 128 ^ i := by
        rw [Nat.pow_succ, Nat.mul_comm (128 ^ i) 128, ← Nat.mul_assoc, ← Nat.add_mul]
        congr 1; omega
      rw [numGo_more (by rw [hc]; omega) h9, hc, show (d % 128 + 128) % 128 = d % 128 by omega, ih (d / 128) (by omega) (i + 1) _ rest (by omega) (by omega) (fun _ => by omega) (by omega)]
      rw [Nat.add_assoc, hs]
theorem numS_put {most d : Nat} {rest : List UInt8} (hb : d < 18446744073709551616) (hm : d ≤ most) : numS (enc d ++ rest) 0 most = (d, rest, 0) := by
  unfold numS
  rw [if_pos rfl, num_put most d 0 0 rest (by omega) (by simpa using hb) (fun h => by omega) (by simpa using hm)]
  simp
theorem numS_read {bs : List UInt8} {most v : Nat} {rest : List UInt8} (h : numS bs 0 most = (v, rest, 0)) : bs = enc v ++ rest := by
  unfold numS at h
  rw [if_pos rfl] at h
  obtain ⟨d, h1, h2, _⟩ := num_read most bs 0 0 v rest h
  rw [h2, h1]; simp
theorem takeS_read {bs : List UInt8} {n : Nat} {x rest : List UInt8} (h : takeS bs 0 (n : Int) = (x, rest, 0)) : bs = x ++ rest ∧ x.length = n := by
  unfold takeS at h
  rw [if_neg (by simp), if_neg (by omega)] at h
  split at h
  · simp at h
  · rename_i hl
    simp only [Prod.mk.injEq, Int.toNat_natCast] at h
    obtain ⟨rfl, rfl, _⟩ := h
    exact ⟨by rw [List.take_append_drop], by simp; omega⟩
theorem takeS_put {x rest : List UInt8} : takeS (x ++ rest) 0 (x.length : Int) = (x, rest, 0) := by
  unfold takeS
  rw [if_neg (by simp), if_neg (by omega), if_neg (by simp; omega)]
  simp
theorem bytesS_read {bs : List UInt8} {m : Int} {x rest : List UInt8} (h : bytesS bs 0 m = (x, rest, 0)) : bs = enc x.length ++ x ++ rest := by
  unfold bytesS at h
  obtain ⟨r, hr⟩ : ∃ r, numS bs 0 m.toNat = r := ⟨_, rfl⟩
  obtain ⟨v, b1, e1⟩ := r
  simp only [hr] at h
  have he : e1 = 0 := by
    by_cases e : e1 = 0
    · exact e
    · simp [takeS, e] at h
  subst he
  obtain ⟨h1, h2⟩ := takeS_read h
  rw [numS_read hr, h1, h2, List.append_assoc]
theorem bytesS_put {m : Int} {x rest : List UInt8} (hb : x.length < 18446744073709551616) (hm : (x.length : Int) ≤ m) : bytesS (enc x.length ++ x ++ rest) 0 m = (x, rest, 0) := by
  unfold bytesS
  rw [List.append_assoc, numS_put hb (by omega)]
  exact takeS_put
theorem listGo_read (each : Int) : ∀ (n : Nat) (bs : List UInt8) (acc l : List (List UInt8)) (rest : List UInt8), listGo each n bs 0 acc = (l, rest, 0) → ∃ l', l = acc ++ l' ∧ l'.length = n ∧ bs = putS l' ++ rest
  | 0, bs, acc, l, rest, h => by
    simp only [listGo, Prod.mk.injEq] at h
    exact ⟨[], by simp [h.1], rfl, by simp [putS, h.2.1]⟩
  | n + 1, bs, acc, l, rest, h => by
    unfold listGo at h
    obtain ⟨r, hr⟩ : ∃ r, bytesS bs 0 each = r := ⟨_, rfl⟩
    obtain ⟨x, b1, e1⟩ := r
    simp only [hr] at h
    by_cases he : e1 = 0
    · subst he
      simp only [ne_eq, not_true_eq_false, if_false] at h
      obtain ⟨l', h1, h2, h3⟩ := listGo_read each n b1 _ l rest h
      refine ⟨x :: l', by rw [h1]; simp, by simp [h2], ?_⟩
      rw [bytesS_read hr, h3, putS_cons]
      simp only [List.append_assoc]
    · rw [if_pos he] at h
      simp only [Prod.mk.injEq] at h
      exact absurd h.2.2 he
theorem listGo_put (each : Int) : ∀ (l acc : List (List UInt8)) (rest : List UInt8), (∀ x ∈ l, (x.length : Int) ≤ each ∧ x.length < 18446744073709551616) → listGo each l.length (putS l ++ rest) 0 acc = (acc ++ l, rest, 0)
  | [], acc, rest, _ => by simp [listGo, putS]
  | x :: l, acc, rest, h => by
    have hx := h x (by simp)
    show listGo each (l.length + 1) _ _ _ = _
    unfold listGo
    rw [putS_cons, List.append_assoc, bytesS_put hx.2 hx.1]
    simp only [ne_eq, not_true_eq_false, if_false]
    rw [listGo_put each l _ rest (fun y hy => h y (by simp [hy]))]
    simp
theorem listS_read {bs : List UInt8} {most each : Int} {l : List (List UInt8)} {rest : List UInt8} (h : listS bs 0 most each = (l, rest, 0)) : bs = putL [] l ++ rest := by
  unfold listS at h
  obtain ⟨r, hr⟩ : ∃ r, numS bs 0 most.toNat = r := ⟨_, rfl⟩
  obtain ⟨v, b1, e1⟩ := r
  simp only [hr] at h
  by_cases he : e1 = 0
  · subst he
    obtain ⟨l', h1, h2, h3⟩ := listGo_read each v b1 [] l rest h
    have h1' : l = l' := by simpa using h1
    subst h1'
    rw [numS_read hr, h3, ← h2]
    simp [putL]
  · have hv : v = 0 := by
      have := numS_pos bs 0 most.toNat
      rw [hr] at this
      by_cases hv : 0 < v
      · exact absurd (this hv) he
      · omega
    subst hv
    simp only [listGo, Prod.mk.injEq] at h
    exact absurd h.2.2 he
theorem listS_put {l : List (List UInt8)} {rest : List UInt8} {each : Int} (hb : l.length < 18446744073709551616) (h : ∀ x ∈ l, (x.length : Int) ≤ each ∧ x.length < 18446744073709551616) : listS (enc l.length ++ putS l ++ rest) 0 (l.length : Int) each = (l, rest, 0) := by
  unfold listS
  rw [List.append_assoc, numS_put hb (by simp)]
  simp only
  rw [listGo_put each l [] rest h]
  simp
end Go.Proofs.Ythgpkbhilkdckaa
