/- Lemmas and contracts, part 20. -/
import Derived.Test.YtafomdobfmmleaaGreatDoorZb19
import Derived.Lib.SplitLaws
import Derived.Lib.AtoiAll
/- Splitting at blanks, numbers read from words: the plain laws. No program here. -/
namespace Go.Proofs.YtafomdobfmmleaaGreatDoor
open Go.RowKit
set_option linter.unusedVariables false

theorem split_eq : ∀ s : List UInt8, Lib.splitK [32] 0 (Lib.count s [32]) s = splitF s
  | [] => by
    rw [Lib.count_miss (by simp [Lib.index])]
    rfl
  | b :: l => by
    have ih := split_eq l
    by_cases hb : b = 32
    · subst hb
      rw [Lib.count_cons_eq, Nat.add_comm 1]
      have hix : Lib.index (32 :: l) [32] = ((0 : Nat) : Int) := by rw [Lib.index]; simp [List.isPrefixOf]
      unfold Lib.splitK
      rw [if_neg (by rw [hix]; decide), hix]
      simp only [Int.toNat_natCast, Nat.zero_add, List.take_zero, List.length_cons, List.length_nil, List.drop_succ_cons, List.drop_zero, Nat.add_zero]
      rw [ih]
      simp [splitF]
    · rw [Lib.count_cons_ne b 32 l hb]
      have hp : ([32] : List UInt8).isPrefixOf (b :: l) = false := by simp [List.isPrefixOf, Ne.symm hb]
      have hix : Lib.index (b :: l) [32] = if Lib.index l [32] == -1 then -1 else Lib.index l [32] + 1 := by rw [Lib.index, hp]; simp
      have hs : splitF (b :: l) = match splitF l with | [] => [[b]] | w :: ws => (b :: w) :: ws := by rw [splitF, if_neg hb]; rfl
      rw [hs, ← ih]
      have hge := Lib.index_ge l [32]
      by_cases hm : Lib.index l [32] = -1
      · rw [Lib.count_miss hm]
        rfl
      · obtain ⟨j, hj⟩ : ∃ j : Nat, Lib.index l [32] = j := ⟨(Lib.index l [32]).toNat, by omega⟩
        have hix' : Lib.index (b :: l) [32] = ((j + 1 : Nat) : Int) := by rw [hix, if_neg (fun e => hm (beq_iff_eq.1 e)), hj]; omega
        rw [Lib.count_hit (by simp) hj, Nat.add_comm 1]
        unfold Lib.splitK
        rw [if_neg (by rw [hix']; intro e; have := beq_iff_eq.1 e; omega), if_neg (by rw [hj]; intro e; have := beq_iff_eq.1 e; omega), hix', hj]
        simp only [Int.toNat_natCast, Nat.add_zero, List.length_cons, List.length_nil, Nat.zero_add]
        rw [show j + 1 + 1 = (j + 1) + 1 from rfl, List.take_succ_cons, List.drop_succ_cons]
/-- digits tell their number to the library's parser -/
theorem parseUint10_snoc : ∀ (l : List UInt8) (acc v : Nat) (c : UInt8), Lib.parseUint10 acc l = .ok v → 48 ≤ c.toNat ∧ c.toNat ≤ 57 → v * 10 + (c.toNat - 48) < 18446744073709551616 → Lib.parseUint10 acc (l ++ [c]) = .ok (v * 10 + (c.toNat - 48))
  | [], acc, v, c, h, hc, hv => by
    simp only [Lib.parseUint10] at h
    injection h with h
    subst h
    simp only [List.nil_append, Lib.parseUint10]
    rw [if_pos hc, if_neg (by omega), if_neg (by omega)]
  | d :: l, acc, v, c, h, hc, hv => by
    simp only [Lib.parseUint10] at h
    simp only [List.cons_append, Lib.parseUint10]
    split at h
    · rename_i hd
      rw [if_pos hd]
      split at h
      · cases h
      · rename_i h1
        rw [if_neg h1]
        split at h
        · cases h
        · rename_i h2
          rw [if_neg h2]
          exact parseUint10_snoc l _ v c h hc hv
    · cases h
theorem dig_toNat {d : Nat} (h : d < 10) : (UInt8.ofNat (48 + d)).toNat = 48 + d := by
  rw [UInt8.toNat_ofNat', Nat.mod_eq_of_lt (by omega)]
theorem parse_digits (u : Nat) (hu : u < 18446744073709551616) : Lib.parseUint10 0 (Lib.decDigits u) = .ok u := by
  induction u using Nat.strongRecOn with
  | _ u ih =>
    by_cases h : u < 10
    · rw [Lib.decDigits, dif_pos h]
      simp only [Lib.parseUint10]
      rw [dig_toNat h, if_pos (by omega), if_neg (by omega), if_neg (by omega)]
      congr 1; omega
    · rw [Lib.decDigits, dif_neg h, parseUint10_snoc _ 0 (u / 10) _ (ih (u / 10) (by omega) (by omega)) (by rw [dig_toNat (by omega)]; omega) (by rw [dig_toNat (by omega)]; omega), dig_toNat (by omega)]
      congr 1; omega
theorem digits_ne (u : Nat) : Lib.decDigits u ≠ [] := by
  rw [Lib.decDigits]
  split <;> simp
theorem atoi_itoa (n : Int) (h0 : -9223372036854775808 ≤ n) (h1 : n ≤ 9223372036854775807) : Lib.atoiAll (Lib.itoa n) = .ok n := by
  by_cases hn : n < 0
  · rw [Lib.itoa, if_pos hn]
    simp only [Lib.atoiAll]
    have h45 : (45 : UInt8).toNat = 45 := rfl
    rw [h45, if_pos (.inr rfl), Lib.parseMag, if_neg (digits_ne _), parse_digits _ (by omega)]
    have e1 : ¬ (9223372036854775808 < n.natAbs) := by omega
    have e2 : -(n.natAbs : Int) = n := by omega
    simp [e1, e2]
  · rw [Lib.itoa, if_neg hn]
    have hr := digits_range n.toNat
    have hp := parse_digits n.toNat (by omega)
    have hne := digits_ne n.toNat
    revert hr hp hne
    generalize Lib.decDigits n.toNat = l
    intro hr hp hne
    match l, hne with
    | c :: r, hne =>
      have hc := hr c (by simp)
      simp only [Lib.atoiAll]
      rw [if_neg (by omega), Lib.parseMag, if_neg hne, hp]
      simp only
      rw [if_neg (by omega), if_neg (by omega), if_neg (by omega)]
      congr 1; omega
/-- what Atoi says of a word, told apart: a number; or none -/
def atoiD (s : List UInt8) : D := match Lib.atoiAll s with
  | .ok v => .tup [.int .i64 v, .ifn true]
  | .range => .tup [.int .i64 (Lib.atoiSat s), .ifn false]
  | _ => .tup [.int .i64 0, .ifn false]
theorem splitF_ne (s : List UInt8) : splitF s ≠ [] := by
  cases s with
  | nil => simp [splitF]
  | cons b l =>
    unfold splitF
    split
    · simp
    · split <;> simp
theorem splitF_len (s : List UInt8) : (splitF s).length ≤ s.length + 1 := by
  induction s with
  | nil => simp [splitF]
  | cons b l ih =>
    unfold splitF
    split
    · simp; omega
    · split
      · simp
      · rename_i w ws e
        rw [e] at ih
        simpa using Nat.le_succ_of_le ih
theorem splitF_part (s : List UInt8) : ∀ w ∈ splitF s, w.length ≤ s.length := by
  induction s with
  | nil => simp [splitF]
  | cons b l ih =>
    unfold splitF
    split
    · intro w hw
      rcases List.mem_cons.1 hw with rfl | hw
      · simp
      · have := ih w hw
        simp; omega
    · split
      · intro w hw
        simp only [List.mem_singleton] at hw
        subst hw
        simp
      · rename_i w ws e
        rw [e] at ih
        intro x hx
        rcases List.mem_cons.1 hx with rfl | hx
        · have := ih w (by simp)
          simpa using this
        · have := ih x (by simp [hx])
          simp; omega
end Go.Proofs.YtafomdobfmmleaaGreatDoor
