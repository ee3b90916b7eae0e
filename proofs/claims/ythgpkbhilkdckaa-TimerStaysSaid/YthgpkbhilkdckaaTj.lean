/- Start, Tick, Total of package timer and of its reference, and the law's 'live'. -/
import Derived.Test.YthgpkbhilkdckaaTi
namespace Go.Proofs.Ythgpkbhilkdckaa
open Go.RowKit
set_option linter.unusedVariables false

theorem run_pos {l k : Int} (h : 0 < mK l k) : l = mL l k ∧ k = sK l k := by
  cases e : tOK l k
  · have := (mF e).2; omega
  · have := mT e; unfold sK; rw [if_neg (by omega), this.1, this.2]; exact ⟨rfl, rfl⟩
theorem run_zero {l k : Int} (h : ¬ 0 < mK l k) : mL l k = sK l k := by
  have := mB l k; unfold sK; rw [if_pos (by omega)]
theorem sK0 {l k : Int} (h : mK l k = 0) : mL l k = sK l k := by unfold sK; rw [if_pos h]
theorem sK1 {l k : Int} (h : mK l k ≠ 0) : mK l k = sK l k := by unfold sK; rw [if_neg h]
theorem tK0 {l k : Int} (h : mK l k = 0) : mK l k = tK l k ∧ false = tO l k := by unfold tK tO; rw [if_pos h, h]; exact ⟨rfl, rfl⟩
theorem tK1 {l k : Int} (h : mK l k ≠ 0) : mK l k - 1 = tK l k ∧ (mK l k - 1 == 0) = tO l k := by
  unfold tK tO; rw [if_neg h]
  refine ⟨rfl, ?_⟩
  by_cases e : mK l k = 1
  · rw [e]; rfl
  · have : ¬ mK l k - 1 = 0 := by omega
    rw [beq_eq_false_iff_ne.2 this, beq_eq_false_iff_ne.2 e]
theorem retTB {a b c d : Int} {x y : Bool} (h1 : a = c) (h2 : b = d) (h3 : x = y) : Ending.returned (.tuple #[.agg #[.int .i64 a, .int .i64 b], .bool x]) = .returned (.tuple #[.agg #[.int .i64 c, .int .i64 d], .bool y]) := by rw [h1, h2, h3]


set_option maxHeartbeats 400000 in
theorem start28 (l k : Int) (w : World) : Calls Try.prog 28 #[.agg #[.int .i64 l, .int .i64 k]] w fun e w' => e = .returned (.agg #[.int .i64 (mL l k), .int .i64 (sK l k)]) ∧ B w w' := by
  have hm := mB l k
  by_cases h0 : 0 < mK l k
  · have e1 := Lib.hid (run_pos h0)
    go_enter Try.func28, Try.ntmps28
    go_wp2_with (first | (go_at_call 45; refine (runs45 _ _ _).mono ?_; rintro e w1 ⟨rfl, hb1⟩; obtain ⟨f1, g1⟩ := bcell hb1; obtain ⟨y1, z1⟩ := bsize (w := w) 1 hb1 (by simp)))
    exact bodyPost_ret (v := .agg #[.int .i64 (l), .int .i64 (k)]) (by simp [results, Try.results28, go_sem, *]) rfl ⟨retT e1.out.1 e1.out.2, (by repeat (first | (with_reducible exact Below.refl _ _) | (with_reducible refine Below.setCell ?_ (by simp) _) | (with_reducible refine Below.drew ?_) | (with_reducible refine B.trans ?_ (B.alloc' _ _)) | (with_reducible refine B.trans ?_ hb1)))⟩
  · have e1 := Lib.hid (run_zero h0)
    go_enter Try.func28, Try.ntmps28
    go_wp2_with (first | (go_at_call 45; refine (runs45 _ _ _).mono ?_; rintro e w1 ⟨rfl, hb1⟩; obtain ⟨f1, g1⟩ := bcell hb1; obtain ⟨y1, z1⟩ := bsize (w := w) 1 hb1 (by simp)) | (go_at_call 38; refine (again38 _ _ _).mono ?_; rintro e w2 ⟨rfl, hb2⟩; obtain ⟨f2, g2⟩ := bcell hb2; have s2 := hb2.size; have y2 := Nat.lt_of_lt_of_le y1 s2; have z2 := Nat.lt_of_lt_of_le (z1 1 (by omega)) s2; clear s2))
    exact bodyPost_ret (v := .agg #[.int .i64 (mL l k), .int .i64 (mL l k)]) (by simp [results, Try.results28, go_sem, *]) rfl ⟨retT rfl e1.out, (by repeat (first | (with_reducible exact Below.refl _ _) | (with_reducible refine Below.setCell ?_ (by simp) _) | (with_reducible refine Below.drew ?_) | (with_reducible refine B.trans ?_ (B.alloc' _ _)) | (with_reducible refine B.trans ?_ hb2) | (with_reducible refine B.trans ?_ hb1)))⟩


set_option maxHeartbeats 400000 in
theorem start37 (l k : Int) (w : World) : Calls Try.prog 37 #[.agg #[.int .i64 l, .int .i64 k]] w fun e w' => e = .returned (.agg #[.int .i64 (mL l k), .int .i64 (sK l k)]) ∧ B w w' := by
  have hm := mB l k
  by_cases h0 : mK l k = 0
  · have e1 := Lib.hid (sK0 h0)
    have h1 : (mK l k == 0) = true := by simpa using h0
    clear h0
    go_enter Try.func37, Try.ntmps37
    go_wp2_with (first | (go_at_call 111; refine (may111 _ _ _).mono ?_; rintro e w1 ⟨rfl, hb1⟩; obtain ⟨f1, g1⟩ := bcell hb1; obtain ⟨y1, z1⟩ := bsize (w := w) 1 hb1 (by simp)))
    exact bodyPost_ret (v := .agg #[.int .i64 (mL l k), .int .i64 (mL l k)]) (by simp [results, Try.results37, go_sem, *]) rfl ⟨retT rfl e1.out, (by repeat (first | (with_reducible exact Below.refl _ _) | (with_reducible refine Below.setCell ?_ (by simp) _) | (with_reducible refine Below.drew ?_) | (with_reducible refine B.trans ?_ (B.alloc' _ _)) | (with_reducible refine B.trans ?_ hb1)))⟩
  · have e1 := Lib.hid (sK1 h0)
    have h1 : (mK l k == 0) = false := by simpa using h0
    clear h0
    go_enter Try.func37, Try.ntmps37
    go_wp2_with (first | (go_at_call 111; refine (may111 _ _ _).mono ?_; rintro e w1 ⟨rfl, hb1⟩; obtain ⟨f1, g1⟩ := bcell hb1; obtain ⟨y1, z1⟩ := bsize (w := w) 1 hb1 (by simp)))
    exact bodyPost_ret (v := .agg #[.int .i64 (mL l k), .int .i64 (mK l k)]) (by simp [results, Try.results37, go_sem, *]) rfl ⟨retT rfl e1.out, (by repeat (first | (with_reducible exact Below.refl _ _) | (with_reducible refine Below.setCell ?_ (by simp) _) | (with_reducible refine Below.drew ?_) | (with_reducible refine B.trans ?_ (B.alloc' _ _)) | (with_reducible refine B.trans ?_ hb1)))⟩


set_option maxHeartbeats 400000 in
theorem tick30 (l k : Int) (w : World) : Calls Try.prog 30 #[.agg #[.int .i64 l, .int .i64 k]] w fun e w' => e = .returned (.tuple #[.agg #[.int .i64 (mL l k), .int .i64 (tK l k)], .bool (tO l k)]) ∧ B w w' := by
  have hm := mB l k
  by_cases h0 : mK l k = 0
  · have e1 := Lib.hid (tK0 h0)
    have h1 : (mK l k == 0) = true := by simpa using h0
    clear h0
    go_enter Try.func30, Try.ntmps30
    go_wp2_with (first | (go_at_call 110; refine (may110 _ _ _).mono ?_; rintro e w1 ⟨rfl, hb1⟩; obtain ⟨f1, g1⟩ := bcell hb1; obtain ⟨y1, z1⟩ := bsize (w := w) 1 hb1 (by simp)))
    exact bodyPost_ret (v := .tuple #[.agg #[.int .i64 (mL l k), .int .i64 (mK l k)], .bool false]) (by simp [results, Try.results30, go_sem, *]) rfl ⟨retTB rfl e1.out.1 e1.out.2, (by repeat (first | (with_reducible exact Below.refl _ _) | (with_reducible refine Below.setCell ?_ (by simp) _) | (with_reducible refine Below.drew ?_) | (with_reducible refine B.trans ?_ (B.alloc' _ _)) | (with_reducible refine B.trans ?_ hb1)))⟩
  · have e1 := Lib.hid (tK1 h0)
    have h1 : (mK l k == 0) = false := by simpa using h0
    clear h0
    go_enter Try.func30, Try.ntmps30
    go_wp2_with (first | (go_at_call 110; refine (may110 _ _ _).mono ?_; rintro e w1 ⟨rfl, hb1⟩; obtain ⟨f1, g1⟩ := bcell hb1; obtain ⟨y1, z1⟩ := bsize (w := w) 1 hb1 (by simp)))
    go_region
    go_wp2
    exact bodyPost_ret (v := .tuple #[.agg #[.int .i64 (mL l k), .int .i64 (mK l k - 1)], .bool (mK l k - 1 == 0)]) (by simp [results, Try.results30, go_sem, *]) rfl ⟨retTB rfl e1.out.1 e1.out.2, (by repeat (first | (with_reducible exact Below.refl _ _) | (with_reducible refine Below.setCell ?_ (by simp) _) | (with_reducible refine Below.drew ?_) | (with_reducible refine B.trans ?_ (B.alloc' _ _)) | (with_reducible refine B.trans ?_ hb1)))⟩


set_option maxHeartbeats 400000 in
theorem tick33 (l k : Int) (w : World) : Calls Try.prog 33 #[.agg #[.int .i64 l, .int .i64 k]] w fun e w' => e = .returned (.tuple #[.agg #[.int .i64 (mL l k), .int .i64 (tK l k)], .bool (tO l k)]) ∧ B w w' := by
  have hm := mB l k
  by_cases h0 : mK l k = 0
  · have e1 := Lib.hid (tK0 h0)
    have h1 : (mK l k == 0) = true := by simpa using h0
    clear h0
    go_enter Try.func33, Try.ntmps33
    go_wp2_with (first | (go_at_call 111; refine (may111 _ _ _).mono ?_; rintro e w1 ⟨rfl, hb1⟩; obtain ⟨f1, g1⟩ := bcell hb1; obtain ⟨y1, z1⟩ := bsize (w := w) 1 hb1 (by simp)))
    exact bodyPost_ret (v := .tuple #[.agg #[.int .i64 (mL l k), .int .i64 (mK l k)], .bool false]) (by simp [results, Try.results33, go_sem, *]) rfl ⟨retTB rfl e1.out.1 e1.out.2, (by repeat (first | (with_reducible exact Below.refl _ _) | (with_reducible refine Below.setCell ?_ (by simp) _) | (with_reducible refine Below.drew ?_) | (with_reducible refine B.trans ?_ (B.alloc' _ _)) | (with_reducible refine B.trans ?_ hb1)))⟩
  · have e1 := Lib.hid (tK1 h0)
    have h1 : (mK l k == 0) = false := by simpa using h0
    clear h0
    go_enter Try.func33, Try.ntmps33
    go_wp2_with (first | (go_at_call 111; refine (may111 _ _ _).mono ?_; rintro e w1 ⟨rfl, hb1⟩; obtain ⟨f1, g1⟩ := bcell hb1; obtain ⟨y1, z1⟩ := bsize (w := w) 1 hb1 (by simp)))
    go_region
    go_wp2
    exact bodyPost_ret (v := .tuple #[.agg #[.int .i64 (mL l k), .int .i64 (mK l k - 1)], .bool (mK l k - 1 == 0)]) (by simp [results, Try.results33, go_sem, *]) rfl ⟨retTB rfl e1.out.1 e1.out.2, (by repeat (first | (with_reducible exact Below.refl _ _) | (with_reducible refine Below.setCell ?_ (by simp) _) | (with_reducible refine Below.drew ?_) | (with_reducible refine B.trans ?_ (B.alloc' _ _)) | (with_reducible refine B.trans ?_ hb1)))⟩


/-- how many ticks in all: the length and the sum after k doublings -/
def totS : Nat → Int × Int
  | 0 => (0, 8)
  | k + 1 => ((totS k).1 + (totS k).2, min (2 * (totS k).2) 4096)
theorem totB (k : Nat) : 0 ≤ (totS k).1 ∧ (totS k).1 ≤ 4096 * k ∧ 8 ≤ (totS k).2 ∧ (totS k).2 ≤ 4096 := by
  induction k with
  | zero => simp [totS]
  | succ k ih => simp only [totS]; omega
def totN (n : Int) : Nat := (min n 1048576).toNat
theorem totS_s (k : Nat) : (totS (k + 1)).1 = (totS k).1 + (totS k).2 ∧ (totS (k + 1)).2 = min (2 * (totS k).2) 4096 := ⟨rfl, rfl⟩


set_option maxHeartbeats 400000 in
theorem total32 (n : Int) (w : World) : Calls Try.prog 32 #[.int .i64 n] w fun e w' => e = .returned (.int .i64 (totS (totN n)).1) ∧ B w w' := by
  have hN := Lib.hid (show (totN n : Int) = max (min n 1048576) 0 by unfold totN; omega)
  rcases show n < 0 ∨ (0 ≤ n ∧ n ≤ 1048576) ∨ 1048576 < n by omega with h | h | h
  ·
    go_enter Try.func32, Try.ntmps32
    go_wp2
    go_loop [3, 4, 8] (fun s l i => ∃ k : Nat, k ≤ totN n ∧ s = .int .i64 (totS k).1 ∧ l = .int .i64 (totS k).2 ∧ i = .int .i64 k) (fun _ _ i => totN n - (intOf i).toNat)
    case atStart => exact ⟨0, Nat.zero_le _, rfl, rfl, rfl⟩
    case round =>
      obtain ⟨k, hk, rfl, rfl, rfl⟩ := hrel
      have hb := totB k
      by_cases hlt : k < totN n
      · have := hN.out; omega
      · have hkk := Lib.hid (show k = totN n by omega)
        have hi : decide ((k : Int) < 0) = false := decide_eq_false (by have := hN.out; omega)
        go_wp2
        go_ret
        exact ⟨retI (by rw [hkk.out]), Below.refl _ _⟩
  ·
    obtain ⟨h0, h1⟩ := h
    go_enter Try.func32, Try.ntmps32
    go_wp2
    go_loop [3, 4, 8] (fun s l i => ∃ k : Nat, k ≤ totN n ∧ s = .int .i64 (totS k).1 ∧ l = .int .i64 (totS k).2 ∧ i = .int .i64 k) (fun _ _ i => totN n - (intOf i).toNat)
    case atStart => exact ⟨0, Nat.zero_le _, rfl, rfl, rfl⟩
    case round =>
      obtain ⟨k, hk, rfl, rfl, rfl⟩ := hrel
      have hb := totB k
      by_cases hlt : k < totN n
      · have hi : (k : Int) < n := by have := hN.out; omega
        have h1 := Lib.hid (show (totS k).1 + (totS k).2 = (totS (k+1)).1 from rfl)
        by_cases hm : 2 * (totS k).2 ≤ 4096
        · have h2 := Lib.hid (show 2 * (totS k).2 = (totS (k+1)).2 by show _ = min (2 * (totS k).2) 4096; omega)
          go_wp2
          go_round
          case rel => exact ⟨k + 1, by omega, by rw [h1.out], by rw [h2.out], by go_num⟩
          case measure => simp [intOf]; omega
        · have h2 := Lib.hid (show 4096 = (totS (k+1)).2 by show _ = min (2 * (totS k).2) 4096; omega)
          have hm' : 4096 < 2 * (totS k).2 := by omega
          go_wp2
          go_round
          case rel => exact ⟨k + 1, by omega, by rw [h1.out], by rw [← h2.out], by go_num⟩
          case measure => simp [intOf]; omega
      · have hkk := Lib.hid (show k = totN n by omega)
        have hi : decide ((k : Int) < n) = false := decide_eq_false (by have := hN.out; omega)
        go_wp2
        go_ret
        exact ⟨retI (by rw [hkk.out]), Below.refl _ _⟩
  ·
    go_enter Try.func32, Try.ntmps32
    go_wp2
    go_loop [3, 4, 8] (fun s l i => ∃ k : Nat, k ≤ totN n ∧ s = .int .i64 (totS k).1 ∧ l = .int .i64 (totS k).2 ∧ i = .int .i64 k) (fun _ _ i => totN n - (intOf i).toNat)
    case atStart => exact ⟨0, Nat.zero_le _, rfl, rfl, rfl⟩
    case round =>
      obtain ⟨k, hk, rfl, rfl, rfl⟩ := hrel
      have hb := totB k
      by_cases hlt : k < totN n
      · have hi : (k : Int) < 1048576 := by have := hN.out; omega
        have h1 := Lib.hid (show (totS k).1 + (totS k).2 = (totS (k+1)).1 from rfl)
        by_cases hm : 2 * (totS k).2 ≤ 4096
        · have h2 := Lib.hid (show 2 * (totS k).2 = (totS (k+1)).2 by show _ = min (2 * (totS k).2) 4096; omega)
          go_wp2
          go_round
          case rel => exact ⟨k + 1, by omega, by rw [h1.out], by rw [h2.out], by go_num⟩
          case measure => simp [intOf]; omega
        · have h2 := Lib.hid (show 4096 = (totS (k+1)).2 by show _ = min (2 * (totS k).2) 4096; omega)
          have hm' : 4096 < 2 * (totS k).2 := by omega
          go_wp2
          go_round
          case rel => exact ⟨k + 1, by omega, by rw [h1.out], by rw [← h2.out], by go_num⟩
          case measure => simp [intOf]; omega
      · have hkk := Lib.hid (show k = totN n by omega)
        have hi : decide ((k : Int) < 1048576) = false := decide_eq_false (by have := hN.out; omega)
        go_wp2
        go_ret
        exact ⟨retI (by rw [hkk.out]), Below.refl _ _⟩


set_option maxHeartbeats 400000 in
theorem total47 (n : Int) (w : World) : Calls Try.prog 47 #[.int .i64 n] w fun e w' => e = .returned (.int .i64 (totS (totN n)).1) ∧ B w w' := by
  have hN := Lib.hid (show (totN n : Int) = max (min n 1048576) 0 by unfold totN; omega)
  rcases show n < 0 ∨ (0 ≤ n ∧ n ≤ 1048576) ∨ 1048576 < n by omega with h | h | h
  ·
    go_enter Try.func47, Try.ntmps47
    go_wp2
    go_loop [3, 4, 5] (fun s l i => ∃ k : Nat, k ≤ totN n ∧ s = .int .i64 (totS k).1 ∧ l = .int .i64 (totS k).2 ∧ i = .int .i64 k) (fun _ _ i => totN n - (intOf i).toNat)
    case atStart => exact ⟨0, Nat.zero_le _, rfl, rfl, rfl⟩
    case round =>
      obtain ⟨k, hk, rfl, rfl, rfl⟩ := hrel
      have hb := totB k
      by_cases hlt : k < totN n
      · have := hN.out; omega
      · have hkk := Lib.hid (show k = totN n by omega)
        have hi : decide ((k : Int) < 0) = false := decide_eq_false (by have := hN.out; omega)
        go_wp2
        go_ret
        exact ⟨retI (by rw [hkk.out]), Below.refl _ _⟩
  ·
    obtain ⟨h0, h1⟩ := h
    go_enter Try.func47, Try.ntmps47
    go_wp2
    go_loop [3, 4, 5] (fun s l i => ∃ k : Nat, k ≤ totN n ∧ s = .int .i64 (totS k).1 ∧ l = .int .i64 (totS k).2 ∧ i = .int .i64 k) (fun _ _ i => totN n - (intOf i).toNat)
    case atStart => exact ⟨0, Nat.zero_le _, rfl, rfl, rfl⟩
    case round =>
      obtain ⟨k, hk, rfl, rfl, rfl⟩ := hrel
      have hb := totB k
      by_cases hlt : k < totN n
      · have hi : (k : Int) < n := by have := hN.out; omega
        have h1 := Lib.hid (show (totS k).1 + (totS k).2 = (totS (k+1)).1 from rfl)
        by_cases hm : 2 * (totS k).2 ≤ 4096
        · have h2 := Lib.hid (show 2 * (totS k).2 = (totS (k+1)).2 by show _ = min (2 * (totS k).2) 4096; omega)
          go_wp2
          go_round
          case rel => exact ⟨k + 1, by omega, by rw [h1.out], by rw [h2.out], by go_num⟩
          case measure => simp [intOf]; omega
        · have h2 := Lib.hid (show 4096 = (totS (k+1)).2 by show _ = min (2 * (totS k).2) 4096; omega)
          have hm' : 4096 < 2 * (totS k).2 := by omega
          go_wp2
          go_round
          case rel => exact ⟨k + 1, by omega, by rw [h1.out], by rw [← h2.out], by go_num⟩
          case measure => simp [intOf]; omega
      · have hkk := Lib.hid (show k = totN n by omega)
        have hi : decide ((k : Int) < n) = false := decide_eq_false (by have := hN.out; omega)
        go_wp2
        go_ret
        exact ⟨retI (by rw [hkk.out]), Below.refl _ _⟩
  ·
    go_enter Try.func47, Try.ntmps47
    go_wp2
    go_loop [3, 4, 5] (fun s l i => ∃ k : Nat, k ≤ totN n ∧ s = .int .i64 (totS k).1 ∧ l = .int .i64 (totS k).2 ∧ i = .int .i64 k) (fun _ _ i => totN n - (intOf i).toNat)
    case atStart => exact ⟨0, Nat.zero_le _, rfl, rfl, rfl⟩
    case round =>
      obtain ⟨k, hk, rfl, rfl, rfl⟩ := hrel
      have hb := totB k
      by_cases hlt : k < totN n
      · have hi : (k : Int) < 1048576 := by have := hN.out; omega
        have h1 := Lib.hid (show (totS k).1 + (totS k).2 = (totS (k+1)).1 from rfl)
        by_cases hm : 2 * (totS k).2 ≤ 4096
        · have h2 := Lib.hid (show 2 * (totS k).2 = (totS (k+1)).2 by show _ = min (2 * (totS k).2) 4096; omega)
          go_wp2
          go_round
          case rel => exact ⟨k + 1, by omega, by rw [h1.out], by rw [h2.out], by go_num⟩
          case measure => simp [intOf]; omega
        · have h2 := Lib.hid (show 4096 = (totS (k+1)).2 by show _ = min (2 * (totS k).2) 4096; omega)
          have hm' : 4096 < 2 * (totS k).2 := by omega
          go_wp2
          go_round
          case rel => exact ⟨k + 1, by omega, by rw [h1.out], by rw [← h2.out], by go_num⟩
          case measure => simp [intOf]; omega
      · have hkk := Lib.hid (show k = totN n by omega)
        have hi : decide ((k : Int) < 1048576) = false := decide_eq_false (by have := hN.out; omega)
        go_wp2
        go_ret
        exact ⟨retI (by rw [hkk.out]), Below.refl _ _⟩


set_option maxHeartbeats 400000 in
theorem live27 (w : World) : Calls Try.prog 27 #[] w fun e w' => e = .returned (.bool true) ∧ B w w' := by
  have e1 : mL 8 0 = 8 := by decide
  have e2 : sK 8 0 = 8 := by decide
  have e3 : dL 8 8 = 16 := by decide
  have e4 : (totS (totN 3)).1 = 56 := by decide
  go_enter Try.func27, Try.ntmps27
  go_wp2_with (first | (go_at_call 29; refine (new29 _).mono ?_; rintro e w1 ⟨rfl, hb1⟩) | (go_at_call 28; refine (start28 _ _ _).mono ?_; rintro e w2 ⟨rfl, hb2⟩) | (go_at_call 31; refine (double31 _ _ _).mono ?_; rintro e w3 ⟨rfl, hb3⟩; obtain ⟨f3, g3⟩ := bcell hb3) | (go_at_call 32; refine (total32 _ _).mono ?_; rintro e w4 ⟨rfl, hb4⟩))
  go_ret
  exact ⟨rfl, (by repeat (first | (with_reducible exact Below.refl _ _) | (with_reducible refine Below.setCell ?_ (by simp) _) | (with_reducible refine Below.drew ?_) | (with_reducible refine B.trans ?_ (B.alloc' _ _)) | (with_reducible refine B.trans ?_ hb4) | (with_reducible refine B.trans ?_ hb3) | (with_reducible refine B.trans ?_ hb2) | (with_reducible refine B.trans ?_ hb1)))⟩


end Go.Proofs.Ythgpkbhilkdckaa