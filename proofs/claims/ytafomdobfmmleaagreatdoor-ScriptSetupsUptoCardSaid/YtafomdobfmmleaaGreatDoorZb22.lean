/- Lemmas and contracts, part 22. -/
import Derived.Test.YtafomdobfmmleaaGreatDoorZb21
import Derived.Deep.QuietTactic
import Derived.BigQuiet
import Derived.Deep.Light
import Derived.Deep.RegionLaw
import Derived.Deep.RegionHeld3
/- The reference's rune1: the rune with which a text begins. -/
namespace Go.Proofs.YtafomdobfmmleaaGreatDoor
open Go.RowKit Go.Deep
set_option linter.unusedVariables false

theorem bstrAt (s : List UInt8) (k : Nat) (x : UInt8) (hx : s[k]? = some x) : ∀ h : k < (bstr s).size, (bstr s)[k]'h = x := by
  intro h
  obtain ⟨h1, h2⟩ := List.getElem?_eq_some_iff.1 hx
  rw [← h2]
  rfl
def atN (l : List UInt8) (i : Nat) : Nat := (l.getD i 0).toNat
/-- the rune with which a text begins, and its bytes -/
def r1 (l : List UInt8) : Nat × Nat := rune1N l.length (atN l 0) (atN l 1) (atN l 2) (atN l 3)
theorem atN_lt (l : List UInt8) (i : Nat) : atN l i < 256 := UInt8.toNat_lt _
theorem at_get {l : List UInt8} {i : Nat} (h : i < l.length) : ∃ x, l[i]? = some x ∧ x.toNat = atN l i := ⟨_, List.getElem?_eq_getElem h, by simp [atN, h]⟩
theorem decode_r1 (s : List UInt8) (pos : Nat) (h : pos < s.length) : Utf8.decode (bstr s) pos = if (r1 (s.drop pos)).2 = 0 then (65533, 1) else r1 (s.drop pos) := by
  have hg : ∀ i, ((bstr s).get! (pos + i)).toNat = atN (s.drop pos) i := by
    intro i
    simp only [atN, bstr, ByteArray.get!, List.getD, List.getElem?_drop]
    rw [getElem!_def]
    simp only [List.getElem?_toArray]
    cases s[pos + i]? <;> rfl
  rw [Lib.decode_at, bstr_size]
  have h0 := hg 0
  rw [Nat.add_zero] at h0
  rw [h0, hg 1, hg 2, hg 3, decode_rune1 _ _ _ _ _ (by omega) (atN_lt _ _) (atN_lt _ _) (atN_lt _ _) (atN_lt _ _)]
  unfold r1
  rw [List.length_drop]
/-- what the loop over the following bytes has -/
def accN (a : Nat) (cb : Nat → Nat) : Nat → Nat
  | 0 => a
  | q + 1 => if q = 0 then a else accN a cb q * 64 + cb q % 64
theorem acc_1 (a : Nat) (cb : Nat → Nat) : accN a cb 1 = a := by simp [accN]
theorem acc_s (a : Nat) (cb : Nat → Nat) (q : Nat) (h : 1 ≤ q) : accN a cb (q + 1) = accN a cb q * 64 + cb q % 64 := by
  rw [accN, if_neg (by omega)]
theorem acc_le (a : Nat) (cb : Nat → Nat) (q n : Nat) (hn : n ≤ 4) (ha : (n = 2 ∧ a < 32) ∨ (n = 3 ∧ a < 16) ∨ (n = 4 ∧ a < 8)) (h1 : 1 ≤ q) (h : q < n) : accN a cb q ≤ 32767 := by
  have hq : q = 1 ∨ q = 2 ∨ q = 3 := by omega
  rcases hq with rfl | rfl | rfl
  · rw [acc_1]; omega
  · rw [acc_s _ _ 1 (by omega), acc_1]; omega
  · rw [acc_s _ _ 2 (by omega), acc_s _ _ 1 (by omega), acc_1]; omega
def maskN (n b : Nat) : Nat := if n = 2 then b % 32 else if n = 3 then b % 16 else b % 8
theorem r1_none {l : List UInt8} (h : sizeN (atN l 0) = 0 ∨ l.length < sizeN (atN l 0)) : r1 l = (0, 0) := by unfold r1 rune1N; rw [if_pos h]
theorem r1_one {l : List UInt8} (h : sizeN (atN l 0) = 1) (hl : 1 ≤ l.length) : r1 l = (atN l 0, 1) := by unfold r1 rune1N; rw [if_neg (by omega), if_pos h]
theorem r1_fit {l : List UInt8} {n : Nat} (h : sizeN (atN l 0) = n) (hn : 2 ≤ n ∧ n ≤ 4) (hl : n ≤ l.length) (hc : ∀ j, 1 ≤ j → j < n → contN (atN l j) = true) : r1 l = fitN n (accN (maskN n (atN l 0)) (atN l) n) := by
  unfold r1 rune1N
  rw [h, if_neg (by omega), if_neg (by omega)]
  have : n = 2 ∨ n = 3 ∨ n = 4 := by omega
  rcases this with rfl | rfl | rfl
  · rw [if_pos rfl, hc 1 (by omega) (by omega)]
    simp [acc_s, acc_1, maskN]
  · rw [if_neg (by omega), if_pos rfl, hc 1 (by omega) (by omega), hc 2 (by omega) (by omega)]
    simp [acc_s, acc_1, maskN]
  · rw [if_neg (by omega), if_neg (by omega), hc 1 (by omega) (by omega), hc 2 (by omega) (by omega), hc 3 (by omega) (by omega)]
    simp [acc_s, acc_1, maskN]
theorem r1_bad {l : List UInt8} {n q : Nat} (h : sizeN (atN l 0) = n) (hn : 2 ≤ n ∧ n ≤ 4) (hl : n ≤ l.length) (hq : 1 ≤ q ∧ q < n) (hc : contN (atN l q) = false) : r1 l = (0, 0) := by
  unfold r1 rune1N
  rw [h, if_neg (by omega), if_neg (by omega)]
  have : n = 2 ∨ n = 3 ∨ n = 4 := by omega
  have hq' : q = 1 ∨ q = 2 ∨ q = 3 := by omega
  rcases this with rfl | rfl | rfl <;> rcases hq' with rfl | rfl | rfl <;> first | omega | simp [hc]
theorem size_le (k : Nat) : sizeN k ≤ 4 := by unfold sizeN; (repeat' split) <;> omega
theorem and_mask (y : Nat) (h : y < 256) : bits BinOp.and IntKind.i64 (y : Int) 31 = ((y % 32 : Nat) : Int) ∧ bits BinOp.and IntKind.i64 (y : Int) 15 = ((y % 16 : Nat) : Int) ∧ bits BinOp.and IntKind.i64 (y : Int) 7 = ((y % 8 : Nat) : Int) := by
  have h' : ∀ k : Fin 256, bits BinOp.and IntKind.i64 ((k.val : Int)) 31 = ((k.val % 32 : Nat) : Int) ∧ bits BinOp.and IntKind.i64 ((k.val : Int)) 15 = ((k.val % 16 : Nat) : Int) ∧ bits BinOp.and IntKind.i64 ((k.val : Int)) 7 = ((k.val % 8 : Nat) : Int) := by decide +kernel
  exact h' ⟨y, h⟩
theorem Below.drewN' (w : World) (n : Nat) : B w (w.drewN n) := ⟨rfl, rfl, rfl, Nat.le_refl _, fun _ _ => rfl⟩
/-- what rune1 answers -/
def R1Post (w : World) (l : List UInt8) (e : Ending) (w' : World) : Prop := e = .returned (.tuple #[.int .i64 ((r1 l).1 : Int), .int .i64 ((r1 l).2 : Int)]) ∧ B w w'
set_option maxRecDepth 20000 in
set_option maxHeartbeats 4000000 in
theorem rRune1_none (w : World) (l : List UInt8) (h0 : 1 ≤ l.length) (hl : l.length ≤ 4194304) (hn : sizeN (atN l 0) = 0 ∨ l.length < sizeN (atN l 0)) : Calls Tryz.prog 101 #[.string (bstr l)] w (R1Post w l) := by
  have HR := Lib.hid (r1_none hn)
  obtain ⟨x0, hx0, hxa⟩ := at_get h0
  have hsz := bstr_size l
  have i0 := bstrAt l 0 x0 hx0
  have HSZ := Lib.hid (fun w' => (show Calls Tryz.prog 141 #[.int .u8 (x0.toNat : Int)] w' fun e w2 => e = .returned (.int .i64 (sizeN (atN l 0) : Int)) ∧ w' = w2 from by rw [← hxa]; exact rSize_c w' x0.toNat x0.toNat_lt))
  have HX := Lib.hid hxa
  generalize bstr l = b at *
  generalize sizeN (atN l 0) = n at *
  obtain ⟨m, hm⟩ : ∃ m, l.length = m := ⟨_, rfl⟩
  have HM := Lib.hid hm
  rw [hm] at hsz h0 hl hn
  have g0 : 0 < m := by omega
  clear hm hx0 hxa
  by_cases e0 : n = 0
  · subst e0
    clear hn
    go_enter Tryz.func101, Tryz.ntmps101
    go_wp2_with (first
      | (go_at_call 141; (with_reducible refine callsM (HSZ.out _) ?_); rintro e w1 ⟨rfl, rfl⟩))
    go_ret2
    refine ⟨?_, Below.refl _ _⟩
    rw [HR.out]; rfl
  · have g1 : ((n : Int) == 0) = false := by simp; omega
    have g2 : (m : Int) < n := by omega
    clear e0 hn
    go_enter Tryz.func101, Tryz.ntmps101
    go_wp2_with (first
      | (go_at_call 141; (with_reducible refine callsM (HSZ.out _) ?_); rintro e w1 ⟨rfl, rfl⟩))
    go_ret2
    refine ⟨?_, Below.refl _ _⟩
    rw [HR.out]; rfl
set_option maxRecDepth 20000 in
set_option maxHeartbeats 4000000 in
theorem rRune1_one (w : World) (l : List UInt8) (h0 : 1 ≤ l.length) (hl : l.length ≤ 4194304) (hn : sizeN (atN l 0) = 1) : Calls Tryz.prog 101 #[.string (bstr l)] w (R1Post w l) := by
  have HR := Lib.hid (r1_one hn h0)
  obtain ⟨x0, hx0, hxa⟩ := at_get h0
  have hsz := bstr_size l
  have i0 := bstrAt l 0 x0 hx0
  have HSZ := Lib.hid (fun w' => (show Calls Tryz.prog 141 #[.int .u8 (x0.toNat : Int)] w' fun e w2 => e = .returned (.int .i64 1) ∧ w' = w2 from by have := rSize_c w' x0.toNat x0.toNat_lt; rw [hxa, hn] at this; rw [hxa]; exact this))
  have HX := Lib.hid hxa
  generalize bstr l = b at *
  obtain ⟨m, hm⟩ : ∃ m, l.length = m := ⟨_, rfl⟩
  have HM := Lib.hid hm
  rw [hm] at hsz h0 hl
  have g0 : 0 < m := by omega
  have g2 : ¬ (m : Int) < 1 := by omega
  have g3 := x0.toNat_lt
  clear hm hx0 hxa hn
  go_enter Tryz.func101, Tryz.ntmps101
  go_wp2_with (first
    | (go_at_call 141; (with_reducible refine callsM (HSZ.out _) ?_); rintro e w1 ⟨rfl, rfl⟩))
  go_ret2
  refine ⟨?_, Below.refl _ _⟩
  rw [HR.out, HX.out]; rfl
set_option maxRecDepth 20000 in
set_option maxHeartbeats 8000000 in
theorem rRune1_2 (w : World) (l : List UInt8) (hn : sizeN (atN l 0) = 2) (h0 : 2 ≤ l.length) (hl : l.length ≤ 4194304) : Calls Tryz.prog 101 #[.string (bstr l)] w (R1Post w l) := by
  have HF := Lib.hid (fun hc => r1_fit hn (by omega) h0 hc)
  have HB := Lib.hid (fun q hq hc => r1_bad (q := q) hn (by omega) h0 hq hc)
  obtain ⟨x0, hx0, hxa⟩ := at_get (show 0 < l.length by omega)
  have hsz := bstr_size l
  have i0 := bstrAt l 0 x0 hx0
  have HI := Lib.hid (bstrAt l)
  have HG := Lib.hid (fun i (h : i < l.length) => at_get h)
  have HSZ := Lib.hid (fun w' => (show Calls Tryz.prog 141 #[.int .u8 (x0.toNat : Int)] w' fun e w2 => e = .returned (.int .i64 2) ∧ w' = w2 from by have := rSize_c w' x0.toNat x0.toNat_lt; rw [hxa, hn] at this; rw [hxa]; exact this))
  have HX := Lib.hid hxa
  generalize bstr l = b at *
  obtain ⟨m, hm⟩ : ∃ m, l.length = m := ⟨_, rfl⟩
  have HM := Lib.hid hm
  rw [hm] at hsz h0 hl
  have g0 : 0 < m := by omega
  have g3 := x0.toNat_lt
  have g2 : ¬ (m : Int) < 2 := by omega
  have HK := Lib.hid (show maskN 2 (atN l 0) = x0.toNat % 32 from by rw [hxa]; rfl)
  obtain ⟨a, ha⟩ : ∃ a, x0.toNat % 32 = a := ⟨_, rfl⟩
  have HA := Lib.hid ha
  have q1 : bits BinOp.and IntKind.i64 (x0.toNat : Int) 31 = (a : Int) := by have := and_mask x0.toNat g3; rw [this.1, ha]
  have HAL := Lib.hid (show a < 32 by omega)
  clear hm hx0 hxa hn ha
  go_enter Tryz.func101, Tryz.ntmps101
  go_wp2_with (first
    | (go_at_call 141; (with_reducible refine callsM (HSZ.out _) ?_); rintro e w1 ⟨rfl, rfl⟩))
  go_quiet (fail)
  go_wp2_with fail
  clear q1 i0
  have HBW := Lib.hid (Below.drewN' w nq)
  generalize World.drewN w nq = w1 at *
  go_loop [5, 6] (fun v i => ∃ (q z : Nat), 1 ≤ q ∧ q ≤ 2 ∧ i = .int .i64 (q : Int) ∧ v = .int .i64 (z : Int) ∧ Hid (accN a (atN l) q = z) ∧ Hid (∀ j, 1 ≤ j → j < q → contN (atN l j) = true)) (fun _ i => 2 - (intOf i).toNat)
  case atStart => exact ⟨1, a, by omega, by omega, rfl, rfl, Lib.hid (acc_1 _ _), fun j h1 h2 => by omega⟩
  case round =>
    obtain ⟨q, z, hq1, hq2, rfl, rfl, HZ, HP⟩ := hrel
    by_cases hlt : q < 2
    · obtain ⟨x, hx, hxa⟩ := HG.out q (by have := HM.out; omega)
      have i1 := HI.out q x hx
      have hz : z ≤ 32767 := by rw [← HZ.out]; exact acc_le _ _ _ 2 (by omega) (by have := HAL.out; omega) hq1 hlt
      have hqi : (q : Int) < 2 := by omega
      have hqm : q < m := by omega
      have g4 := x.toNat_lt
      have HXA := Lib.hid hxa
      by_cases hc : 128 ≤ x.toNat ∧ x.toNat < 192
      · have c1 : ¬ (x.toNat : Int) < 128 := by omega
        have c2 : ¬ (192 : Int) ≤ x.toNat := by omega
        have HC := Lib.hid (show contN (atN l q) = true from by rw [← hxa]; exact decide_eq_true hc)
        clear hc hx hxa
        go_wp2_with fail
        go_round
        case rel =>
          refine ⟨q + 1, z * 64 + x.toNat % 64, by omega, by omega, by go_num, by go_num, ?_, ?_⟩
          · show accN a (atN l) (q + 1) = _
            rw [acc_s _ _ _ hq1, HZ.out, HXA.out]
          · intro j h1 h2
            by_cases e : j = q
            · rw [e]; exact HC.out
            · exact HP.out j h1 (by omega)
        case measure => simp [intOf]; omega
      · have HR := Lib.hid (HB.out q ⟨hq1, hlt⟩ (by rw [← hxa]; exact decide_eq_false hc))
        have hc2 : x.toNat < 128 ∨ (128 ≤ x.toNat ∧ 192 ≤ x.toNat) := by omega
        clear hc hx hxa
        rcases hc2 with c1 | ⟨c1, c2⟩
        · have c3 : (x.toNat : Int) < 128 := by omega
          clear c1
          go_wp2_with fail
          go_ret2
          refine ⟨?_, HBW.out⟩
          rw [HR.out]; rfl
        · have c3 : ¬ (x.toNat : Int) < 128 := by omega
          have c4 : (192 : Int) ≤ x.toNat := by omega
          clear c1 c2
          go_wp2_with fail
          go_ret2
          refine ⟨?_, HBW.out⟩
          rw [HR.out]; rfl
    · obtain rfl : q = 2 := by omega
      have HR := Lib.hid (show r1 l = fitN 2 z from by rw [HF.out HP.out, HK.out, HA.out, HZ.out])
      have hqi : ¬ (((2 : Nat) : Int) < 2) := by omega
      go_wp2_with fail
      all_goals
        go_ret2
        refine ⟨?_, B.trans HBW.out (B.alloc' _ _)⟩
        rw [HR.out]
        unfold fitN leastN
        first
          | (rw [if_pos (by simp; omega)]; rfl)
          | (rw [if_neg (by simp; omega)]; rfl)
set_option maxRecDepth 20000 in
set_option maxHeartbeats 8000000 in
theorem rRune1_3 (w : World) (l : List UInt8) (hn : sizeN (atN l 0) = 3) (h0 : 3 ≤ l.length) (hl : l.length ≤ 4194304) : Calls Tryz.prog 101 #[.string (bstr l)] w (R1Post w l) := by
  have HF := Lib.hid (fun hc => r1_fit hn (by omega) h0 hc)
  have HB := Lib.hid (fun q hq hc => r1_bad (q := q) hn (by omega) h0 hq hc)
  obtain ⟨x0, hx0, hxa⟩ := at_get (show 0 < l.length by omega)
  have hsz := bstr_size l
  have i0 := bstrAt l 0 x0 hx0
  have HI := Lib.hid (bstrAt l)
  have HG := Lib.hid (fun i (h : i < l.length) => at_get h)
  have HSZ := Lib.hid (fun w' => (show Calls Tryz.prog 141 #[.int .u8 (x0.toNat : Int)] w' fun e w2 => e = .returned (.int .i64 3) ∧ w' = w2 from by have := rSize_c w' x0.toNat x0.toNat_lt; rw [hxa, hn] at this; rw [hxa]; exact this))
  have HX := Lib.hid hxa
  generalize bstr l = b at *
  obtain ⟨m, hm⟩ : ∃ m, l.length = m := ⟨_, rfl⟩
  have HM := Lib.hid hm
  rw [hm] at hsz h0 hl
  have g0 : 0 < m := by omega
  have g3 := x0.toNat_lt
  have g2 : ¬ (m : Int) < 3 := by omega
  have HK := Lib.hid (show maskN 3 (atN l 0) = x0.toNat % 16 from by rw [hxa]; rfl)
  obtain ⟨a, ha⟩ : ∃ a, x0.toNat % 16 = a := ⟨_, rfl⟩
  have HA := Lib.hid ha
  have q1 : bits BinOp.and IntKind.i64 (x0.toNat : Int) 15 = (a : Int) := by have := and_mask x0.toNat g3; rw [this.2.1, ha]
  have HAL := Lib.hid (show a < 16 by omega)
  clear hm hx0 hxa hn ha
  go_enter Tryz.func101, Tryz.ntmps101
  go_wp2_with (first
    | (go_at_call 141; (with_reducible refine callsM (HSZ.out _) ?_); rintro e w1 ⟨rfl, rfl⟩))
  go_quiet (fail)
  go_wp2_with fail
  clear q1 i0
  have HBW := Lib.hid (Below.drewN' w nq)
  generalize World.drewN w nq = w1 at *
  go_loop [5, 6] (fun v i => ∃ (q z : Nat), 1 ≤ q ∧ q ≤ 3 ∧ i = .int .i64 (q : Int) ∧ v = .int .i64 (z : Int) ∧ Hid (accN a (atN l) q = z) ∧ Hid (∀ j, 1 ≤ j → j < q → contN (atN l j) = true)) (fun _ i => 3 - (intOf i).toNat)
  case atStart => exact ⟨1, a, by omega, by omega, rfl, rfl, Lib.hid (acc_1 _ _), fun j h1 h2 => by omega⟩
  case round =>
    obtain ⟨q, z, hq1, hq2, rfl, rfl, HZ, HP⟩ := hrel
    by_cases hlt : q < 3
    · obtain ⟨x, hx, hxa⟩ := HG.out q (by have := HM.out; omega)
      have i1 := HI.out q x hx
      have hz : z ≤ 32767 := by rw [← HZ.out]; exact acc_le _ _ _ 3 (by omega) (by have := HAL.out; omega) hq1 hlt
      have hqi : (q : Int) < 3 := by omega
      have hqm : q < m := by omega
      have g4 := x.toNat_lt
      have HXA := Lib.hid hxa
      by_cases hc : 128 ≤ x.toNat ∧ x.toNat < 192
      · have c1 : ¬ (x.toNat : Int) < 128 := by omega
        have c2 : ¬ (192 : Int) ≤ x.toNat := by omega
        have HC := Lib.hid (show contN (atN l q) = true from by rw [← hxa]; exact decide_eq_true hc)
        clear hc hx hxa
        go_wp2_with fail
        go_round
        case rel =>
          refine ⟨q + 1, z * 64 + x.toNat % 64, by omega, by omega, by go_num, by go_num, ?_, ?_⟩
          · show accN a (atN l) (q + 1) = _
            rw [acc_s _ _ _ hq1, HZ.out, HXA.out]
          · intro j h1 h2
            by_cases e : j = q
            · rw [e]; exact HC.out
            · exact HP.out j h1 (by omega)
        case measure => simp [intOf]; omega
      · have HR := Lib.hid (HB.out q ⟨hq1, hlt⟩ (by rw [← hxa]; exact decide_eq_false hc))
        have hc2 : x.toNat < 128 ∨ (128 ≤ x.toNat ∧ 192 ≤ x.toNat) := by omega
        clear hc hx hxa
        rcases hc2 with c1 | ⟨c1, c2⟩
        · have c3 : (x.toNat : Int) < 128 := by omega
          clear c1
          go_wp2_with fail
          go_ret2
          refine ⟨?_, HBW.out⟩
          rw [HR.out]; rfl
        · have c3 : ¬ (x.toNat : Int) < 128 := by omega
          have c4 : (192 : Int) ≤ x.toNat := by omega
          clear c1 c2
          go_wp2_with fail
          go_ret2
          refine ⟨?_, HBW.out⟩
          rw [HR.out]; rfl
    · obtain rfl : q = 3 := by omega
      have HR := Lib.hid (show r1 l = fitN 3 z from by rw [HF.out HP.out, HK.out, HA.out, HZ.out])
      have hqi : ¬ (((3 : Nat) : Int) < 3) := by omega
      go_wp2_with fail
      all_goals
        go_ret2
        refine ⟨?_, B.trans HBW.out (B.alloc' _ _)⟩
        rw [HR.out]
        unfold fitN leastN
        first
          | (rw [if_pos (by simp; omega)]; rfl)
          | (rw [if_neg (by simp; omega)]; rfl)
set_option maxRecDepth 20000 in
set_option maxHeartbeats 8000000 in
theorem rRune1_4 (w : World) (l : List UInt8) (hn : sizeN (atN l 0) = 4) (h0 : 4 ≤ l.length) (hl : l.length ≤ 4194304) : Calls Tryz.prog 101 #[.string (bstr l)] w (R1Post w l) := by
  have HF := Lib.hid (fun hc => r1_fit hn (by omega) h0 hc)
  have HB := Lib.hid (fun q hq hc => r1_bad (q := q) hn (by omega) h0 hq hc)
  obtain ⟨x0, hx0, hxa⟩ := at_get (show 0 < l.length by omega)
  have hsz := bstr_size l
  have i0 := bstrAt l 0 x0 hx0
  have HI := Lib.hid (bstrAt l)
  have HG := Lib.hid (fun i (h : i < l.length) => at_get h)
  have HSZ := Lib.hid (fun w' => (show Calls Tryz.prog 141 #[.int .u8 (x0.toNat : Int)] w' fun e w2 => e = .returned (.int .i64 4) ∧ w' = w2 from by have := rSize_c w' x0.toNat x0.toNat_lt; rw [hxa, hn] at this; rw [hxa]; exact this))
  have HX := Lib.hid hxa
  generalize bstr l = b at *
  obtain ⟨m, hm⟩ : ∃ m, l.length = m := ⟨_, rfl⟩
  have HM := Lib.hid hm
  rw [hm] at hsz h0 hl
  have g0 : 0 < m := by omega
  have g3 := x0.toNat_lt
  have g2 : ¬ (m : Int) < 4 := by omega
  have HK := Lib.hid (show maskN 4 (atN l 0) = x0.toNat % 8 from by rw [hxa]; rfl)
  obtain ⟨a, ha⟩ : ∃ a, x0.toNat % 8 = a := ⟨_, rfl⟩
  have HA := Lib.hid ha
  have q1 : bits BinOp.and IntKind.i64 (x0.toNat : Int) 7 = (a : Int) := by have := and_mask x0.toNat g3; rw [this.2.2, ha]
  have HAL := Lib.hid (show a < 8 by omega)
  clear hm hx0 hxa hn ha
  go_enter Tryz.func101, Tryz.ntmps101
  go_wp2_with (first
    | (go_at_call 141; (with_reducible refine callsM (HSZ.out _) ?_); rintro e w1 ⟨rfl, rfl⟩))
  go_quiet (fail)
  go_wp2_with fail
  clear q1 i0
  have HBW := Lib.hid (Below.drewN' w nq)
  generalize World.drewN w nq = w1 at *
  go_loop [5, 6] (fun v i => ∃ (q z : Nat), 1 ≤ q ∧ q ≤ 4 ∧ i = .int .i64 (q : Int) ∧ v = .int .i64 (z : Int) ∧ Hid (accN a (atN l) q = z) ∧ Hid (∀ j, 1 ≤ j → j < q → contN (atN l j) = true)) (fun _ i => 4 - (intOf i).toNat)
  case atStart => exact ⟨1, a, by omega, by omega, rfl, rfl, Lib.hid (acc_1 _ _), fun j h1 h2 => by omega⟩
  case round =>
    obtain ⟨q, z, hq1, hq2, rfl, rfl, HZ, HP⟩ := hrel
    by_cases hlt : q < 4
    · obtain ⟨x, hx, hxa⟩ := HG.out q (by have := HM.out; omega)
      have i1 := HI.out q x hx
      have hz : z ≤ 32767 := by rw [← HZ.out]; exact acc_le _ _ _ 4 (by omega) (by have := HAL.out; omega) hq1 hlt
      have hqi : (q : Int) < 4 := by omega
      have hqm : q < m := by omega
      have g4 := x.toNat_lt
      have HXA := Lib.hid hxa
      by_cases hc : 128 ≤ x.toNat ∧ x.toNat < 192
      · have c1 : ¬ (x.toNat : Int) < 128 := by omega
        have c2 : ¬ (192 : Int) ≤ x.toNat := by omega
        have HC := Lib.hid (show contN (atN l q) = true from by rw [← hxa]; exact decide_eq_true hc)
        clear hc hx hxa
        go_wp2_with fail
        go_round
        case rel =>
          refine ⟨q + 1, z * 64 + x.toNat % 64, by omega, by omega, by go_num, by go_num, ?_, ?_⟩
          · show accN a (atN l) (q + 1) = _
            rw [acc_s _ _ _ hq1, HZ.out, HXA.out]
          · intro j h1 h2
            by_cases e : j = q
            · rw [e]; exact HC.out
            · exact HP.out j h1 (by omega)
        case measure => simp [intOf]; omega
      · have HR := Lib.hid (HB.out q ⟨hq1, hlt⟩ (by rw [← hxa]; exact decide_eq_false hc))
        have hc2 : x.toNat < 128 ∨ (128 ≤ x.toNat ∧ 192 ≤ x.toNat) := by omega
        clear hc hx hxa
        rcases hc2 with c1 | ⟨c1, c2⟩
        · have c3 : (x.toNat : Int) < 128 := by omega
          clear c1
          go_wp2_with fail
          go_ret2
          refine ⟨?_, HBW.out⟩
          rw [HR.out]; rfl
        · have c3 : ¬ (x.toNat : Int) < 128 := by omega
          have c4 : (192 : Int) ≤ x.toNat := by omega
          clear c1 c2
          go_wp2_with fail
          go_ret2
          refine ⟨?_, HBW.out⟩
          rw [HR.out]; rfl
    · obtain rfl : q = 4 := by omega
      have HR := Lib.hid (show r1 l = fitN 4 z from by rw [HF.out HP.out, HK.out, HA.out, HZ.out])
      have hqi : ¬ (((4 : Nat) : Int) < 4) := by omega
      go_wp2_with fail
      all_goals
        go_ret2
        refine ⟨?_, B.trans HBW.out (B.alloc' _ _)⟩
        rw [HR.out]
        unfold fitN leastN
        first
          | (rw [if_pos (by simp; omega)]; rfl)
          | (rw [if_neg (by simp; omega)]; rfl)
theorem rRune1_c (w : World) (l : List UInt8) (h0 : 1 ≤ l.length) (hl : l.length ≤ 4194304) : Calls Tryz.prog 101 #[.string (bstr l)] w (R1Post w l) := by
  have := size_le (atN l 0)
  by_cases h1 : sizeN (atN l 0) = 0 ∨ l.length < sizeN (atN l 0)
  · exact rRune1_none w l h0 hl h1
  · have hc : sizeN (atN l 0) = 1 ∨ sizeN (atN l 0) = 2 ∨ sizeN (atN l 0) = 3 ∨ sizeN (atN l 0) = 4 := by omega
    rcases hc with h | h | h | h
    · exact rRune1_one w l h0 hl h
    · exact rRune1_2 w l h (by omega) hl
    · exact rRune1_3 w l h (by omega) hl
    · exact rRune1_4 w l h (by omega) hl
end Go.Proofs.YtafomdobfmmleaaGreatDoor

/- The reference's Runes and Name are the plain 'runesF', 'nameF'. -/
namespace Go.Proofs.YtafomdobfmmleaaGreatDoor
open Go.RowKit Go.Deep
set_option linter.unusedVariables false

theorem extAt (l : List UInt8) (a b : Nat) : (bstr l).extract a b = bstr ((l.take b).drop a) := by
  apply ByteArray.ext
  rw [ByteArray.data_extract]
  apply Array.toList_inj.1
  simp [bstr]
  try rw [List.drop_take]
theorem r1_le (l : List UInt8) : (r1 l).2 ≤ l.length := by
  unfold r1 rune1N fitN
  have := size_le (atN l 0)
  repeat' split
  all_goals simp only
  all_goals omega
theorem runesGo_ge (s : ByteArray) : ∀ (f pos k m : Nat), runesGo s f pos k = some m → k ≤ m
  | 0, _, k, m, h => by simp only [runesGo, Option.some.injEq] at h; omega
  | f + 1, pos, k, m, h => by
    simp only [runesGo] at h
    split at h
    · split at h
      · cases h
      · have := runesGo_ge s f _ _ _ h; omega
    · simp only [Option.some.injEq] at h; omega
def cutR (o : Option Nat) : Nat := match o with | none => 0 | some n => if 16 < n then 0 else n
theorem runes_big (s : ByteArray) (f pos k : Nat) (h : 16 < k) : cutR (runesGo s f pos k) = 0 := by
  unfold cutR
  split
  · rfl
  · rename_i m hm
    have := runesGo_ge s f pos k m hm
    rw [if_pos (by omega)]
def strSz : Value → Nat | .string b => b.size | _ => 0
def RunesBad (v n k : Nat) : Prop := n = 0 ∨ v < 33 ∨ (127 ≤ v ∧ v < 160) ∨ v = 47 ∨ v = 65533 ∨ 16 ≤ k
theorem runes_step (s : List UInt8) (f pos k : Nat) (h : pos < s.length) :
    (RunesBad (r1 (s.drop pos)).1 (r1 (s.drop pos)).2 k → cutR (runesGo (bstr s) (f + 1) pos k) = 0) ∧
    (¬ RunesBad (r1 (s.drop pos)).1 (r1 (s.drop pos)).2 k → runesGo (bstr s) (f + 1) pos k = runesGo (bstr s) f (pos + (r1 (s.drop pos)).2) (k + 1)) := by
  have hd := decode_r1 s pos h
  have hs : runesGo (bstr s) (f + 1) pos k = if badR (Utf8.decode (bstr s) pos).1 then none else runesGo (bstr s) f (pos + (Utf8.decode (bstr s) pos).2) (k + 1) := by simp [runesGo, bstr_size, h]
  rw [hs, hd]
  generalize r1 (s.drop pos) = r
  obtain ⟨v, n⟩ := r
  simp only
  constructor
  · intro hb
    by_cases h0 : n = 0
    · simp [h0, badR, cutR]
    · rw [if_neg h0]
      by_cases hv : badR v = true
      · simp [hv, cutR]
      · simp only [hv]
        have hk : 16 ≤ k := by
          unfold RunesBad at hb
          simp only [badR, Bool.or_eq_true, Bool.and_eq_true, decide_eq_true_eq] at hv
          omega
        exact runes_big _ _ _ _ (by omega)
  · intro hb
    unfold RunesBad at hb
    have h0 : n ≠ 0 := by omega
    have hv : badR v = false := by
      simp only [badR, Bool.or_eq_false_iff, Bool.and_eq_false_iff, decide_eq_false_iff_not]
      omega
    rw [if_neg h0, hv]
    rfl
set_option maxRecDepth 20000 in
set_option maxHeartbeats 8000000 in
theorem rRunes_c (w : World) (s : List UInt8) (hs : s.length ≤ 4194304) : Calls Tryz.prog 62 #[.string (bstr s)] w fun e w' => e = .returned (.int .i64 (runesF s : Int)) ∧ B w w' := by
  have HE := Lib.hid (show runesF s = cutR (runesGo (bstr s) (s.length + 1) 0 0) from rfl)
  have HL := Lib.hid hs
  have HS0 := Lib.hid (bstr_size s)
  generalize runesF s = z at *
  obtain ⟨b0, hb0⟩ : ∃ b0, bstr s = b0 := ⟨_, rfl⟩
  have HB0 := Lib.hid hb0
  rw [hb0]
  clear hb0 hs
  go_enter Tryz.func62, Tryz.ntmps62
  go_wp2
  go_loopw [0, 3] (fun x n wr => ∃ (pos f k : Nat) (b : ByteArray), x = .string b ∧ n = .int .i64 (k : Int) ∧ Hid (b = bstr (s.drop pos)) ∧ pos ≤ s.length ∧ s.length + 1 ≤ pos + f ∧ k ≤ 16 ∧ Hid (B w wr) ∧ Hid (cutR (runesGo (bstr s) f pos k) = z)) (fun x _ _ => strSz x)
  case atStart => exact ⟨0, s.length + 1, 0, b0, rfl, rfl, Lib.hid HB0.out.symm, by omega, by omega, by omega, Below.refl _ _, Lib.hid HE.out.symm⟩
  case round =>
    obtain ⟨pos, f, k, b, rfl, rfl, HBB, hp, hf, hk, HW, HZ⟩ := hrel
    obtain ⟨m, hm⟩ : ∃ m, b.size = m := ⟨_, rfl⟩
    have HMS := Lib.hid (show m = s.length - pos from by rw [← hm, HBB.out, bstr_size, List.length_drop])
    have hm4 : (m : Int) ≤ 4194304 := by have := HMS.out; have := HL.out; omega
    by_cases hlt : pos < s.length
    · obtain ⟨f, rfl⟩ : ∃ g, f = g + 1 := ⟨f - 1, by omega⟩
      have hst := runes_step s f pos k hlt
      have HC := Lib.hid (fun w' => (show Calls Tryz.prog 101 #[.string b] w' (R1Post w' (s.drop pos)) from by rw [HBB.out]; exact rRune1_c w' _ (by rw [List.length_drop]; omega) (by rw [List.length_drop]; have := HL.out; omega)))
      unfold R1Post at HC
      have hle := r1_le (s.drop pos)
      rw [List.length_drop] at hle
      generalize r1 (s.drop pos) = r at *
      obtain ⟨v, n⟩ := r
      simp only at hst hle HC
      have HST := Lib.hid hst
      have hnm : (n : Int) ≤ m := by have := HMS.out; omega
      have hk4 : (k : Int) ≤ 4194304 := by omega
      have hm0 : 0 < m := by have := HMS.out; omega
      have HLE := Lib.hid hle
      clear hst hle
      by_cases hbad : RunesBad v n k
      · have HR := Lib.hid (show z = 0 from by rw [← HZ.out, HST.out.1 hbad])
        clear HST
        unfold RunesBad at hbad
        rcases hbad with h | h | ⟨h, h'⟩ | h | h | h
        · subst h
          go_wp2_with (first
          | (go_at_call 101; (with_reducible refine callsM (HC.out _) ?_); rintro e w1 ⟨rfl, hB1⟩; have HB1 := Lib.hid hB1; clear hB1))
          all_goals
            go_ret
            refine ⟨?_, B.trans HW.out HB1.out⟩
            rw [HR.out]; rfl
        · have g1 : (v : Int) < 33 := by omega
          clear h
          go_wp2_with (first
          | (go_at_call 101; (with_reducible refine callsM (HC.out _) ?_); rintro e w1 ⟨rfl, hB1⟩; have HB1 := Lib.hid hB1; clear hB1))
          all_goals
            go_ret
            refine ⟨?_, B.trans HW.out HB1.out⟩
            rw [HR.out]; rfl
        · have g1 : (127 : Int) ≤ v := by omega
          have g2 : (v : Int) < 160 := by omega
          clear h h'
          go_wp2_with (first
          | (go_at_call 101; (with_reducible refine callsM (HC.out _) ?_); rintro e w1 ⟨rfl, hB1⟩; have HB1 := Lib.hid hB1; clear hB1))
          all_goals
            go_ret
            refine ⟨?_, B.trans HW.out HB1.out⟩
            rw [HR.out]; rfl
        · subst h
          go_wp2_with (first
          | (go_at_call 101; (with_reducible refine callsM (HC.out _) ?_); rintro e w1 ⟨rfl, hB1⟩; have HB1 := Lib.hid hB1; clear hB1))
          all_goals
            go_ret
            refine ⟨?_, B.trans HW.out HB1.out⟩
            rw [HR.out]; rfl
        · subst h
          go_wp2_with (first
          | (go_at_call 101; (with_reducible refine callsM (HC.out _) ?_); rintro e w1 ⟨rfl, hB1⟩; have HB1 := Lib.hid hB1; clear hB1))
          all_goals
            go_ret
            refine ⟨?_, B.trans HW.out HB1.out⟩
            rw [HR.out]; rfl
        · have g1 : (16 : Int) ≤ k := by omega
          clear h
          go_wp2_with (first
          | (go_at_call 101; (with_reducible refine callsM (HC.out _) ?_); rintro e w1 ⟨rfl, hB1⟩; have HB1 := Lib.hid hB1; clear hB1))
          all_goals
            go_ret
            refine ⟨?_, B.trans HW.out HB1.out⟩
            rw [HR.out]; rfl
      · have HGO := Lib.hid (HST.out.2 hbad)
        clear HST
        unfold RunesBad at hbad
        have g1 : ((n : Int) == 0) = false := by simp; omega
        have g2 : ¬ (v : Int) < 33 := by omega
        have g3 : ((v : Int) == 47) = false := by simp; omega
        have g4 : ((v : Int) == 65533) = false := by simp; omega
        have g5 : ¬ (16 : Int) ≤ k := by omega
        have HN0 := Lib.hid (show 1 ≤ n from by omega)
        have hv : (v < 127) ∨ (127 ≤ v ∧ 160 ≤ v) := by omega
        clear hbad
        rcases hv with hv | ⟨hv, hv2⟩
        · have g6 : ¬ (127 : Int) ≤ v := by omega
          clear hv
          go_wp2_with (first
          | (go_at_call 101; (with_reducible refine callsM (HC.out _) ?_); rintro e w1 ⟨rfl, hB1⟩; have HB1 := Lib.hid hB1; clear hB1))
          go_roundw
          case rel =>
            refine ⟨pos + n, f, k + 1, b.extract n m, rfl, by go_num, ?_, by have := HLE.out; omega, by have := HN0.out; omega, by have := HN0.out; omega, B.trans HW.out HB1.out, ?_⟩
            · show _ = _
              have h1 : m = (s.drop pos).length := by rw [HMS.out, List.length_drop]
              rw [HBB.out, extAt, h1, List.take_length, List.drop_drop]
            · show _ = _
              rw [← HZ.out, HGO.out]
          case measure =>
            have h1 := HN0.out
            simp only [strSz, ByteArray.size_extract]
            omega
        · have g6 : (127 : Int) ≤ v := by omega
          have g7 : ¬ (v : Int) < 160 := by omega
          clear hv hv2
          go_wp2_with (first
          | (go_at_call 101; (with_reducible refine callsM (HC.out _) ?_); rintro e w1 ⟨rfl, hB1⟩; have HB1 := Lib.hid hB1; clear hB1))
          go_roundw
          case rel =>
            refine ⟨pos + n, f, k + 1, b.extract n m, rfl, by go_num, ?_, by have := HLE.out; omega, by have := HN0.out; omega, by have := HN0.out; omega, B.trans HW.out HB1.out, ?_⟩
            · show _ = _
              have h1 : m = (s.drop pos).length := by rw [HMS.out, List.length_drop]
              rw [HBB.out, extAt, h1, List.take_length, List.drop_drop]
            · show _ = _
              rw [← HZ.out, HGO.out]
          case measure =>
            have h1 := HN0.out
            simp only [strSz, ByteArray.size_extract]
            omega
    · have hE := HZ.out
      rw [runesGo_end _ _ _ _ (by rw [bstr_size]; exact hlt)] at hE
      have hbig := runes_big (bstr s) f pos k
      rw [runesGo_end _ _ _ _ (by rw [bstr_size]; exact hlt)] at hbig
      have HE2 := Lib.hid (show z = if 16 < k then 0 else k from hE.symm)
      obtain rfl : m = 0 := by have := HMS.out; omega
      have HKZ := Lib.hid (show z = k from by rw [HE2.out, if_neg (by omega)])
      clear hE hbig HE2
      go_wp2_with fail
      go_ret
      exact ⟨by rw [HKZ.out]; rfl, HW.out⟩
theorem rName_c (w : World) (s : List UInt8) (hs : s.length ≤ 4194304) : Calls Tryz.prog 30 #[.string (bstr s)] w fun e w' => e = .returned (.bool (nameF s)) ∧ B w w' := by
  have HR := Lib.hid (rRunes_c w s hs)
  clear hs
  have HN := Lib.hid (show nameF s = decide (0 < runesF s) from rfl)
  generalize nameF s = z at *
  generalize runesF s = n at *
  go_enter Tryz.func30, Tryz.ntmps30
  go_wp2_with (first | (go_at_call 62; (with_reducible refine HR.out.mono ?_); rintro e w1 ⟨rfl, hb⟩; have HB := Lib.hid hb; clear hb))
  all_goals
    go_ret
    exact ⟨by rw [HN.out]; simp, HB.out⟩
end Go.Proofs.YtafomdobfmmleaaGreatDoor

/- The reference's operations, requests and batches over data: what may be, their bytes (printed by gen_ba.py). -/
namespace Go.Proofs.YtafomdobfmmleaaGreatDoor
open Go.RowKit
set_option linter.unusedVariables false
set_option maxRecDepth 20000

theorem rName_s [Wd] (s : List UInt8) (hs : s.length ≤ 4194304) : FnP Tryz.prog 30 [.str s] (.bool (nameF s)) :=
  FnS.old (v := .bool (nameF s)) (fun _ _ => .bool _) (by kernel_rfl) (fun w I vs hv => by
    obtain ⟨v, rfl, h⟩ := hv.one_inv
    cases h
    exact rName_c w s hs) rfl
end Go.Proofs.YtafomdobfmmleaaGreatDoor

/- The reference's bytes of operations, requests, signatures and batches, over data (printed by gen_bb.py). -/
namespace Go.Proofs.YtafomdobfmmleaaGreatDoor
open Go.RowKit
set_option linter.unusedVariables false
set_option maxRecDepth 20000

theorem flat_at {α : Type} {f : α → List UInt8} {l : List α} {q : Nat} {x : α} (h : l[q]? = some x) : (l.take (q + 1)).flatMap f = (l.take q).flatMap f ++ f x := by
  rw [List.take_add_one, h, List.flatMap_append]; simp
end Go.Proofs.YtafomdobfmmleaaGreatDoor

/- The reference's requests, signatures, batches, over data: what may be, their bytes (printed by gen_bc.py). -/
namespace Go.Proofs.YtafomdobfmmleaaGreatDoor
open Go.RowKit
set_option linter.unusedVariables false
set_option maxRecDepth 20000

end Go.Proofs.YtafomdobfmmleaaGreatDoor

/- bullaref08.PutBatch; bullaref10: what is wrong with a message, over data (printed by gen_bd.py). -/
namespace Go.Proofs.YtafomdobfmmleaaGreatDoor
open Go.RowKit
set_option linter.unusedVariables false
set_option maxRecDepth 20000

end Go.Proofs.YtafomdobfmmleaaGreatDoor

/- bullaref10's checks of certificates, changes, proofs, new views, over data (printed by gen_be.py). -/
namespace Go.Proofs.YtafomdobfmmleaaGreatDoor
open Go.RowKit
set_option linter.unusedVariables false
set_option maxRecDepth 20000

end Go.Proofs.YtafomdobfmmleaaGreatDoor

/- bullaref10: a message with the fields of its kind alone; what is wrong with a message (over data; printed by gen_bf.py). -/
namespace Go.Proofs.YtafomdobfmmleaaGreatDoor
open Go.RowKit
set_option linter.unusedVariables false
set_option maxRecDepth 20000

end Go.Proofs.YtafomdobfmmleaaGreatDoor

/- bullaref10's bytes of certificates, changes, proofs, over data (printed by gen_bg.py). -/
namespace Go.Proofs.YtafomdobfmmleaaGreatDoor
open Go.RowKit
set_option linter.unusedVariables false
set_option maxRecDepth 20000
set_option maxHeartbeats 2000000

end Go.Proofs.YtafomdobfmmleaaGreatDoor

/- bullaref10: the body of a new view; Bytes, Unsigned, over data (printed by gen_bh.py). -/
namespace Go.Proofs.YtafomdobfmmleaaGreatDoor
open Go.RowKit
set_option linter.unusedVariables false
set_option maxRecDepth 20000

end Go.Proofs.YtafomdobfmmleaaGreatDoor

/- bullaref10: Bytes, Unsigned, over data (printed by gen_bi.py). -/
namespace Go.Proofs.YtafomdobfmmleaaGreatDoor
open Go.RowKit
set_option linter.unusedVariables false
set_option maxRecDepth 20000

end Go.Proofs.YtafomdobfmmleaaGreatDoor

/- script.signed, script.own (printed by gen_me.py). -/
namespace Go.Proofs.YtafomdobfmmleaaGreatDoor
open Go.RowKit Go.Deep
set_option linter.unusedVariables false

theorem sSigned_c {w : World} {k : Int} : Calls Tryz.prog 111 #[.int .i64 k] w fun e w' => e = .returned (.bool (!freeK k)) ∧ w = w' := by
  go_enter Tryz.func111, Tryz.ntmps111
  go_wp2
  all_goals go_ret
  all_goals refine ⟨?_, rfl⟩
  all_goals
    go_light
    refine congrArg (fun z => Ending.returned (Value.bool z)) (?_ : _ = !freeK k)
    unfold freeK
    simp_all
set_option maxRecDepth 20000 in
set_option maxHeartbeats 4000000 in
theorem sOwnother_c {inn : Nat → Prop} {w : World} {cs : List Value} {x : MsgD} (hx : tMsg.rd inn w cs x) (hk : ¬ (x.kind = 7 ∧ x.changes.length = 1)) :
    Calls Tryz.prog 110 #[.agg cs.toArray] w fun e w' => e = .returned (.agg #[.int .i64 x.sign.key, .int .i64 x.sign.digest]) ∧ B w w' := by
  obtain ⟨av1, av2, av3, av4, av5, av6, av7, av8, av9, rfl, af0, af1, af2, af3, af4, af5, af6, af7, af8, af9, af10, af11, af12, af13, af14, af15, af16, af17, af18, af19, af20, af21, af22, af23, af24, af25, af26, af27, af28, af29⟩ := tMsg.parts hx
  obtain ⟨aA1, ac1, ae1, al1⟩ := tL.slice af9
  injection ae1 with ae1 _
  subst ae1
  obtain ⟨aA2, ac2, ae2, al2⟩ := tL.slice af12
  injection ae2 with ae2 _
  subst ae2
  obtain ⟨aA3, ac3, ae3, al3⟩ := tL.slice af13
  injection ae3 with ae3 _
  subst ae3
  obtain ⟨aA4, ac4, ae4, al4⟩ := tL.slice af14
  injection ae4 with ae4 _
  subst ae4
  obtain ⟨aA5, ac5, rfl⟩ := (tY.bs af15).rd.slice
  have al5 := tY.le af15
  obtain ⟨aA6, ac6, rfl⟩ := (tY.bs af20).rd.slice
  have al6 := tY.le af20
  obtain ⟨aA7, ac7, ae7, al7⟩ := tL.slice af21
  injection ae7 with ae7 _
  subst ae7
  obtain ⟨aA8, ac8, ae8, al8⟩ := tL.slice af24
  injection ae8 with ae8 _
  subst ae8
  obtain ⟨aA9, ac9, ae9, al9⟩ := tL.slice af27
  injection ae9 with ae9 _
  subst ae9
  clear hx af9 af12 af13 af14 af15 af20 af21 af24 af27
  go_enter Tryz.func110, Tryz.ntmps110
  go_wp2
  all_goals first | (exfalso; simp_all; omega) | skip
  all_goals (try simp only [Exit.inBlock, Exit.then])
  all_goals
    refine bodyPost_ret (v := .agg #[.int .i64 x.sign.key, .int .i64 x.sign.digest]) ?_ rfl ?_
    · exact results_cell_row rfl _ _ (w.heap.size + 1) _ _ _ _ rfl (Blk.new2 _ _ _ _) Tryz.underlying57 rfl (by kernel_rfl)
    · exact ⟨rfl, BB.out⟩
set_option maxRecDepth 20000 in
set_option maxHeartbeats 4000000 in
theorem sOwnone_c {inn : Nat → Prop} {w : World} {cs : List Value} {x : MsgD} (hx : tMsg.rd inn w cs x) (hk : x.kind = 7) {c : ChangeD} (hc : x.changes = [c]) :
    Calls Tryz.prog 110 #[.agg cs.toArray] w fun e w' => e = .returned (.agg #[.int .i64 c.sign.key, .int .i64 c.sign.digest]) ∧ B w w' := by
  obtain ⟨av1, av2, av3, av4, av5, av6, av7, av8, av9, rfl, af0, af1, af2, af3, af4, af5, af6, af7, af8, af9, af10, af11, af12, af13, af14, af15, af16, af17, af18, af19, af20, af21, af22, af23, af24, af25, af26, af27, af28, af29⟩ := tMsg.parts hx
  obtain ⟨aA1, ac1, ae1, al1⟩ := tL.slice af9
  injection ae1 with ae1 _
  subst ae1
  obtain ⟨aA2, ac2, ae2, al2⟩ := tL.slice af12
  injection ae2 with ae2 _
  subst ae2
  obtain ⟨aA3, ac3, ae3, al3⟩ := tL.slice af13
  injection ae3 with ae3 _
  subst ae3
  obtain ⟨aA4, ac4, ae4, al4⟩ := tL.slice af14
  injection ae4 with ae4 _
  subst ae4
  obtain ⟨aA5, ac5, rfl⟩ := (tY.bs af15).rd.slice
  have al5 := tY.le af15
  obtain ⟨aA6, ac6, rfl⟩ := (tY.bs af20).rd.slice
  have al6 := tY.le af20
  obtain ⟨aA7, ac7, ae7, al7⟩ := tL.slice af21
  injection ae7 with ae7 _
  subst ae7
  obtain ⟨aA8, ac8, ae8, al8⟩ := tL.slice af24
  injection ae8 with ae8 _
  subst ae8
  obtain ⟨aA9, ac9, ae9, al9⟩ := tL.slice af27
  injection ae9 with ae9 _
  subst ae9
  have hl1 : (x.changes.length : Int) = 1 := by rw [hc]; rfl
  obtain ⟨_, b, off, ds, rfl, r1, k1⟩ := tL.at (i := 0) (x := c) af13 (by rw [hc]; rfl)
  obtain ⟨bv1, bv2, rfl, bf0, bf1, bf2, bf3, bf4, bf5, bf6, bf7⟩ := tChange.parts r1
  obtain ⟨bA1, bc1, be1, bl1⟩ := tL.slice bf4
  injection be1 with be1 _
  subst be1
  obtain ⟨bA2, bc2, be2, bl2⟩ := tL.slice bf5
  injection be2 with be2 _
  subst be2
  have d6 := k1 6 _ rfl
  have d7 := k1 7 _ rfl
  simp only [show tChange.n = 8 from rfl, Nat.zero_mul, Nat.add_zero] at d6 d7
  have lb := World.block_lt_of_cell? _ _ d6
  simp only at lb
  have g7 : (x.kind == 7) = true := by simpa using hk
  have hcl : (0 : Int) < x.changes.length := by omega
  clear hx af9 af12 af13 af14 af15 af20 af21 af24 af27 r1 k1 hc hk bf4 bf5
  go_enter Tryz.func110, Tryz.ntmps110
  go_wp2
  all_goals first | (exfalso; simp_all; omega) | skip
  all_goals (try simp only [Exit.inBlock, Exit.then])
  all_goals
    refine bodyPost_ret (v := .agg #[.int .i64 c.sign.key, .int .i64 c.sign.digest]) ?_ rfl ?_
    · exact results_cell_row rfl _ _ (w.heap.size + 1) _ _ _ _ rfl (Blk.new2 _ _ _ _) Tryz.underlying57 rfl (by kernel_rfl)
    · exact ⟨rfl, BB.out⟩
theorem sOwn_c {inn : Nat → Prop} {w : World} {cs : List Value} {x : MsgD} (hx : tMsg.rd inn w cs x) :
    Calls Tryz.prog 110 #[.agg cs.toArray] w fun e w' => e = .returned (.agg #[.int .i64 (ownS x).key, .int .i64 (ownS x).digest]) ∧ B w w' := by
  by_cases hk : x.kind = 7 ∧ x.changes.length = 1
  · obtain ⟨c, hc⟩ := List.length_eq_one_iff.1 hk.2
    have e : ownS x = c.sign := by unfold ownS; rw [if_pos hk.1, hc]
    rw [e]
    exact sOwnone_c hx hk.1 hc
  · have e : ownS x = x.sign := by
      unfold ownS
      split
      · rename_i h7
        split
        · rename_i c hc; exact absurd ⟨h7, by rw [hc]; rfl⟩ hk
        · rfl
      · rfl
    rw [e]
    exact sOwnother_c hx hk
end Go.Proofs.YtafomdobfmmleaaGreatDoor

/- script.Hex: bytes as a word. -/
namespace Go.Proofs.YtafomdobfmmleaaGreatDoor
open Go.RowKit Go.Deep
set_option linter.unusedVariables false

theorem aBy.one {W w : World} {L : List Asn} (h : St W w L) (c : UInt8) {y : Int} (hy : (c.toNat : Int) = y) : St W (w.alloc (.cells #[.int .u8 y] 5)) (aBy (.slice (some ⟨w.heap.size, 0, none⟩) 1 1) [c] :: L) := by
  subst hy
  exact h.add (B.alloc' _ _) (A := aBy (.slice (some ⟨w.heap.size, 0, none⟩) 1 1) [c]) (own := fun x => x = w.heap.size) ⟨⟨rfl, .inr ⟨_, 1, #[.int .u8 (c.toNat : Int)], rfl, Nat.zero_le _, heap_alloc_new w _, Nat.le_refl _, by unfold maxLen; omega, rfl, rfl⟩⟩, fun g hg => by simpa [Value.ownBlock] using hg.symm⟩ (fun x e => by omega)
theorem and15 (y : Nat) (h : y < 256) : bits BinOp.and IntKind.u8 (y : Int) 15 = ((y % 16 : Nat) : Int) := by
  have h' : ∀ k : Fin 256, bits BinOp.and IntKind.u8 ((k.val : Int)) 15 = ((k.val % 16 : Nat) : Int) := by decide +kernel
  exact h' ⟨y, h⟩
theorem dig_at (k : Nat) (hk : k < 16) : ∀ h : k < (ByteArray.mk #[48, 49, 50, 51, 52, 53, 54, 55, 56, 57, 97, 98, 99, 100, 101, 102]).size, ((ByteArray.mk #[48, 49, 50, 51, 52, 53, 54, 55, 56, 57, 97, 98, 99, 100, 101, 102])[k]'h) = hexD k := by
  have h' : ∀ q : Fin 16, ∀ h : q.val < (ByteArray.mk #[48, 49, 50, 51, 52, 53, 54, 55, 56, 57, 97, 98, 99, 100, 101, 102]).size, ((ByteArray.mk #[48, 49, 50, 51, 52, 53, 54, 55, 56, 57, 97, 98, 99, 100, 101, 102])[q.val]'h) = hexD q.val := by decide +kernel
  exact fun h => h' ⟨k, hk⟩ h
theorem hexF_len (l : List UInt8) (n : Nat) (h : l.length ≤ 4194304) : (hexF l).length ≤ 8388610 := by
  have : ∀ l : List UInt8, (l.flatMap fun c => [hexD (c.toNat / 16), hexD (c.toNat % 16)]).length = 2 * l.length := by
    intro l
    induction l with
    | nil => rfl
    | cons x r ih => simp only [List.flatMap_cons, List.length_append, ih, List.length_cons]; simp; omega
  unfold hexF
  rw [List.length_cons, this]
  omega
theorem hexF_snoc (l : List UInt8) (x : UInt8) : hexF (l ++ [x]) = hexF l ++ [hexD (x.toNat / 16), hexD (x.toNat % 16)] := by simp [hexF]
set_option maxRecDepth 20000 in
set_option maxHeartbeats 4000000 in
theorem hex_c {w : World} {u : Value} {xs : List UInt8} (hu : Bs w u xs) (hl : xs.length ≤ 4194304) : Calls Tryz.prog 14 #[u] w fun e w' => e = .returned (.string (bstr (hexF xs))) ∧ B w w' := by
  obtain ⟨A, c, rfl⟩ := hu.rd.slice
  have HU := Lib.hid hu
  have HS := Lib.hid (aBy.one (St.nil w) 120 (y := 120) rfl)
  have hn : (xs.length : Int) ≤ 9223372036854775807 := by omega
  clear hu
  go_enter Tryz.func14, Tryz.ntmps14
  go_wp2_with fail
  go_loopw [3, 9] (fun v i wr => ∃ (q : Nat) (z : List UInt8) (A1 : Option Addr) (c1 : Nat), q ≤ xs.length ∧ i = .int .i64 q ∧ v = .slice A1 z.length c1 ∧ Hid (z = hexF (xs.take q)) ∧ Hid (St w wr [aBy (.slice A1 z.length c1) z])) (fun _ i _ => xs.length - (intOf i).toNat)
  case atStart => exact ⟨0, [120], _, _, Nat.zero_le _, rfl, rfl, Lib.hid rfl, HS.out⟩
  case round =>
    obtain ⟨q, z, A1, c1, hq, rfl, rfl, HZ, HS⟩ := hrel
    by_cases hlt : q < xs.length
    · have hx := List.getElem?_eq_getElem hlt
      obtain ⟨x, hxe⟩ : ∃ x, xs[q] = x := ⟨_, rfl⟩
      rw [hxe] at hx
      have HX := Lib.hid hx
      obtain ⟨A', cap, he, _, _, hr⟩ := HU.out.form
      injection he with e1 e2 e3
      subst e1 e3
      obtain ⟨b, off, rfl, _, hc⟩ := hr (by omega)
      have d0 := B.cell HS.out.b (hc q x hx)
      have hqi : (q : Int) < xs.length := by omega
      have hx8 := x.toNat_lt
      obtain ⟨hi, hhi⟩ : ∃ hi, hi = x.toNat / 16 := ⟨_, rfl⟩
      obtain ⟨lo, hlo⟩ : ∃ lo, lo = x.toNat % 16 := ⟨_, rfl⟩
      have q1 : (x.toNat : Int) / 16 = (hi : Int) := by omega
      have q2 : bits BinOp.and IntKind.u8 (x.toNat : Int) 15 = (lo : Int) := by rw [and15 _ (by omega), hlo]
      have q3 : (hi : Int) < 16 := by omega
      have q4 : (lo : Int) < 16 := by omega
      have q5 := dig_at hi (by omega)
      have q6 := dig_at lo (by omega)
      have HHI := Lib.hid hhi
      have HLO := Lib.hid hlo
      have HZL := Lib.hid (show z.length ≤ 8388610 from by rw [HZ.out]; exact hexF_len _ 0 (by simp; omega))
      clear hhi hlo hx8
      clear hr hc hx
      go_wp2_with fail
      go_region_law (refine step_append_St rfl (.tmp 13) (.tmp 20) 26 rfl Tryz.underlying26 info5 rfl Nat.zero_lt_one rfl rfl (HS.out.later (B.trans (Below.refl _ _).drew (B.alloc' _ _))) (Rd.lit _ _ _ 2 rfl) (by simp [Value.oneCell']) (by have := HZL.out; unfold maxLen; omega) (by have := HZL.out; omega) ?_; intro A2 c2 w2 hS; replace HS := Lib.hid hS; clear hS)
      all_goals
        go_wp2
        go_roundw
        case rel =>
          refine ⟨q + 1, z ++ [hexD hi, hexD lo], A2, c2, by omega, by go_num, by simp, ?_, ?_⟩
          · show _ = _
            rw [List.take_add_one, HX.out]
            simp only [Option.toList_some]
            rw [hexF_snoc, ← HZ.out, HHI.out, HLO.out]
          · show St _ _ _
            have hS := HS.out
            simpa [cellsB, aBy] using hS
        case measure => simp [intOf]; omega
    · have hqi : ¬ (q : Int) < xs.length := by omega
      have hcv : ∀ w', B wr w' → (convert 26 9 (.slice A1 z.length c1)).run Tryz.prog w' = .ok (.string (bstr z)) w' := fun w' hb => Bs.conv ((HS.out.byBs (by rw [HZ.out]; have := hexF_len (xs.take q) 0 (by simp; omega); unfold big; omega)).later hb) Tryz.underlying26 Tryz.underlying5 Tryz.underlying9
      have hcv2 := hcv wr (Below.refl _ _)
      have HE := Lib.hid (show z = hexF xs from by rw [HZ.out, List.take_of_length_le (by omega)])
      clear hcv
      go_wp2_with fail
      go_ret
      exact ⟨by rw [← HE.out]; rfl, HS.out.b⟩
end Go.Proofs.YtafomdobfmmleaaGreatDoor

/- Steps through a region that draws its order, one operation at a time: taken first, left out, a call. No program here. -/
namespace Go.Proofs.YtafomdobfmmleaaGreatDoor
open Go.RowKit Go.Deep
set_option linter.unusedVariables false

section
variable {P : Program} {ops : Array Oper} {Q : Exit → Act → World → Prop} {md : Region.Mode} {S : World → Prop}
/-- an operation that yields its value under S -/
theorem anyH_take {i : Nat} {oi : Oper} {d : Option Tmp} {v : Value} {fuel : Nat} {listed : Array Bool} {a : Act} {w : World} (hi : ops[i]? = some oi) (hd : oi.dst = d)
    (hs : Region.noSelect ops = true) (hf : Region.free md ops listed i = true) (hr : (Region.ready md ops listed).contains i = true)
    (hQ : ∀ c a w, Q (.panic c) (a.put oi.dst v) w → Q (.panic c) a w) (hw : Region.wanted oi (yielded ops a.tmps) = true) (hv : ∀ w, S w → (execOp a.eval oi).run P w = .ok (.value v) w) (hS : S w)
    (h : wpAnyH P md ops Q S fuel (listed.setIfInBounds i true) (a.put d v) w) : wpAnyH P md ops Q S (fuel + 1) listed a w := by
  subst hd
  exact wpAnyH_take hi hs hf hr hQ (.inl ⟨hw, hv⟩) hS h
/-- a call, where nothing else may come up -/
theorem anyH_call {i : Nat} {o : Oper} {d : Option Tmp} {f : FuncId} {vs : Array Value} {v : Value} {fuel : Nat} {listed : Array Bool} {a : Act} {w : World} (hr : Region.ready md ops listed = [i]) (ho : ops[i]? = some o) (hd : o.dst = d)
    (hw : Region.wanted o (yielded ops a.tmps) = true) (he : (execOp a.eval o).run P w = .ok (.enter f vs) w) (hc : Calls P f vs w (fun e w' => e = .returned v ∧ B w w')) (hB : ∀ w', B w w' → S w')
    (h : ∀ w', S w' → wpAnyH P md ops Q S fuel (listed.setIfInBounds i true) (a.put d v) w') : wpAnyH P md ops Q S (fuel + 1) listed a w := by
  subst hd
  refine wpAnyH_all hr (by simp) (fun j hj => ?_)
  simp only [List.mem_singleton] at hj
  subst hj
  unfold Go.wpOp
  simp only [ho, hw, if_true]
  refine Or.inl ?_
  unfold Oper.wp
  rw [he]
  simp only [Oper.upon]
  refine hc.mono ?_
  rintro e w' ⟨rfl, hb⟩
  exact ⟨hB _ hb, h _ (hB _ hb)⟩
/-- a call whose value is not known ahead, where nothing else may come up -/
theorem anyH_callW {R : Value → World → Prop} {i : Nat} {o : Oper} {d : Option Tmp} {f : FuncId} {vs : Array Value} {fuel : Nat} {listed : Array Bool} {a : Act} {w : World} (hr : Region.ready md ops listed = [i]) (ho : ops[i]? = some o) (hd : o.dst = d)
    (hw : Region.wanted o (yielded ops a.tmps) = true) (he : (execOp a.eval o).run P w = .ok (.enter f vs) w) (hc : Calls P f vs w (fun e w' => ∃ v, e = .returned v ∧ R v w')) (hB : ∀ v w', R v w' → S w')
    (h : ∀ v w', R v w' → wpAnyH P md ops Q S fuel (listed.setIfInBounds i true) (a.put d v) w') : wpAnyH P md ops Q S (fuel + 1) listed a w := by
  subst hd
  refine wpAnyH_all hr (by simp) (fun j hj => ?_)
  simp only [List.mem_singleton] at hj
  subst hj
  unfold Go.wpOp
  simp only [ho, hw, if_true]
  refine Or.inl ?_
  unfold Oper.wp
  rw [he]
  simp only [Oper.upon]
  refine hc.mono ?_
  rintro e w' ⟨v, rfl, hR⟩
  exact ⟨hB _ _ hR, h _ _ hR⟩
theorem run_load_op {op : Oper} {a : Act} {ty : TypeId} {x : Operand} {p v : Value} {w : World} (ho : op.op = .load ty x) (hx : a.eval x = p) (hl : (Instr.loadAt ty p).run P w = .ok v w) :
    (execOp a.eval op).run P w = .ok (.value v) w := by
  unfold execOp
  simp only [ho, hx, Sem.run_bind, Sem.run_pure, Result.andThen_ok, hl]
/-- a variable of one cell is read -/
theorem load1 {w : World} {b o : Nat} {ty : TypeId} {v : Value} {d : TypeDesc} (hc : w.cell? ⟨b, o, none⟩ = some v) (hu : P.underlying ty = some d) (hd : d.isRow = false) :
    (Instr.loadAt ty (.pointer (some ⟨b, o, none⟩))).run P w = .ok v w := by
  have hagg : (isAgg ty).run P w = .ok false w := by
    unfold isAgg
    rw [Sem.run_bind, run_underlying hu w]
    cases d <;> simp_all
  simp [Instr.loadAt, Instr.sureAddr, loadVar, Sem.run_bind, hagg, run_load, hc]
/-- a part of a block known cell by cell -/
theorem rangeOf {w : World} {b : Nat} {C : Array Value} (h : ∀ i, w.cell? ⟨b, i, none⟩ = C[i]?) (o n : Nat) (cs : List Value) (hc : (C.toList.drop o).take n = cs) : w.rangeAt b o cs := by
  intro j v hv
  rw [h]
  subst hc
  rw [List.getElem?_take] at hv
  split at hv
  · rw [List.getElem?_drop] at hv
    rw [← Array.getElem?_toList]
    exact hv
  · cases hv
end
end Go.Proofs.YtafomdobfmmleaaGreatDoor

/- Steps through a plain region one operation at a time, its guards letters. No program here. -/
namespace Go.Proofs.YtafomdobfmmleaaGreatDoor
open Go.RowKit Go.Deep
set_option linter.unusedVariables false

section
variable {P : Program} {ops : Array Oper} {Q : Exit → Act → World → Prop} {rest : List Oper} {o : Oper} {a : Act} {w : World} {d : Option Tmp} {v : Value}
theorem list_take (hd : o.dst = d) (hw : Region.wanted o (yielded ops a.tmps) = true) (hv : (execOp a.eval o).run P w = .ok (.value v) w) (h : wpList P ops Q rest (a.put d v) w) : wpList P ops Q (o :: rest) a w := by
  subst hd
  unfold wpList
  rw [if_pos hw]
  refine .inl ?_
  unfold Oper.wp
  rw [hv]
  exact h
theorem list_skip (hd : o.dst = d) (hw : Region.wanted o (yielded ops a.tmps) = false) (h : wpList P ops Q rest (a.put d undef) w) : wpList P ops Q (o :: rest) a w := by
  subst hd
  unfold wpList
  rw [if_neg (by rw [hw]; simp)]
  exact h
theorem list_takeIf (e : Bool) (hd : o.dst = d) (hw1 : e = true → Region.wanted o (yielded ops a.tmps) = true) (hw0 : e = false → Region.wanted o (yielded ops a.tmps) = false)
    (hv : e = true → (execOp a.eval o).run P w = .ok (.value v) w) (h : wpList P ops Q rest (a.put d (cond e v undef)) w) : wpList P ops Q (o :: rest) a w := by
  cases e with
  | true => exact list_take hd (hw1 rfl) (hv rfl) h
  | false => exact list_skip hd (hw0 rfl) h
theorem list_call {R : Value → World → Prop} {f : FuncId} {vs : Array Value} (hd : o.dst = d) (hw : Region.wanted o (yielded ops a.tmps) = true) (he : (execOp a.eval o).run P w = .ok (.enter f vs) w)
    (hc : Calls P f vs w (fun e w' => ∃ v, e = .returned v ∧ R v w')) (h : ∀ v w', R v w' → wpList P ops Q rest (a.put d v) w') : wpList P ops Q (o :: rest) a w := by
  subst hd
  unfold wpList
  rw [if_pos hw]
  refine .inl ?_
  unfold Oper.wp
  rw [he]
  simp only [Oper.upon]
  refine hc.mono ?_
  rintro e w' ⟨v, rfl, hR⟩
  exact h _ _ hR
/-- a call of a function that only reads, under a guard that is a letter -/
theorem list_pureIf (e : Bool) {f : FuncId} {vs : Array Value} (hd : o.dst = d) (hw1 : e = true → Region.wanted o (yielded ops a.tmps) = true) (hw0 : e = false → Region.wanted o (yielded ops a.tmps) = false)
    (he : e = true → (execOp a.eval o).run P w = .ok (.enter f vs) w) (hc : Calls P f vs w (fun e w' => e = .returned v ∧ w = w')) (h : wpList P ops Q rest (a.put d (cond e v undef)) w) : wpList P ops Q (o :: rest) a w := by
  cases e with
  | true => exact list_call (R := fun u w' => u = v ∧ w = w') hd (hw1 rfl) (he rfl) (hc.mono fun e w' h => ⟨v, h.1, rfl, h.2⟩) (fun u w' hR => by obtain ⟨rfl, rfl⟩ := hR; exact h)
  | false => exact list_skip hd (hw0 rfl) h
end
end Go.Proofs.YtafomdobfmmleaaGreatDoor

/- script.putMsg: a message's words (printed by gen_nb.py). -/
namespace Go.Proofs.YtafomdobfmmleaaGreatDoor
open Go.RowKit Go.Deep
set_option linter.unusedVariables false

theorem tMsg.last {inn : Nat → Prop} {w : World} {cs : List Value} {x : MsgD} (hx : tMsg.rd inn w cs x) : (cs.toArray.toList.drop 28).take 2 = [.int .i64 x.sign.key, .int .i64 x.sign.digest] := by
  obtain ⟨av1, av2, av3, av4, av5, av6, av7, av8, av9, rfl, af0, af1, af2, af3, af4, af5, af6, af7, af8, af9, af10, af11, af12, af13, af14, af15, af16, af17, af18, af19, af20, af21, af22, af23, af24, af25, af26, af27, af28, af29⟩ := tMsg.parts hx
  rfl
theorem tMsg.signB {inn : Nat → Prop} {w : World} {cs : List Value} {x : MsgD} (hx : tMsg.rd inn w cs x) : (-9223372036854775808 ≤ x.sign.key ∧ x.sign.key ≤ 9223372036854775807) ∧ (-9223372036854775808 ≤ x.sign.digest ∧ x.sign.digest ≤ 9223372036854775807) := by
  obtain ⟨av1, av2, av3, av4, av5, av6, av7, av8, av9, rfl, af0, af1, af2, af3, af4, af5, af6, af7, af8, af9, af10, af11, af12, af13, af14, af15, af16, af17, af18, af19, af20, af21, af22, af23, af24, af25, af26, af27, af28, af29⟩ := tMsg.parts hx
  exact ⟨af28, af29⟩
theorem msgLoadSign {w : World} {g : Nat} {cs : List Value} {inn : Nat → Prop} {w0 : World} {x : MsgD} (h : Blk w g 59 cs.toArray) (hx : tMsg.rd inn w0 cs x) : (Instr.loadAt 57 (.pointer (some ⟨g, 28, none⟩))).run Tryz.prog w = .ok (.agg #[.int .i64 x.sign.key, .int .i64 x.sign.digest]) w := by
  have := run_loadAt_mid w g 28 57 [.int .i64 x.sign.key, .int .i64 x.sign.digest] _ (rangeOf h.cell 28 2 _ (tMsg.last hx)) Tryz.underlying57 rfl (by kernel_rfl)
  exact this
/-- two signatures held one against the other -/
theorem sign_neq (a b : Int) (w : World) : (binOp .neq 57 (.agg #[.int .i64 a, .int .i64 b]) (.agg #[.int .i64 0, .int .i64 0])).run Tryz.prog w = .ok (.bool (!(decide (a = 0) && decide (b = 0)))) w := by
  simp [go_sem]
  by_cases h1 : a = 0 <;> by_cases h2 : b = 0 <;> simp [h1, h2]
theorem sign_guard (a b c d : Int) (x y : Operand) (w : World) : (eqGuard .neq 57 x y (.agg #[.int .i64 a, .int .i64 b]) (.agg #[.int .i64 c, .int .i64 d])).run Tryz.prog w = .ok () w := by
  have h : Tryz.prog.eqGuardType Tryz.prog.depth 57 = false := by kernel_rfl
  simp [go_sem, eqGuard, h]
theorem signLoad {w : World} {g : Nat} {a b : Int} (h : Blk w g 57 #[.int .i64 a, .int .i64 b]) : (Instr.loadAt 57 (.pointer (some ⟨g, 0, none⟩))).run Tryz.prog w = .ok (.agg #[.int .i64 a, .int .i64 b]) w := by
  have := run_loadAt_mid w g 0 57 [.int .i64 a, .int .i64 b] _ (rangeOf h.cell 0 2 _ rfl) Tryz.underlying57 rfl (by kernel_rfl)
  exact this
def PutPost (w : World) (x : MsgD) (r : Ending) (w' : World) : Prop := open Classical in
  if wordsOk x then ∃ v, r = .returned (.tuple #[v, .bool true]) ∧ St w w' [aStrs v (msgW x)]
  else r = .returned (.tuple #[.slice none 0 0, .bool false]) ∧ B w w'
/-- may a message not have words? -/
def badW (x : MsgD) (E : Int) : Bool := (E != 0) || decide ((ownS x).key < 0) || decide ((ownS x).digest < 0) || (freeK x.kind && !(decide ((ownS x).key = 0) && decide ((ownS x).digest = 0))) || ((x.kind == 7) && !(decide (x.sign.key = 0) && decide (x.sign.digest = 0)))
theorem ownS_b {inn : Nat → Prop} {w : World} {cs : List Value} {x : MsgD} (hx : tMsg.rd inn w cs x) : (-9223372036854775808 ≤ (ownS x).key ∧ (ownS x).key ≤ 9223372036854775807) ∧ (-9223372036854775808 ≤ (ownS x).digest ∧ (ownS x).digest ≤ 9223372036854775807) := by
  unfold ownS
  split
  · split
    · rename_i c hc
      obtain ⟨a, n, _, hq⟩ := tMsg.chg hx
      obtain ⟨_, b, off, ds, rfl, r1, k1⟩ := tL.at (i := 0) (x := c) hq (by rw [hc]; rfl)
      obtain ⟨bv1, bv2, rfl, bf0, bf1, bf2, bf3, bf4, bf5, bf6, bf7⟩ := tChange.parts r1
      exact ⟨bf6, bf7⟩
    · exact tMsg.signB hx
  · exact tMsg.signB hx
set_option maxRecDepth 20000 in
set_option maxHeartbeats 8000000 in
theorem putMsg_w {inn : Nat → Prop} {w : World} {cs : List Value} {x : MsgD} (hx : tMsg.rd inn w cs x) {E : Int} {R : Ending → World → Prop} (hN : badW x E = true → ∀ w', B w w' → R (.returned (.tuple #[.slice none 0 0, .bool false])) w') (hY : badW x E = false → ∀ v w', St w w' [aStrs v (msgW x)] → R (.returned (.tuple #[v, .bool true])) w') (hl : E = 0 → (unsB x).length ≤ 4194304)
    (hU : ∀ w1, B w w1 → Calls Tryz.prog 109 #[.agg cs.toArray] w1 fun r w' => ∃ v, r = .returned (.tuple #[v, .int .i64 E]) ∧ B w1 w' ∧ (E = 0 → Bs w' v (unsB x))) :
    Calls Tryz.prog 67 #[.agg cs.toArray] w R := by
  obtain ⟨b0, hb0⟩ : ∃ z, (E != 0) = z := ⟨_, rfl⟩
  have HOB := Lib.hid (ownS_b hx)
  have HW := Lib.hid (show msgW x = [hexF (unsB x), hexF (enc (ownS x).key.toNat ++ enc (ownS x).digest.toNat)] from rfl)
  unfold badW at hN hY
  have hn := tMsg.len hx
  have HI0 := Lib.hid (show (Tryz.prog.info? 59).map (·.size) = some cs.toArray.size from by rw [hn]; exact mInfo)
  obtain ⟨c0, _, _, _, q0⟩ := tMsg.cells hx
  have HO := Lib.hid (fun w1 (hb : B w w1) => sOwn_c (tMsg.later hx hb))
  have HLS := Lib.hid (fun w1 (h : Blk w1 w.heap.size 59 cs.toArray) => msgLoadSign h hx)
  have HS := Lib.hid (aBlk.new (St.nil w) 59 cs.toArray)
  have HSG := Lib.hid (fun w' => sSigned_c (w := w') (k := x.kind))
  have HC0 := Lib.hid c0
  generalize freeK x.kind = fk at *
  generalize (ownS x).key = ok at *
  generalize (ownS x).digest = od at *
  replace hb0 := Lib.hid hb0
  obtain ⟨b1, hb1⟩ : ∃ z, decide (ok < 0) = z := ⟨_, rfl⟩
  obtain ⟨b2, hb2⟩ : ∃ z, decide (od < 0) = z := ⟨_, rfl⟩
  obtain ⟨k7, hk7⟩ : ∃ z, (x.kind == 7) = z := ⟨_, rfl⟩
  obtain ⟨c1, hc1⟩ : ∃ z, (!(decide (ok = 0) && decide (od = 0))) = z := ⟨_, rfl⟩
  obtain ⟨c2, hc2⟩ : ∃ z, (!(decide (x.sign.key = 0) && decide (x.sign.digest = 0))) = z := ⟨_, rfl⟩
  replace hb1 := Lib.hid hb1
  replace hb2 := Lib.hid hb2
  replace hk7 := Lib.hid hk7
  replace hc1 := Lib.hid hc1
  replace hc2 := Lib.hid hc2
  have HU := Lib.hid (fun w1 hb => hU w1 hb)
  have HL := Lib.hid hl
  have HBAD := Lib.hid (show ((E != 0) || decide (ok < 0) || decide (od < 0) || (fk && !(decide (ok = 0) && decide (od = 0))) || ((x.kind == 7) && !(decide (x.sign.key = 0) && decide (x.sign.digest = 0)))) = (b0 || b1 || b2 || (fk && c1) || (k7 && c2)) from by rw [hb0.out, hb1.out, hb2.out, hc1.out, hk7.out, hc2.out])
  rw [HBAD.out] at hN hY
  have HN := Lib.hid hN
  have HY := Lib.hid hY
  generalize hA : cs.toArray = A at *
  have HAA := Lib.hid hA
  clear hA hn hx hU c0 hl hN hY
  go_enter Tryz.func67, Tryz.ntmps67
  go_wp2_with (first
    | (refine wpList_load_row rfl 59 (.tmp 1) rfl w.heap.size rfl 59 A (0, 0) _ (aBlk.get HS.out.on) Tryz.underlying59 rfl HI0.out ?_)
    | (go_at_call 109; (with_reducible refine callsM (HU.out _ HS.out.on.b) ?_); rintro r w1 ⟨u, rfl, hb, hV⟩; replace HS := Lib.hid (HS.out.on.later hb); have HV := Lib.hid hV; have HB1 := Lib.hid HS.out.b; clear hb hV))
  refine callsM (HO.out _ HS.out.on.b) ?_
  rintro r w2 ⟨rfl, hb⟩
  have HB2 := Lib.hid hb
  replace HS := Lib.hid (aBlk.new (HS.out.on.later hb) 57 #[.int .i64 ok, .int .i64 od])
  clear hb
  have KS := Lib.hid (aBlk.get HS.out).cell
  have HBK := Lib.hid (aBlk.get HS.out.swap)
  have HKS := Lib.hid (signLoad (aBlk.get HS.out))
  have KK := Lib.hid (show (w2.alloc (.cells #[.int .i64 ok, .int .i64 od] 57)).cell? ⟨w.heap.size, 0, none⟩ = some (.int .i64 x.kind) from by rw [HBK.out.cell 0]; exact HC0.out)
  dsimp only
  iterate 13 go_step
  refine list_take (d := some 15) (v := .int .i64 E) rfl rfl (by go_simp) ?_
  simp only [Act.put, List.setIfInBounds_toArray, List.set_cons_zero, List.set_cons_succ]
  refine list_take (d := some 16) (v := .bool b0) rfl rfl (by rw [← hb0.out]; go_simp) ?_
  simp only [Act.put, List.setIfInBounds_toArray, List.set_cons_zero, List.set_cons_succ]
  refine list_take (d := some 17) (v := .bool b0) rfl rfl (by go_simp) ?_
  simp only [Act.put, List.setIfInBounds_toArray, List.set_cons_zero, List.set_cons_succ]
  refine list_takeIf (!b0) (d := some 18) (v := .pointer (some ⟨w2.heap.size, 0, none⟩)) rfl (fun h => by cases b0 <;> first | rfl | (simp at h; done)) (fun h => by cases b0 <;> first | rfl | (simp at h; done)) (fun h => by cases b0 <;> first | (simp at h; done) | (go_simp)) ?_
  simp only [Act.put, List.setIfInBounds_toArray, List.set_cons_zero, List.set_cons_succ]
  refine list_takeIf (!b0) (d := some 19) (v := .int .i64 ok) rfl (fun h => by cases b0 <;> first | rfl | (simp at h; done)) (fun h => by cases b0 <;> first | rfl | (simp at h; done)) (fun h => by cases b0 <;> first | (simp at h; done) | (exact run_load_op (ty := 3) rfl rfl (load1 (KS.out 0) Tryz.underlying3 rfl))) ?_
  simp only [Act.put, List.setIfInBounds_toArray, List.set_cons_zero, List.set_cons_succ]
  refine list_takeIf (!b0) (d := some 20) (v := .bool b1) rfl (fun h => by cases b0 <;> first | rfl | (simp at h; done)) (fun h => by cases b0 <;> first | rfl | (simp at h; done)) (fun h => by cases b0 <;> first | (simp at h; done) | (rw [← hb1.out]; go_simp)) ?_
  simp only [Act.put, List.setIfInBounds_toArray, List.set_cons_zero, List.set_cons_succ]
  obtain ⟨B1, hB1⟩ : ∃ z : Bool, z = (b0 || b1) := ⟨_, rfl⟩
  replace hB1 := Lib.hid hB1
  refine list_take (d := some 21) (v := .bool B1) rfl rfl (by rw [hB1.out]; cases b0 <;> go_simp) ?_
  simp only [Act.put, List.setIfInBounds_toArray, List.set_cons_zero, List.set_cons_succ]
  refine list_take (d := some 22) (v := .bool B1) rfl rfl (by go_simp) ?_
  simp only [Act.put, List.setIfInBounds_toArray, List.set_cons_zero, List.set_cons_succ]
  refine list_takeIf (!B1) (d := some 23) (v := .pointer (some ⟨w2.heap.size, 1, none⟩)) rfl (fun h => by cases B1 <;> first | rfl | (simp at h; done)) (fun h => by cases B1 <;> first | rfl | (simp at h; done)) (fun h => by cases B1 <;> first | (simp at h; done) | (go_simp)) ?_
  simp only [Act.put, List.setIfInBounds_toArray, List.set_cons_zero, List.set_cons_succ]
  refine list_takeIf (!B1) (d := some 24) (v := .int .i64 od) rfl (fun h => by cases B1 <;> first | rfl | (simp at h; done)) (fun h => by cases B1 <;> first | rfl | (simp at h; done)) (fun h => by cases B1 <;> first | (simp at h; done) | (exact run_load_op (ty := 41) rfl rfl (load1 (KS.out 1) Tryz.underlying41 rfl))) ?_
  simp only [Act.put, List.setIfInBounds_toArray, List.set_cons_zero, List.set_cons_succ]
  refine list_takeIf (!B1) (d := some 25) (v := .bool b2) rfl (fun h => by cases B1 <;> first | rfl | (simp at h; done)) (fun h => by cases B1 <;> first | rfl | (simp at h; done)) (fun h => by cases B1 <;> first | (simp at h; done) | (rw [← hb2.out]; go_simp)) ?_
  simp only [Act.put, List.setIfInBounds_toArray, List.set_cons_zero, List.set_cons_succ]
  obtain ⟨B2, hB2⟩ : ∃ z : Bool, z = (B1 || b2) := ⟨_, rfl⟩
  replace hB2 := Lib.hid hB2
  refine list_take (d := some 26) (v := .bool B2) rfl rfl (by rw [hB2.out]; cases B1 <;> go_simp) ?_
  simp only [Act.put, List.setIfInBounds_toArray, List.set_cons_zero, List.set_cons_succ]
  refine list_take (d := some 27) (v := .bool B2) rfl rfl (by go_simp) ?_
  simp only [Act.put, List.setIfInBounds_toArray, List.set_cons_zero, List.set_cons_succ]
  refine list_takeIf (!B2) (d := some 28) (v := .pointer (some ⟨w.heap.size, 0, none⟩)) rfl (fun h => by cases B2 <;> first | rfl | (simp at h; done)) (fun h => by cases B2 <;> first | rfl | (simp at h; done)) (fun h => by cases B2 <;> first | (simp at h; done) | (go_simp)) ?_
  simp only [Act.put, List.setIfInBounds_toArray, List.set_cons_zero, List.set_cons_succ]
  refine list_takeIf (!B2) (d := some 29) (v := .int .i64 x.kind) rfl (fun h => by cases B2 <;> first | rfl | (simp at h; done)) (fun h => by cases B2 <;> first | rfl | (simp at h; done)) (fun h => by cases B2 <;> first | (simp at h; done) | (exact run_load_op (ty := 3) rfl rfl (load1 KK.out Tryz.underlying3 rfl))) ?_
  simp only [Act.put, List.setIfInBounds_toArray, List.set_cons_zero, List.set_cons_succ]
  refine list_pureIf (!B2) (d := some 30) (v := .bool (!fk)) rfl (fun h => by cases B2 <;> first | rfl | (simp at h; done)) (fun h => by cases B2 <;> first | rfl | (simp at h; done)) (fun h => by cases B2 <;> first | (simp at h; done) | go_simp) (HSG.out _) ?_
  simp only [Act.put, List.setIfInBounds_toArray, List.set_cons_zero, List.set_cons_succ]
  refine list_takeIf (!B2) (d := some 31) (v := .bool fk) rfl (fun h => by cases B2 <;> first | rfl | (simp at h; done)) (fun h => by cases B2 <;> first | rfl | (simp at h; done)) (fun h => by cases B2 <;> first | (simp at h; done) | (cases fk <;> go_simp)) ?_
  simp only [Act.put, List.setIfInBounds_toArray, List.set_cons_zero, List.set_cons_succ]
  refine list_takeIf (!B2) (d := some 32) (v := .bool fk) rfl (fun h => by cases B2 <;> first | rfl | (simp at h; done)) (fun h => by cases B2 <;> first | rfl | (simp at h; done)) (fun h => by cases B2 <;> first | (simp at h; done) | (go_simp)) ?_
  simp only [Act.put, List.setIfInBounds_toArray, List.set_cons_zero, List.set_cons_succ]
  refine list_takeIf (!B2 && fk) (d := some 33) (v := .agg #[.int .i64 ok, .int .i64 od]) rfl (fun h => by cases B2 <;> cases fk <;> first | rfl | (simp at h; done)) (fun h => by cases B2 <;> cases fk <;> first | rfl | (simp at h; done)) (fun h => by cases B2 <;> cases fk <;> first | (simp at h; done) | (exact run_load_op (ty := 57) rfl rfl (HKS.out))) ?_
  simp only [Act.put, List.setIfInBounds_toArray, List.set_cons_zero, List.set_cons_succ]
  refine list_takeIf (!B2 && fk) (d := some 34) (v := .agg #[.int .i64 0, .int .i64 0]) rfl (fun h => by cases B2 <;> cases fk <;> first | rfl | (simp at h; done)) (fun h => by cases B2 <;> cases fk <;> first | rfl | (simp at h; done)) (fun h => by cases B2 <;> cases fk <;> first | (simp at h; done) | (go_simp)) ?_
  simp only [Act.put, List.setIfInBounds_toArray, List.set_cons_zero, List.set_cons_succ]
  refine list_takeIf (!B2 && fk) (d := some 35) (v := .bool c1) rfl (fun h => by cases B2 <;> cases fk <;> first | rfl | (simp at h; done)) (fun h => by cases B2 <;> cases fk <;> first | rfl | (simp at h; done)) (fun h => by cases B2 <;> cases fk <;> first | (simp at h; done) | (rw [← hc1.out]; have q := sign_neq ok od; have q1 := sign_guard ok od 0 0; go_simp)) ?_
  simp only [Act.put, List.setIfInBounds_toArray, List.set_cons_zero, List.set_cons_succ]
  refine list_takeIf (!B2) (d := some 36) (v := .bool (fk && c1)) rfl (fun h => by cases B2 <;> first | rfl | (simp at h; done)) (fun h => by cases B2 <;> first | rfl | (simp at h; done)) (fun h => by cases B2 <;> first | (simp at h; done) | (cases fk <;> cases c1 <;> go_simp)) ?_
  simp only [Act.put, List.setIfInBounds_toArray, List.set_cons_zero, List.set_cons_succ]
  obtain ⟨B3, hB3⟩ : ∃ z : Bool, z = (B2 || (fk && c1)) := ⟨_, rfl⟩
  replace hB3 := Lib.hid hB3
  refine list_take (d := some 37) (v := .bool B3) rfl rfl (by rw [hB3.out]; cases B2 <;> go_simp) ?_
  simp only [Act.put, List.setIfInBounds_toArray, List.set_cons_zero, List.set_cons_succ]
  refine list_take (d := some 38) (v := .bool B3) rfl rfl (by go_simp) ?_
  simp only [Act.put, List.setIfInBounds_toArray, List.set_cons_zero, List.set_cons_succ]
  refine list_takeIf (!B3) (d := some 39) (v := .pointer (some ⟨w.heap.size, 0, none⟩)) rfl (fun h => by cases B3 <;> first | rfl | (simp at h; done)) (fun h => by cases B3 <;> first | rfl | (simp at h; done)) (fun h => by cases B3 <;> first | (simp at h; done) | (go_simp)) ?_
  simp only [Act.put, List.setIfInBounds_toArray, List.set_cons_zero, List.set_cons_succ]
  refine list_takeIf (!B3) (d := some 40) (v := .int .i64 x.kind) rfl (fun h => by cases B3 <;> first | rfl | (simp at h; done)) (fun h => by cases B3 <;> first | rfl | (simp at h; done)) (fun h => by cases B3 <;> first | (simp at h; done) | (exact run_load_op (ty := 3) rfl rfl (load1 KK.out Tryz.underlying3 rfl))) ?_
  simp only [Act.put, List.setIfInBounds_toArray, List.set_cons_zero, List.set_cons_succ]
  refine list_takeIf (!B3) (d := some 41) (v := .bool k7) rfl (fun h => by cases B3 <;> first | rfl | (simp at h; done)) (fun h => by cases B3 <;> first | rfl | (simp at h; done)) (fun h => by cases B3 <;> first | (simp at h; done) | (rw [← hk7.out]; go_simp)) ?_
  simp only [Act.put, List.setIfInBounds_toArray, List.set_cons_zero, List.set_cons_succ]
  refine list_takeIf (!B3) (d := some 42) (v := .bool k7) rfl (fun h => by cases B3 <;> first | rfl | (simp at h; done)) (fun h => by cases B3 <;> first | rfl | (simp at h; done)) (fun h => by cases B3 <;> first | (simp at h; done) | (go_simp)) ?_
  simp only [Act.put, List.setIfInBounds_toArray, List.set_cons_zero, List.set_cons_succ]
  refine list_takeIf (!B3 && k7) (d := some 43) (v := .pointer (some ⟨w.heap.size, 28, none⟩)) rfl (fun h => by cases B3 <;> cases k7 <;> first | rfl | (simp at h; done)) (fun h => by cases B3 <;> cases k7 <;> first | rfl | (simp at h; done)) (fun h => by cases B3 <;> cases k7 <;> first | (simp at h; done) | (go_simp)) ?_
  simp only [Act.put, List.setIfInBounds_toArray, List.set_cons_zero, List.set_cons_succ]
  refine list_takeIf (!B3 && k7) (d := some 44) (v := .agg #[.int .i64 x.sign.key, .int .i64 x.sign.digest]) rfl (fun h => by cases B3 <;> cases k7 <;> first | rfl | (simp at h; done)) (fun h => by cases B3 <;> cases k7 <;> first | rfl | (simp at h; done)) (fun h => by cases B3 <;> cases k7 <;> first | (simp at h; done) | (exact run_load_op (ty := 57) rfl rfl (HLS.out _ HBK.out))) ?_
  simp only [Act.put, List.setIfInBounds_toArray, List.set_cons_zero, List.set_cons_succ]
  refine list_takeIf (!B3 && k7) (d := some 45) (v := .agg #[.int .i64 0, .int .i64 0]) rfl (fun h => by cases B3 <;> cases k7 <;> first | rfl | (simp at h; done)) (fun h => by cases B3 <;> cases k7 <;> first | rfl | (simp at h; done)) (fun h => by cases B3 <;> cases k7 <;> first | (simp at h; done) | (go_simp)) ?_
  simp only [Act.put, List.setIfInBounds_toArray, List.set_cons_zero, List.set_cons_succ]
  refine list_takeIf (!B3 && k7) (d := some 46) (v := .bool c2) rfl (fun h => by cases B3 <;> cases k7 <;> first | rfl | (simp at h; done)) (fun h => by cases B3 <;> cases k7 <;> first | rfl | (simp at h; done)) (fun h => by cases B3 <;> cases k7 <;> first | (simp at h; done) | (rw [← hc2.out]; have q := sign_neq x.sign.key x.sign.digest; have q1 := sign_guard x.sign.key x.sign.digest 0 0; go_simp)) ?_
  simp only [Act.put, List.setIfInBounds_toArray, List.set_cons_zero, List.set_cons_succ]
  refine list_takeIf (!B3) (d := some 47) (v := .bool (k7 && c2)) rfl (fun h => by cases B3 <;> first | rfl | (simp at h; done)) (fun h => by cases B3 <;> first | rfl | (simp at h; done)) (fun h => by cases B3 <;> first | (simp at h; done) | (cases k7 <;> cases c2 <;> go_simp)) ?_
  simp only [Act.put, List.setIfInBounds_toArray, List.set_cons_zero, List.set_cons_succ]
  obtain ⟨B4, hB4⟩ : ∃ z : Bool, z = (B3 || (k7 && c2)) := ⟨_, rfl⟩
  replace hB4 := Lib.hid hB4
  refine list_take (d := some 48) (v := .bool B4) rfl rfl (by rw [hB4.out]; cases B3 <;> go_simp) ?_
  simp only [Act.put, List.setIfInBounds_toArray, List.set_cons_zero, List.set_cons_succ]
  apply wpList_nil
  replace KS := KS.out
  cases B4
  case true =>
    have HZ := Lib.hid (show (b0 || b1 || b2 || (fk && c1) || (k7 && c2)) = true from by have q4 := hB4.out; have q3 := hB3.out; have q2 := hB2.out; have q1 := hB1.out; subst q1 q2 q3; exact q4.symm)
    go_wp2
    exact HN.out HZ.out _ HS.out.b
  case false =>
    have HZ := Lib.hid (show (b0 || b1 || b2 || (fk && c1) || (k7 && c2)) = false from by have q4 := hB4.out; have q3 := hB3.out; have q2 := hB2.out; have q1 := hB1.out; subst q1 q2 q3; exact q4.symm)
    have hz := HZ.out
    simp only [Bool.or_eq_false_iff] at hz
    obtain ⟨⟨⟨⟨z0, z1⟩, z2⟩, _⟩, _⟩ := hz
    have e0 : E = 0 := by have := hb0.out; rw [z0] at this; simpa using this
    have p1 : 0 ≤ ok := by have := hb1.out; rw [z1] at this; simp at this; omega
    have p2 : 0 ≤ od := by have := hb2.out; rw [z2] at this; simp at this; omega
    have HP := Lib.hid (And.intro p1 p2)
    have w1k : IntKind.u64.wrap ok = ok := u64_id (by have := HOB.out; omega)
    have w2k : IntKind.u64.wrap od = od := u64_id (by have := HOB.out; omega)
    have HVB := Lib.hid (HV.out e0)
    have HLL := Lib.hid (HL.out e0)
    have HE1 := Lib.hid (show ([] ++ enc ok.toNat).length ≤ big from by have := encLe10 ok.toNat (by have := HOB.out; omega); unfold big; simp; omega)
    have HE2 := Lib.hid (show ([] ++ enc ok.toNat).length + 10 ≤ big from by have := encLe10 ok.toNat (by have := HOB.out; omega); unfold big; simp; omega)
    have HE3 := Lib.hid (show ([] ++ enc ok.toNat ++ enc od.toNat).length ≤ big from by have := encLe10 ok.toNat (by have := HOB.out; omega); have := encLe10 od.toNat (by have := HOB.out; omega); unfold big; simp; omega)
    have HE4 := Lib.hid (show ([] ++ enc ok.toNat ++ enc od.toNat).length ≤ 4194304 from by have := encLe10 ok.toNat (by have := HOB.out; omega); have := encLe10 od.toNat (by have := HOB.out; omega); simp; omega)
    clear z0 z1 z2 e0 p1 p2
    go_wp2_with fail
    have HT := Lib.hid (show St w1 (w2.alloc (.cells #[.int .i64 ok, .int .i64 od] 57)) [aBlk w2.heap.size 57 #[.int .i64 ok, .int .i64 od]] from aBlk.new ((St.nil w1).later HB2.out) 57 _)
    go_region_held3 (fun w' : World => ∀ i, w'.cell? ⟨w2.heap.size, i, none⟩ = (#[.int .i64 ok, .int .i64 od] : Array Value)[i]?) (first | exact (aBlk.get (St.on HT.out)).cell | exact (aBlk.get (St.on HT.out).swap).cell | exact (aBlk.get (St.on HT.out).rot3).cell) (first
      | (go_at_call 112; (with_reducible refine callsM (St.fresh HT.out.on (putN_c (Bs.nil _) ok (by have := HOB.out; have := HP.out; omega) (by unfold big; simp))) ?_); rintro r w3 ⟨v1, rfl, hS⟩; replace HT := Lib.hid hS; clear hS)
      | (go_at_call 112; (with_reducible refine callsM (St.fresh HT.out.on (putN_c (HT.out.on.byBs (HE1.out)) od (by have := HOB.out; have := HP.out; omega) (HE2.out))) ?_); rintro r w3 ⟨v2, rfl, hS⟩; replace HT := Lib.hid hS; clear hS)
      | fail)
    go_wp2_with (first
      | (go_at_call 14; (with_reducible refine callsM (hex_c (HVB.out.later HT.out.on.b) HLL.out) ?_); rintro r w5 ⟨rfl, hb⟩; replace HT := Lib.hid (HT.out.on.later hb); clear hb)
      | (go_at_call 14; (with_reducible refine callsM (hex_c (HT.out.on.byBs HE3.out) HE4.out) ?_); rintro r w6 ⟨rfl, hb⟩; replace HT := Lib.hid (HT.out.on.later hb); clear hb)
      | fail)
    refine HY.out HZ.out _ _ ?_
    rw [HW.out]
    have hN := aStrs.new HT.out.drop.drop.drop [hexF (unsB x), hexF (enc ok.toNat ++ enc od.toNat)] (by simp [maxLen]) (cs := #[.string (bstr (hexF (unsB x))), .string (bstr (hexF (enc ok.toNat ++ enc od.toNat)))]) rfl (n := 2) rfl
    exact St.under HB1.out hN
theorem badW_iff {x : MsgD} : badW x (bytesE (withS x)) = false ↔ wordsOk x := by
  unfold badW wordsOk
  rw [unsOk_E]
  simp only [Bool.or_eq_false_iff, bne_eq_false_iff_eq, decide_eq_false_iff_not, Bool.and_eq_false_iff, Bool.not_eq_false', Bool.and_eq_true, decide_eq_true_eq, beq_eq_false_iff_ne, Int.not_lt, ne_eq]
  constructor
  · rintro ⟨⟨⟨⟨h1, h2⟩, h3⟩, h4⟩, h5⟩
    refine ⟨h1, h2, h3, fun hf => ?_, fun hk => ?_⟩
    · rcases h4 with h4 | h4
      · rw [h4] at hf; cases hf
      · exact sign_ext h4.1 h4.2
    · rcases h5 with h5 | h5
      · exact absurd hk h5
      · exact sign_ext h5.1 h5.2
  · rintro ⟨h1, h2, h3, h4, h5⟩
    refine ⟨⟨⟨⟨h1, h2⟩, h3⟩, ?_⟩, ?_⟩
    · cases hf : freeK x.kind with
      | false => exact .inl rfl
      | true => have := h4 hf; exact .inr (by rw [this]; exact ⟨rfl, rfl⟩)
    · by_cases hk : x.kind = 7
      · have := h5 hk; exact .inr (by rw [this]; exact ⟨rfl, rfl⟩)
      · exact .inl hk
/-- script.putMsg -/
theorem putMsg_c {inn : Nat → Prop} {w : World} {cs : List Value} {x : MsgD} (hx : tMsg.rd inn w cs x) : Calls Tryz.prog 67 #[.agg cs.toArray] w (PutPost w x) := by
  refine putMsg_w (E := bytesE (withS x)) hx (fun hb w' h => ?_) (fun hb v w' h => ?_) (fun h => ?_) (fun w1 hb => ?_)
  · unfold PutPost
    rw [if_neg (fun h2 => by rw [badW_iff.2 h2] at hb; cases hb)]
    exact ⟨rfl, h⟩
  · unfold PutPost
    rw [if_pos (badW_iff.1 hb)]
    exact ⟨v, rfl, h⟩
  · have h1 := unsB_len (msgE_kind (checkE_msg (bytesE0.1 h).1))
    rw [unsB_withS] at h1
    omega
  · exact mUns_c (tMsg.later hx hb)
end Go.Proofs.YtafomdobfmmleaaGreatDoor

/- bullaref27: Hex, sign, free, message, over data (printed by gen_bj.py). -/
namespace Go.Proofs.YtafomdobfmmleaaGreatDoor
open Go.RowKit
set_option linter.unusedVariables false
set_option maxRecDepth 20000

def digits : List UInt8 := [48, 49, 50, 51, 52, 53, 54, 55, 56, 57, 97, 98, 99, 100, 101, 102]
theorem digits_at : ∀ n, n < 16 → digits[n]? = some (hexD n) := by decide
theorem dig_quo (x : UInt8) : (0 : Int) ≤ (x.toNat : Int).tdiv 16 ∧ digits[((x.toNat : Int).tdiv 16).toNat]? = some (hexD (x.toNat / 16)) := by
  have h := x.toNat_lt
  have e : (x.toNat : Int).tdiv 16 = ((x.toNat / 16 : Nat) : Int) := rfl
  rw [e]
  exact ⟨by omega, digits_at _ (by omega)⟩
theorem dig_rem (x : UInt8) : (0 : Int) ≤ (x.toNat : Int).tmod 16 ∧ digits[((x.toNat : Int).tmod 16).toNat]? = some (hexD (x.toNat % 16)) := by
  have e : (x.toNat : Int).tmod 16 = ((x.toNat % 16 : Nat) : Int) := rfl
  rw [e]
  exact ⟨by omega, digits_at _ (by omega)⟩
theorem u8_quo (x : UInt8) : IntKind.u8.wrap ((x.toNat : Int).tdiv 16) = (x.toNat : Int).tdiv 16 := by
  have h := x.toNat_lt
  have e : (x.toNat : Int).tdiv 16 = ((x.toNat / 16 : Nat) : Int) := rfl
  rw [e]
  simp only [IntKind.wrap, IntKind.signed, IntKind.bits]
  simp
  omega
def hexP (b : List UInt8) : List UInt8 := 120 :: b.flatMap fun c => [hexD (c.toNat / 16), hexD (c.toNat % 16)]
theorem hexP_l (b : List UInt8) : (hexP b).length ≤ 1 + 2 * b.length := by
  have := flat_len (f := fun c : UInt8 => [hexD (c.toNat / 16), hexD (c.toNat % 16)]) (K := 2) b (fun _ _ => by simp)
  unfold hexP
  rw [List.length_cons]
  omega
theorem hexZ {b : List UInt8} (h : b.length ≤ 50000000) : (hexF b).length ≤ 140737488355328 := by
  have := hexP_l b
  show (hexP b).length ≤ _
  omega
theorem hexP_at {b : List UInt8} {q : Nat} {x : UInt8} (h : b[q]? = some x) : (hexP (b.take (q + 1))).map cByte = (hexP (b.take q)).map cByte ++ [[.int .u8 ((hexD (x.toNat / 16)).toNat : Int)], [.int .u8 ((hexD (x.toNat % 16)).toNat : Int)]] := by
  unfold hexP
  rw [flat_at h]
  simp [cByte]
theorem rHex_s [Wd] (b : List UInt8) (hl : b.length ≤ 50000000) : FnP Tryz.prog 15 [.list 1 (b.map cByte)] (.str (hexF b)) := by
  refine mkS' false 32 [(6, ⟨[(0, false), (1, false), (2, false), (3, false), (4, false), (5, false), (6, false), (7, false), (8, false), (9, false), (10, false), (11, false), (12, false), (13, false), (14, false), (15, true), (16, true), (17, false)], [0]⟩)] Tryz.func15 rfl (by kernel_rfl) ?_
  repeat'
    (conv => arg 2; whnf)
    first
    | refine okAsk (by kernel_rfl) ?_
  refine okLoop (α := Nat × List (List D)) (fun a => ⟨[(5, .int .i64 a.1), (0, .list 1 (b.map cByte)), (3, .str digits), (4, .row 0)], [.row 5 1 a.2]⟩) (fun a => a.1 ≤ b.length ∧ a.2 = (hexP (b.take a.1)).map cByte) (fun a => b.length - a.1) (0, [[.int .u8 120]]) ⟨Nat.zero_le _, rfl⟩ (Sv.mk' [0] rfl ⟨⟨rfl, rfl⟩, trivial⟩ ⟨rfl, rfl, rfl, rfl, trivial⟩) ?_
  rintro ⟨q, xs⟩ ⟨hq, he⟩
  replace hq : q ≤ b.length := hq
  replace he : xs = (hexP (b.take q)).map cByte := he
  have hxl : xs.length ≤ 100000001 := by
    have := hexP_l (b.take q)
    have : (b.take q).length ≤ q := by rw [List.length_take]; omega
    rw [he, List.length_map]
    omega
  repeat'
    (conv => arg 2; whnf)
    first
    | refine okAsk (by decide) ?_
    | refine okAsk ⟨(by simp [maxLen]; omega), (by simp; omega)⟩ ?_
    | refine okAsk (by kernel_rfl) ?_
    | refine okBoth ?_ ?_
    | refine okBrT ?_
    | refine okBrF ?_
    | refine okBr (fun h => ?_) (fun h => ?_)
    | refine okNthAt hx ?_
    | refine okNthMap (l := b) (by simp at h; omega) (fun x hx => ?_)
    | refine okWrap (u8_quo x) ?_
    | refine okByte _ (dig_quo x).1 (dig_quo x).2 ?_
    | refine okByte _ (dig_rem x).1 (dig_rem x).2 ?_
    | refine okWrap (w64 (by simp at h hq; omega) (by simp at h hq; omega)) ?_
    | refine okAgain (q + 1, xs ++ [[.int .u8 ((hexD (x.toNat / 16)).toNat : Int)], [.int .u8 ((hexD (x.toNat % 16)).toNat : Int)]]) (Sv.mk' [2] rfl ⟨⟨rfl, rfl⟩, trivial⟩ ⟨rfl, rfl, rfl, rfl, trivial⟩) ⟨by have := (List.getElem?_eq_some_iff.1 hx).1; show q + 1 ≤ b.length; omega, by show xs ++ _ = _; rw [hexP_at hx, he]⟩ (by have := (List.getElem?_eq_some_iff.1 hx).1; show b.length - (q + 1) < b.length - q; omega)
    | refine okOut ?_
    | refine okByts (hexF b) (by rw [he, show b.take q = b from List.take_of_length_le (by simp at h; omega)]; rfl) ?_
    | refine okAsk (hexZ hl) ?_
    | refine endFn0 (.inr rfl) rfl (.refl _) rfl
theorem endT [Wd] {P : Program} {tb : TT} {rs : List ResultVar} {e : Exit} {s : S} {xs ys : List UInt8} {d : D} (he : e = .normal ∨ e = .ret) (hr : resD tb s rs = some [.str xs, d]) (h : xs = ys) (hp : pureD d = true) : (T.leaf e s).ok P (Lf tb rs [] (fun r' h' => r' = .tup [.str ys, d] ∧ h' = [])) := by
  subst h
  exact endFn0 he hr (.refl _) (by simp [pureD, pureD.pl, hp])
end Go.Proofs.YtafomdobfmmleaaGreatDoor

/- bullaref27: word, over data; num, over readings (printed by gen_bk.py). -/
namespace Go.Proofs.YtafomdobfmmleaaGreatDoor
open Go.RowKit
set_option linter.unusedVariables false
set_option maxRecDepth 20000

end Go.Proofs.YtafomdobfmmleaaGreatDoor

/- Acts by their parts: cells, readings; parts of a block stored; three results. -/
namespace Go.Proofs.YtafomdobfmmleaaGreatDoor
open Go.RowKit Go.Deep
set_option linter.unusedVariables false

/-- an act's cells -/
def actC (k wh n : Int) (oc : List Value) (b : Value) (mc : List Value) (s : Bool) : List Value := [.int .i64 k, .int .i64 wh, .int .i64 n] ++ oc ++ [b] ++ mc ++ [.bool s]
def zOpC : List Value := [.int .i64 0, .string ⟨#[]⟩, .string ⟨#[]⟩, .int .i64 0, .slice none 0 0]
def zMsgC : List Value := [.int .i64 0, .int .i64 0, .int .i64 0, .int .i64 0, .int .i64 0, .int .i64 0, .int .i64 0, .int .i64 0, .int .i64 0, .slice none 0 0, .int .i64 0, .int .i64 0, .slice none 0 0, .slice none 0 0, .slice none 0 0, .slice none 0 0, .string ⟨#[]⟩, .int .i64 0, .string ⟨#[]⟩, .int .i64 0, .slice none 0 0, .slice none 0 0, .int .i64 0, .int .i64 0, .slice none 0 0, .int .i64 0, .int .i64 0, .slice none 0 0, .int .i64 0, .int .i64 0]
theorem tAct.mk' {inn : Nat → Prop} {w : World} {oc mc : List Value} {b : Value} {s : ActD} (h1 : (-9223372036854775808 ≤ s.kind ∧ s.kind ≤ 9223372036854775807)) (h2 : (-9223372036854775808 ≤ s.who ∧ s.who ≤ 9223372036854775807)) (h3 : (-9223372036854775808 ≤ s.num ∧ s.num ≤ 9223372036854775807))
    (ho : tOp.rd inn w oc s.op) (hb : tY.rd inn w [b] s.bytes) (hm : tMsg.rd inn w mc s.msg) : tAct.rd inn w (actC s.kind s.who s.num oc b mc s.sealed) s :=
  ⟨[.int .i64 s.kind], _, by simp [actC], ⟨rfl, h1⟩, [.int .i64 s.who], _, rfl, ⟨rfl, h2⟩, [.int .i64 s.num], _, rfl, ⟨rfl, h3⟩, oc, _, rfl, ho, [b], _, rfl, hb, mc, [.bool s.sealed], rfl, hm, rfl⟩
theorem tAct.open' {inn : Nat → Prop} {w : World} {cs : List Value} {s : ActD} (h : tAct.rd inn w cs s) : ∃ oc b mc, cs = actC s.kind s.who s.num oc b mc s.sealed ∧ ((-9223372036854775808 ≤ s.kind ∧ s.kind ≤ 9223372036854775807) ∧ (-9223372036854775808 ≤ s.who ∧ s.who ≤ 9223372036854775807) ∧ (-9223372036854775808 ≤ s.num ∧ s.num ≤ 9223372036854775807)) ∧ tOp.rd inn w oc s.op ∧ tY.rd inn w [b] s.bytes ∧ tMsg.rd inn w mc s.msg := by
  obtain ⟨c0, e1, rfl, h0, c1, e2, rfl, h1, c2, e3, rfl, h2, c3, e4, rfl, h3, c4, e5, rfl, h4, c5, c6, rfl, h5, h6⟩ := h
  obtain ⟨rfl, b0⟩ := h0
  obtain ⟨rfl, b1⟩ := h1
  obtain ⟨rfl, b2⟩ := h2
  obtain ⟨u4, rfl⟩ := len1 (tY.len h4)
  have h6' : c6 = [.bool s.sealed] := h6
  subst h6'
  exact ⟨c3, u4, c5, by simp [actC], ⟨b0, b1, b2⟩, h3, h4, h5⟩
theorem tL.nil {α : Type} (T : Ty α) (inn : Nat → Prop) (w : World) : (tL T).rd inn w [.slice none 0 0] [] :=
  ⟨none, 0, rfl, Nat.le_refl _, by unfold maxLen; omega, fun _ => ⟨rfl, rfl⟩, by simp, fun h => by simp at h⟩
theorem tY.nil (inn : Nat → Prop) (w : World) : tY.rd inn w [.slice none 0 0] [] :=
  ⟨_, rfl, Bs.nil w, fun g hg hne => absurd rfl hne, by simp⟩
theorem zOp_rd (inn : Nat → Prop) (w : World) : tOp.rd inn w zOpC zOp :=
  tOp.mk (s := zOp) (by simp [zOp]) (by simp [zOp]) (by simp [zOp]) (by simp [zOp]) (tL.nil _ _ _)
theorem zMsg_rd (inn : Nat → Prop) (w : World) : tMsg.rd inn w zMsgC zMsg := by
  refine tMsg.mk (s := zMsg) ?_ ?_ ?_ ?_ ?_ ?_ ?_ ?_ ?_ (tL.nil _ _ _) ?_ ?_ (tL.nil _ _ _) (tL.nil _ _ _) (tL.nil _ _ _) (tY.nil _ _) ?_ ?_ ?_ ?_ (tY.nil _ _) (tL.nil _ _ _) ?_ ?_ (tL.nil _ _ _) ?_ ?_ (tL.nil _ _ _) ?_ ?_
  all_goals simp [zMsg, zResult, zCert, zProof, zSign]
/-- cells stored from a place on -/
def setMany : Array Value → Nat → List Value → Array Value
  | cs, _, [] => cs
  | cs, o, v :: r => setMany (cs.setIfInBounds o v) (o + 1) r
theorem aBlk.setCells {W : World} {L : List Asn} {g : Nat} {t : TypeId} : ∀ (vs : List Value) {w : World} {cs : Array Value} (o : Nat), St W w (aBlk g t cs :: L) → St W (w.setCells g o vs) (aBlk g t (setMany cs o vs) :: L)
  | [], _, _, _, h => h
  | v :: r, w, cs, o, h => by
    rw [World.setCells]
    exact aBlk.setCells r (o + 1) (aBlk.set h o v)
theorem setMany_list : ∀ (new old a b : List Value), old.length = new.length → setMany (a ++ old ++ b).toArray a.length new = (a ++ new ++ b).toArray
  | [], [], a, b, _ => by simp [setMany]
  | [], _ :: _, _, _, h => by simp at h
  | v :: r, [], _, _, h => by simp at h
  | v :: r, u :: s, a, b, h => by
    have := setMany_list r s (a ++ [v]) b (by simpa using h)
    unfold setMany
    rw [show ((a ++ u :: s ++ b).toArray.setIfInBounds a.length v) = (a ++ [v] ++ s ++ b).toArray from by simp]
    rw [List.length_append] at this
    rw [show a.length + 1 = a.length + [v].length from rfl, this]
    simp
theorem there_of {W w : World} {L : List Asn} {g : Nat} {t : TypeId} {cs : Array Value} (h : St W w (aBlk g t cs :: L)) (o n : Nat) (hn : o + n ≤ cs.size) : w.there g o n := by
  intro j hj
  have hb := aBlk.get h
  exact ⟨by rw [hb.cell]; simp; omega, hb.frozen _⟩
theorem results_cell2 {P : Program} {fn : Func} {p a b : Tmp} {ty : TypeId} (h : fn.results = #[.cell p ty, .tmp a, .tmp b]) (tmps : Array Value) (w : World) (g : Nat) (t : TypeId) (cs : Array Value) (fr : Nat × Nat) (d : TypeDesc)
    (hp : tmps.getD p undef = .pointer (some ⟨g, 0, none⟩)) (hg : w.heap[g]? = some (.cells cs t fr))
    (hu : P.underlying ty = some d) (hd : (match d with | .struct _ | .array _ _ => true | _ => false) = true) (hi : (P.info? ty).map (·.size) = some cs.size) :
    (results fn tmps).run P w = .ok (.tuple #[.agg cs, tmps.getD a undef, tmps.getD b undef]) w := by
  have hp' : tmps[p]?.getD undef = .pointer (some ⟨g, 0, none⟩) := by simpa using hp
  simp [results, h, hp', asAddr, run_loadVar_row w g t ty cs fr d hg hu hd hi]
theorem aStrs.new' {W w : World} {L : List Asn} (h : St W w L) (l : List (List UInt8)) (hl : l.length ≤ maxLen) {cs : Array Value} (hc : cs = (strC l).toArray) {n g : Nat} (hn : n = l.length) (hg : w.heap.size = g) : St W (w.alloc (.cells cs 9)) (aStrs (.slice (some ⟨g, 0, none⟩) n n) l :: L) := by
  subst hg
  exact aStrs.new h l hl hc hn
theorem aInfo : (Tryz.prog.info? 61).map (·.size) = some 40 := by kernel_rfl
end Go.Proofs.YtafomdobfmmleaaGreatDoor

/- More steps through a drawn region: what turns the world. No program here. -/
namespace Go.Proofs.YtafomdobfmmleaaGreatDoor
open Go.RowKit Go.Deep
set_option linter.unusedVariables false

section
variable {P : Program} {ops : Array Oper} {Q : Exit → Act → World → Prop} {md : Region.Mode} {S : World → Prop}
/-- an operation that yields a value and turns the world, where nothing else may come up -/
theorem anyH_do {i : Nat} {o : Oper} {d : Option Tmp} {v : Value} {fuel : Nat} {listed : Array Bool} {a : Act} {w w' : World} (hr : Region.ready md ops listed = [i]) (ho : ops[i]? = some o) (hd : o.dst = d)
    (hw : Region.wanted o (yielded ops a.tmps) = true) (he : (execOp a.eval o).run P w = .ok (.value v) w') (hS : S w') (h : wpAnyH P md ops Q S fuel (listed.setIfInBounds i true) (a.put d v) w') : wpAnyH P md ops Q S (fuel + 1) listed a w := by
  subst hd
  refine wpAnyH_all hr (by simp) (fun j hj => ?_)
  simp only [List.mem_singleton] at hj
  subst hj
  unfold Go.wpOp
  simp only [ho, hw, if_true]
  refine Or.inl ?_
  unfold Oper.wp
  rw [he]
  exact ⟨hS, h⟩
/-- a store, where nothing else may come up -/
theorem anyH_st {i : Nat} {o : Oper} {d : Option Tmp} {fuel : Nat} {listed : Array Bool} {a : Act} {w w' : World} (hr : Region.ready md ops listed = [i]) (ho : ops[i]? = some o) (hd : o.dst = d)
    (hw : Region.wanted o (yielded ops a.tmps) = true) (he : (execOp a.eval o).run P w = .ok .skip w') (hS : S w') (h : wpAnyH P md ops Q S fuel (listed.setIfInBounds i true) (a.put d undef) w') : wpAnyH P md ops Q S (fuel + 1) listed a w := by
  subst hd
  refine wpAnyH_all hr (by simp) (fun j hj => ?_)
  simp only [List.mem_singleton] at hj
  subst hj
  unfold Go.wpOp
  simp only [ho, hw, if_true]
  refine Or.inl ?_
  unfold Oper.wp
  rw [he]
  exact ⟨hS, h⟩
/-- an operation by a law of its own, where nothing else may come up -/
theorem anyH_wp {i : Nat} {o : Oper} {fuel : Nat} {listed : Array Bool} {a : Act} {w : World} (hr : Region.ready md ops listed = [i]) (ho : ops[i]? = some o)
    (hw : Region.wanted o (yielded ops a.tmps) = true) (h : ∀ K : Act → World → Prop, (∀ a' w', S w' → wpAnyH P md ops Q S fuel (listed.setIfInBounds i true) a' w' → K a' w') → o.wp P a w K Q) : wpAnyH P md ops Q S (fuel + 1) listed a w := by
  refine wpAnyH_all hr (by simp) (fun j hj => ?_)
  simp only [List.mem_singleton] at hj
  subst hj
  unfold Go.wpOp
  simp only [ho, hw, if_true]
  exact Or.inl (h _ fun a' w' h1 h2 => ⟨h1, h2⟩)
theorem run_store_op {op : Oper} {a : Act} {ty : TypeId} {x y : Operand} {p v : Value} {w w' : World} (ho : op.op = .store ty x y) (hx : a.eval x = p) (hy : a.eval y = v) (hl : (Instr.storeAt ty p v).run P w = .ok () w') :
    (execOp a.eval op).run P w = .ok .skip w' := by
  unfold execOp
  simp only [ho, hx, hy, Sem.run_bind, Sem.run_pure, Result.andThen_ok, hl]
/-- a new block and a store, in whichever order -/
theorem anyH_pair {i j : Nat} {oi oj : Oper} {d : Tmp} {v : Value} {fuel : Nat} {listed : Array Bool} {a : Act} {w w1 w2 w3 : World} (hr : Region.ready md ops listed = [i, j]) (hij : (i == j) = false) (hoi : ops[i]? = some oi) (hoj : ops[j]? = some oj) (hdi : oi.dst = some d) (hdj : oj.dst = none)
    (hr1 : Region.ready md ops (listed.setIfInBounds i true) = [j]) (hr2 : Region.ready md ops (listed.setIfInBounds j true) = [i])
    (hwi : oi.guard = none) (hwj : oj.guard = none)
    (h1 : (execOp a.eval oi).run P w = .ok (.value v) w1) (hap : oi.apart ops oj = true) (hsel : Region.noSelect ops = true) (h2 : (execOp a.eval oj).run P w1 = .ok .skip w3) (h3 : (execOp a.eval oj).run P w = .ok .skip w2) (h4 : (execOp a.eval oi).run P w2 = .ok (.value v) w3)
    (hS1 : S w1) (hS2 : S w2) (hS3 : S w3) (h : wpAnyH P md ops Q S fuel ((listed.setIfInBounds i true).setIfInBounds j true) (a.put (some d) v) w3) : wpAnyH P md ops Q S (fuel + 2) listed a w := by
  have hne : i ≠ j := by simpa using hij
  refine wpAnyH_all hr (by simp) (fun k hk => ?_)
  have hk' : k = i ∨ k = j := by simpa using hk
  rcases hk' with rfl | rfl
  · unfold Go.wpOp
    simp only [hoi, Region.wanted, hwi, if_true]
    refine Or.inl ?_
    unfold Oper.wp
    rw [h1]
    refine ⟨hS1, ?_⟩
    rw [hdi]
    refine anyH_st hr1 hoj hdj (by simp [Region.wanted, hwj]) (by rw [← hdi, execOp_put oj (fun cs b => Region.noSelect_spec hsel j oj cs b hoj) a oi.dst v (Oper.apart_spec hap).1]; exact h2) hS3 ?_
    exact h
  · unfold Go.wpOp
    simp only [hoj, Region.wanted, hwj, if_true]
    refine Or.inl ?_
    unfold Oper.wp
    rw [h3]
    refine ⟨hS2, ?_⟩
    rw [hdj]
    refine anyH_do hr2 hoi hdi (by simp [Region.wanted, hwi]) h4 hS3 ?_
    rw [Array.setIfInBounds_comm _ _ (Ne.symm hne)]
    exact h
theorem anyH_append {W : World} {L : List Asn} {i : Nat} {o : Oper} {d : Tmp} {fuel : Nat} {listed : Array Bool} {a : Act} {w : World} (hr : Region.ready md ops listed = [i]) (ho : ops[i]? = some o) (hd : o.dst = some d) (hgd : o.guard = none)
    (s x : Operand) (t : TypeId) (hop : o.op = .call { callee := .builtin .append, args := #[s, x], argTypes := #[t, t] })
    {e : TypeId} {z : Value} {sz bytes : Nat} (ht : P.underlying t = some (.slice e)) (hie : (P.info? e).map (fun i => (i.zero, i.size, i.bytes)) = some (some z, sz, bytes)) (hz : z.cells.size = sz) (hsz : 0 < sz)
    {n m : Nat} {v u : Value} {xs news : List Value} (hs : a.eval s = v) (hx : a.eval x = u) (hown : St W w (aRow e sz v n xs :: L)) (hu : Rd w u m sz news) (h1 : ∀ x ∈ news, x.oneCell' = true) (h63 : n + m ≤ maxLen) (hroom : (n + m) * bytes ≤ 140737488355328)
    (hS : ∀ A c w', St W w' (aRow e sz (.slice A (n + m) c) (n + m) (xs ++ news) :: L) → S w')
    (h : ∀ A c w', St W w' (aRow e sz (.slice A (n + m) c) (n + m) (xs ++ news) :: L) → wpAnyH P md ops Q S fuel (listed.setIfInBounds i true) (a.put (some d) (.slice A (n + m) c)) w') : wpAnyH P md ops Q S (fuel + 1) listed a w := by
  have hw : Region.wanted o (yielded ops a.tmps) = true := by simp [Region.wanted, hgd]
  refine anyH_wp hr ho hw (fun K hK => ?_)
  have := step_append_St (E := True) (K := K) (Q := Q) (ops := ops) hgd s x t hop ht hie hz hsz hs hx hown hu h1 h63 hroom (fun A c w' hS' => by rw [hd]; exact hK _ _ (hS A c w' hS') (h A c w' hS'))
  rwa [if_pos hw] at this
theorem setCells_size {g : Nat} : ∀ (vs : List Value) (k : Nat) {w : World}, (w.setCells g k vs).heap.size = w.heap.size
  | [], _, _ => rfl
  | v :: r, k, w => by
    rw [World.setCells, setCells_size r (k + 1)]
    simp [World.setCell]
theorem setCells_alloc {g : Nat} {o : Obj} : ∀ (vs : List Value) (k : Nat) {w : World}, g < w.heap.size → (w.alloc o).setCells g k vs = (w.setCells g k vs).alloc o
  | [], _, _, _ => rfl
  | v :: r, k, w, hg => by
    rw [World.setCells, World.setCells, World.setCell_alloc_past o g k v hg]
    exact setCells_alloc r (k + 1) (by simpa [World.setCell] using hg)
end
end Go.Proofs.YtafomdobfmmleaaGreatDoor

/- script.keep: an act with the fields of its kind alone, and its line's words (printed by gen_nd.py). -/
namespace Go.Proofs.YtafomdobfmmleaaGreatDoor
open Go.RowKit Go.Deep
set_option linter.unusedVariables false

def KS0 (w : World) (ZA A : Array Value) (w' : World) : Prop := St w w' [aBlk (w.heap.size + 1) 61 ZA, aBlk w.heap.size 61 A]
def KS3 (w : World) (A : Array Value) (w' : World) : Prop := St w w' [aBlk w.heap.size 61 A]
def KS2 (w : World) (g3 : Nat) (KM A : Array Value) (w' : World) : Prop := St w w' [aBlk g3 61 KM, aBlk w.heap.size 61 A]
theorem setMany_all {old new : Array Value} (h : old.size = new.size) : setMany old 0 new.toList = new := by
  have := setMany_list new.toList old.toList [] [] (by simpa using h)
  simpa using this
theorem aBlk.setAll {W w : World} {L : List Asn} {g : Nat} {t : TypeId} {old : Array Value} (h : St W w (aBlk g t old :: L)) {new : Array Value} (hs : old.size = new.size) : St W (w.setCells g 0 new.toList) (aBlk g t new :: L) := by
  have := aBlk.setCells new.toList 0 h
  rwa [setMany_all hs] at this
theorem storeAct {W w : World} {L : List Asn} {g : Nat} {t : TypeId} {old new : Array Value} (h : St W w (aBlk g t old :: L)) (hs : old.size = 40) (hn : new.size = 40) (h1 : new.all (·.oneCell') = true) : (Instr.storeAt 61 (.pointer (some ⟨g, 0, none⟩)) (.agg new)).run Tryz.prog w = .ok () (w.setCells g 0 new.toList) :=
  run_storeAt_mid w g 0 61 new (there_of h 0 _ (by omega)) (by rw [aInfo, hn]) h1
theorem actLoad {w : World} {g : Nat} {A : Array Value} (h : Blk w g 61 A) (hl : A.size = 40) : (Instr.loadAt 61 (.pointer (some ⟨g, 0, none⟩))).run Tryz.prog w = .ok (.agg A) w := by
  have := run_loadAt_mid w g 0 61 A.toList _ (rangeOf h.cell 0 40 _ (by rw [List.drop_zero]; exact List.take_of_length_le (by rw [Array.length_toList, hl]; omega))) Tryz.underlying61 rfl (by rw [aInfo]; simp [hl])
  simpa using this
theorem infoS : (Tryz.prog.info? 9).map (fun i => (i.zero, i.size, i.bytes)) = some (some (.string ⟨#[]⟩), 1, 16) := by kernel_rfl
theorem opB_any {inn : Nat → Prop} {w : World} {cs : List Value} {o : OpD} (h : tOp.rd inn w cs o) : (opB o).length + 30 ≤ big := by
  obtain ⟨v5, rfl, a1, a2, a3, a4, a5⟩ := tOp.parts h
  obtain ⟨A, cap, he, _, _, _, hl, hel⟩ := a5
  have hr : ∀ r ∈ o.records, r.length ≤ 4194304 := by
    intro r hr
    obtain ⟨i, hi⟩ := List.getElem?_of_mem hr
    have h0 : 0 < o.records.length := by have := (List.getElem?_eq_some_iff.1 hi).1; omega
    obtain ⟨b, off, _, _, _, he⟩ := hel h0
    obtain ⟨cs, hc, _⟩ := he i r hi
    obtain ⟨v, rfl, _, _, hb⟩ := hc
    exact hb
  have e1 := encLe10 o.kind.toNat (by omega)
  have e2 := byF_len o.topic a2
  have e3 := byF_len o.group a3
  have e4 := encLe10 o.offset.toNat (by omega)
  have e5 := encLe10 o.records.length (by omega)
  have e6 := flat_len (f := byF) (K := 4194314) o.records (fun x hx => by have := byF_len x (hr x hx); have := hr x hx; omega)
  have e7 : o.records.length * 4194314 ≤ 4194304 * 4194314 := Nat.mul_le_mul_right _ hl
  unfold opB big
  rw [List.length_append, List.length_append]
  have p1 : (if o.kind = 0 then [] else byF o.topic).length ≤ 4194314 := by
    split
    · simp
    · omega
  have p2 : (if o.kind = 2 then enc o.records.length ++ o.records.flatMap byF else if o.kind = 3 then byF o.group ++ enc o.offset.toNat else if o.kind = 4 then enc o.offset.toNat else []).length ≤ 17600000000000 := by
    split
    · rw [List.length_append]; omega
    · split
      · rw [List.length_append]; omega
      · split
        · omega
        · simp
  omega
theorem aStrs.nil {W w : World} {L : List Asn} (h : St W w L) : St W w (aStrs (.slice none 0 0) [] :: L) :=
  h.add (Below.refl _ _) (A := aStrs (.slice none 0 0) []) (own := fun _ => False) ⟨⟨rfl, .inl ⟨rfl, rfl⟩⟩, fun g hg => by simp [Value.ownBlock] at hg⟩ (fun x e => e.elim)
theorem St.rowRd' {W w : World} {X : List Asn} {e : TypeId} {sz k : Nat} {v : Value} {xs : List Value} (h : St W w (aRow e sz v k xs :: X)) : Rd w v k sz xs := by
  obtain ⟨own, hr, _⟩ := h.get
  exact Rd.of_own hr.1
/-- a part of a block is read -/
theorem partLoad {w : World} {g o n : Nat} {t ty : TypeId} {A : Array Value} {cs : List Value} {d : TypeDesc} (h : Blk w g t A) (hc : (A.toList.drop o).take n = cs) (hu : Tryz.prog.underlying ty = some d) (hd : d.isRow = true) (hi : (Tryz.prog.info? ty).map (·.size) = some cs.length) :
    (Instr.loadAt ty (.pointer (some ⟨g, o, none⟩))).run Tryz.prog w = .ok (.agg cs.toArray) w :=
  run_loadAt_mid w g o ty cs _ (rangeOf h.cell o n _ hc) hu hd hi
theorem tOp.one {inn : Nat → Prop} {w : World} {cs : List Value} {o : OpD} (h : tOp.rd inn w cs o) : ∀ v ∈ cs, v.oneCell' = true := by
  obtain ⟨v5, rfl, a1, a2, a3, a4, a5⟩ := tOp.parts h
  obtain ⟨A5, c5, e5, l5⟩ := tL.slice a5
  injection e5 with e5 _
  subst e5
  intro v hv
  simp only [List.mem_cons, List.not_mem_nil, or_false] at hv
  rcases hv with rfl | rfl | rfl | rfl | rfl <;> rfl
theorem tMsg.one {inn : Nat → Prop} {w : World} {cs : List Value} {x : MsgD} (hx : tMsg.rd inn w cs x) : ∀ v ∈ cs, v.oneCell' = true := by
  obtain ⟨av1, av2, av3, av4, av5, av6, av7, av8, av9, rfl, af0, af1, af2, af3, af4, af5, af6, af7, af8, af9, af10, af11, af12, af13, af14, af15, af16, af17, af18, af19, af20, af21, af22, af23, af24, af25, af26, af27, af28, af29⟩ := tMsg.parts hx
  obtain ⟨aA1, ac1, ae1, al1⟩ := tL.slice af9
  injection ae1 with ae1 _
  subst ae1
  obtain ⟨aA2, ac2, ae2, al2⟩ := tL.slice af12
  injection ae2 with ae2 _
  subst ae2
  obtain ⟨aA3, ac3, ae3, al3⟩ := tL.slice af13
  injection ae3 with ae3 _
  subst ae3
  obtain ⟨aA4, ac4, ae4, al4⟩ := tL.slice af14
  injection ae4 with ae4 _
  subst ae4
  obtain ⟨aA5, ac5, rfl⟩ := (tY.bs af15).rd.slice
  have al5 := tY.le af15
  obtain ⟨aA6, ac6, rfl⟩ := (tY.bs af20).rd.slice
  have al6 := tY.le af20
  obtain ⟨aA7, ac7, ae7, al7⟩ := tL.slice af21
  injection ae7 with ae7 _
  subst ae7
  obtain ⟨aA8, ac8, ae8, al8⟩ := tL.slice af24
  injection ae8 with ae8 _
  subst ae8
  obtain ⟨aA9, ac9, ae9, al9⟩ := tL.slice af27
  injection ae9 with ae9 _
  subst ae9
  intro v hv
  simp only [List.mem_cons, List.not_mem_nil, or_false] at hv
  rcases hv with rfl | rfl | rfl | rfl | rfl | rfl | rfl | rfl | rfl | rfl | rfl | rfl | rfl | rfl | rfl | rfl | rfl | rfl | rfl | rfl | rfl | rfl | rfl | rfl | rfl | rfl | rfl | rfl | rfl | rfl <;> rfl
/-- one cell stored -/
theorem store1 {w : World} {b o : Nat} {s : Bool} {u : Value} (hc : w.cell? ⟨b, o, none⟩ = some u) (hf : w.frozen? ⟨b, o, none⟩ = false) :
    (Instr.storeAt 4 (.pointer (some ⟨b, o, none⟩)) (.bool s)).run Tryz.prog w = .ok () (w.setCell ⟨b, o, none⟩ (.bool s)) := by
  simp [go_sem, hc, hf]
end Go.Proofs.YtafomdobfmmleaaGreatDoor

/- script.keep, some ways (printed by gen_nd.py). -/
namespace Go.Proofs.YtafomdobfmmleaaGreatDoor
open Go.RowKit Go.Deep
set_option linter.unusedVariables false

set_option maxRecDepth 20000 in
set_option maxHeartbeats 16000000 in
theorem keepA {w : World} {R : Ending → World → Prop} {kind who num : Int} {op : OpD} {bytes : List UInt8} {msg : MsgD} {sl : Bool} {oc mc : List Value} {b : Value} (hT : TabW w)
    (bk : (-9223372036854775808 ≤ kind ∧ kind ≤ 9223372036854775807) ∧ (-9223372036854775808 ≤ who ∧ who ≤ 9223372036854775807) ∧ (-9223372036854775808 ≤ num ∧ num ≤ 9223372036854775807))
    (ho : tOp.rd (fun _ => True) w oc op) (hb : tY.rd (fun _ => True) w [b] bytes) (hm : tMsg.rd (fun _ => True) w mc msg)
    (hY : keepOk ⟨kind, who, num, op, bytes, msg, sl⟩ → ∀ ds v w', tAct.rd (fun _ => True) w' ds (keepF ⟨kind, who, num, op, bytes, msg, sl⟩) → St w w' [aStrs v (keepW ⟨kind, who, num, op, bytes, msg, sl⟩)] → R (.returned (.tuple #[.agg ds.toArray, v, .bool true])) w')
    (hN : ¬ keepOk ⟨kind, who, num, op, bytes, msg, sl⟩ → ∀ (U : Array Value) v w', U.size = 40 → U.all (·.oneCell') = true → B w w' → R (.returned (.tuple #[.agg U, v, .bool false])) w')
    (hk : kind = 1 ∨ kind = 2 ∨ kind = 3) : Calls Tryz.prog 42 #[.agg (actC kind who num oc b mc sl).toArray] w R := by
  obtain ⟨bA, bc, rfl⟩ : ∃ bA bc, b = .slice bA bytes.length bc := by
    obtain ⟨u, hu, hbs, _⟩ := hb
    injection hu with hu _
    subst hu
    obtain ⟨A1, c1, e1⟩ := hbs.rd.slice
    exact ⟨A1, c1, e1⟩
  have hol : oc.length = 5 := tOp.len ho
  have hml : mc.length = 30 := by have := tMsg.len hm; simpa using this
  obtain ⟨A, hA⟩ : ∃ A, (actC kind who num oc (.slice bA bytes.length bc) mc sl).toArray = A := ⟨_, rfl⟩
  obtain ⟨ZA, hZA⟩ : ∃ ZA, (actC 0 0 0 zOpC (.slice none 0 0) zMsgC false).toArray = ZA := ⟨_, rfl⟩
  have HAS := Lib.hid (show A.size = 40 from by rw [← hA]; simp [actC, hol, hml])
  have HZS := Lib.hid (show ZA.size = 40 from by rw [← hZA]; rfl)
  have a0 := Lib.hid (show A[0]? = some (.int .i64 kind) from by rw [← hA]; rfl)
  have a1 := Lib.hid (show A[1]? = some (.int .i64 who) from by rw [← hA]; rfl)
  have a8 := Lib.hid (show A[8]? = some (.slice bA bytes.length bc) from by rw [← hA]; simp [actC, hol])
  have HA3 := Lib.hid (show (A.toList.drop 3).take 5 = oc from by rw [← hA]; simp [actC, hol])
  have HA9 := Lib.hid (show (A.toList.drop 9).take 30 = mc from by rw [← hA]; simp [actC, List.drop_append, List.take_append, hol, hml])
  have a39 := Lib.hid (show A[39]? = some (.bool sl) from by rw [← hA]; simp [actC, hol, hml])
  have HOL := Lib.hid hol
  have HML := Lib.hid hml
  have a2 := Lib.hid (show A[2]? = some (.int .i64 num) from by rw [← hA]; rfl)
  have HO := Lib.hid ho
  have HB := Lib.hid hb
  have HM := Lib.hid hm
  have HY := Lib.hid hY
  have HN := Lib.hid hN
  have HT := Lib.hid hT
  have HBK := Lib.hid bk
  have HAA := Lib.hid hA
  have HZA := Lib.hid hZA
  rw [hA]
  have HS := Lib.hid (show KS0 w ZA A ((w.alloc (.cells A 61)).alloc (.cells #[.int .i64 0, .int .i64 0, .int .i64 0, .int .i64 0, .string ⟨#[]⟩, .string ⟨#[]⟩, .int .i64 0, .slice none 0 0, .slice none 0 0, .int .i64 0, .int .i64 0, .int .i64 0, .int .i64 0, .int .i64 0, .int .i64 0, .int .i64 0, .int .i64 0, .int .i64 0, .slice none 0 0, .int .i64 0, .int .i64 0, .slice none 0 0, .slice none 0 0, .slice none 0 0, .slice none 0 0, .string ⟨#[]⟩, .int .i64 0, .string ⟨#[]⟩, .int .i64 0, .slice none 0 0, .slice none 0 0, .int .i64 0, .int .i64 0, .slice none 0 0, .int .i64 0, .int .i64 0, .slice none 0 0, .int .i64 0, .int .i64 0, .bool false] 61)) from by
    have h := aBlk.new (aBlk.new (St.nil w) 61 A) 61 ZA
    rw [show (w.alloc (.cells A 61)).heap.size = w.heap.size + 1 from by simp] at h
    rw [← hZA] at h ⊢
    exact h)
  clear hA hZA ho hb hm hY hN hT bk hol hml
  go_enter Tryz.func42, Tryz.ntmps42
  go_wp2_with fail
  refine wp_region_held_drew (S := KS0 w ZA A) (by kernel_rfl) (show St _ _ _ from St.on (show St _ _ _ from HS.out)) (fun HS => ?_)
  replace HS := Lib.hid HS
  generalize World.drew _ = W1 at *
  refine anyH_take (i := 0) (d := some 13) (v := .pointer (some ⟨w.heap.size, 2, none⟩)) rfl rfl (by kernel_rfl) (by kernel_rfl) (by kernel_rfl) (fun _ _ _ h => h) rfl (fun w' hS => by go_simp) HS.out ?_
  simp only [Act.put, List.setIfInBounds_toArray, List.set_cons_zero, List.set_cons_succ]
  refine anyH_take (i := 1) (d := some 14) (v := .int .i64 num) rfl rfl (by kernel_rfl) (by kernel_rfl) (by kernel_rfl) (fun _ _ _ h => h) rfl (fun w' hS => run_load_op (ty := 3) rfl rfl (load1 (by rw [(aBlk.get (St.swap hS)).cell 2]; exact a2.out) Tryz.underlying3 rfl)) HS.out ?_
  simp only [Act.put, List.setIfInBounds_toArray, List.set_cons_zero, List.set_cons_succ]
  refine anyH_take (i := 3) (d := some 16) (v := .pointer (some ⟨w.heap.size, 1, none⟩)) rfl rfl (by kernel_rfl) (by kernel_rfl) (by kernel_rfl) (fun _ _ _ h => h) rfl (fun w' hS => by go_simp) HS.out ?_
  simp only [Act.put, List.setIfInBounds_toArray, List.set_cons_zero, List.set_cons_succ]
  refine anyH_take (i := 4) (d := some 17) (v := .int .i64 who) rfl rfl (by kernel_rfl) (by kernel_rfl) (by kernel_rfl) (fun _ _ _ h => h) rfl (fun w' hS => run_load_op (ty := 3) rfl rfl (load1 (by rw [(aBlk.get (St.swap hS)).cell 1]; exact a1.out) Tryz.underlying3 rfl)) HS.out ?_
  simp only [Act.put, List.setIfInBounds_toArray, List.set_cons_zero, List.set_cons_succ]
  refine anyH_call (i := 2) (d := some 15) (v := .string (bstr (Lib.itoa num))) (by kernel_rfl) rfl rfl rfl (by go_simp) (num_c (HT.out.later (St.b HS.out)) HBK.out.2.2) (fun w' hb => St.later HS.out hb) (fun w2 HS => ?_)
  replace HS := Lib.hid HS
  simp only [Act.put, List.setIfInBounds_toArray, List.set_cons_zero, List.set_cons_succ]
  refine anyH_call (i := 5) (d := some 18) (v := .string (bstr (Lib.itoa who))) (by kernel_rfl) rfl rfl rfl (by go_simp) (num_c (HT.out.later (St.b HS.out)) HBK.out.2.1) (fun w' hb => St.later HS.out hb) (fun w3 HS => ?_)
  replace HS := Lib.hid HS
  simp only [Act.put, List.setIfInBounds_toArray, List.set_cons_zero, List.set_cons_succ]
  refine anyH_take (i := 6) (d := some 5) (v := .string (bstr (Lib.itoa num))) rfl rfl (by kernel_rfl) (by kernel_rfl) (by kernel_rfl) (fun _ _ _ h => h) rfl (fun w' hS => by go_simp) HS.out ?_
  simp only [Act.put, List.setIfInBounds_toArray, List.set_cons_zero, List.set_cons_succ]
  refine anyH_take (i := 7) (d := some 6) (v := .string (bstr (Lib.itoa who))) rfl rfl (by kernel_rfl) (by kernel_rfl) (by kernel_rfl) (fun _ _ _ h => h) rfl (fun w' hS => by go_simp) HS.out ?_
  simp only [Act.put, List.setIfInBounds_toArray, List.set_cons_zero, List.set_cons_succ]
  refine wpAnyH_done (by kernel_rfl) ?_ _
  have k0 : w3.cell? ⟨w.heap.size, 0, none⟩ = some (.int .i64 kind) := by rw [(aBlk.get (St.swap HS.out)).cell 0]; exact a0.out
  have k1 : w3.cell? ⟨w.heap.size, 1, none⟩ = some (.int .i64 who) := by rw [(aBlk.get (St.swap HS.out)).cell 1]; exact a1.out
  have k2 : w3.cell? ⟨w.heap.size, 2, none⟩ = some (.int .i64 num) := by rw [(aBlk.get (St.swap HS.out)).cell 2]; exact a2.out
  have kL := (aBlk.get (St.swap HS.out)).lt
  rcases hk with rfl | rfl | rfl
  · have H1K := Lib.hid (show (#[.int .i64 1, .int .i64 who, .int .i64 0, .int .i64 0, .string ⟨#[]⟩, .string ⟨#[]⟩, .int .i64 0, .slice none 0 0, .slice none 0 0, .int .i64 0, .int .i64 0, .int .i64 0, .int .i64 0, .int .i64 0, .int .i64 0, .int .i64 0, .int .i64 0, .int .i64 0, .slice none 0 0, .int .i64 0, .int .i64 0, .slice none 0 0, .slice none 0 0, .slice none 0 0, .slice none 0 0, .string ⟨#[]⟩, .int .i64 0, .string ⟨#[]⟩, .int .i64 0, .slice none 0 0, .slice none 0 0, .int .i64 0, .int .i64 0, .slice none 0 0, .int .i64 0, .int .i64 0, .slice none 0 0, .int .i64 0, .int .i64 0, .bool false] : Array Value).all (·.oneCell') = true from by simp [Value.oneCell'])
    have HS3 := Lib.hid (show St w (w3.alloc (.cells #[.int .i64 0, .int .i64 0, .int .i64 0, .int .i64 0, .string ⟨#[]⟩, .string ⟨#[]⟩, .int .i64 0, .slice none 0 0, .slice none 0 0, .int .i64 0, .int .i64 0, .int .i64 0, .int .i64 0, .int .i64 0, .int .i64 0, .int .i64 0, .int .i64 0, .int .i64 0, .slice none 0 0, .int .i64 0, .int .i64 0, .slice none 0 0, .slice none 0 0, .slice none 0 0, .slice none 0 0, .string ⟨#[]⟩, .int .i64 0, .string ⟨#[]⟩, .int .i64 0, .slice none 0 0, .slice none 0 0, .int .i64 0, .int .i64 0, .slice none 0 0, .int .i64 0, .int .i64 0, .slice none 0 0, .int .i64 0, .int .i64 0, .bool false] 61)) [aBlk w3.heap.size 61 #[.int .i64 0, .int .i64 0, .int .i64 0, .int .i64 0, .string ⟨#[]⟩, .string ⟨#[]⟩, .int .i64 0, .slice none 0 0, .slice none 0 0, .int .i64 0, .int .i64 0, .int .i64 0, .int .i64 0, .int .i64 0, .int .i64 0, .int .i64 0, .int .i64 0, .int .i64 0, .slice none 0 0, .int .i64 0, .int .i64 0, .slice none 0 0, .slice none 0 0, .slice none 0 0, .slice none 0 0, .string ⟨#[]⟩, .int .i64 0, .string ⟨#[]⟩, .int .i64 0, .slice none 0 0, .slice none 0 0, .int .i64 0, .int .i64 0, .slice none 0 0, .int .i64 0, .int .i64 0, .slice none 0 0, .int .i64 0, .int .i64 0, .bool false], aBlk (w.heap.size + 1) 61 ZA, aBlk w.heap.size 61 A] from aBlk.new (show St _ _ _ from HS.out) _ _)
    clear HS
    have H1C := Lib.hid (show (#[.int .i64 1, .int .i64 0, .int .i64 num, .int .i64 0, .string ⟨#[]⟩, .string ⟨#[]⟩, .int .i64 0, .slice none 0 0, .slice none 0 0, .int .i64 0, .int .i64 0, .int .i64 0, .int .i64 0, .int .i64 0, .int .i64 0, .int .i64 0, .int .i64 0, .int .i64 0, .slice none 0 0, .int .i64 0, .int .i64 0, .slice none 0 0, .slice none 0 0, .slice none 0 0, .slice none 0 0, .string ⟨#[]⟩, .int .i64 0, .string ⟨#[]⟩, .int .i64 0, .slice none 0 0, .slice none 0 0, .int .i64 0, .int .i64 0, .slice none 0 0, .int .i64 0, .int .i64 0, .slice none 0 0, .int .i64 0, .int .i64 0, .bool false] : Array Value).all (·.oneCell') = true from by simp [Value.oneCell'])
    go_wp2_with (first
      | (refine wpList_store_row rfl 61 (.tmp 7) (.tmp 23) rfl w3.heap.size #[.int .i64 1, .int .i64 who, .int .i64 0, .int .i64 0, .string ⟨#[]⟩, .string ⟨#[]⟩, .int .i64 0, .slice none 0 0, .slice none 0 0, .int .i64 0, .int .i64 0, .int .i64 0, .int .i64 0, .int .i64 0, .int .i64 0, .int .i64 0, .int .i64 0, .int .i64 0, .slice none 0 0, .int .i64 0, .int .i64 0, .slice none 0 0, .slice none 0 0, .slice none 0 0, .slice none 0 0, .string ⟨#[]⟩, .int .i64 0, .string ⟨#[]⟩, .int .i64 0, .slice none 0 0, .slice none 0 0, .int .i64 0, .int .i64 0, .slice none 0 0, .int .i64 0, .int .i64 0, .slice none 0 0, .int .i64 0, .int .i64 0, .bool false] rfl rfl 61 #[.int .i64 0, .int .i64 0, .int .i64 0, .int .i64 0, .string ⟨#[]⟩, .string ⟨#[]⟩, .int .i64 0, .slice none 0 0, .slice none 0 0, .int .i64 0, .int .i64 0, .int .i64 0, .int .i64 0, .int .i64 0, .int .i64 0, .int .i64 0, .int .i64 0, .int .i64 0, .slice none 0 0, .int .i64 0, .int .i64 0, .slice none 0 0, .slice none 0 0, .slice none 0 0, .slice none 0 0, .string ⟨#[]⟩, .int .i64 0, .string ⟨#[]⟩, .int .i64 0, .slice none 0 0, .slice none 0 0, .int .i64 0, .int .i64 0, .slice none 0 0, .int .i64 0, .int .i64 0, .slice none 0 0, .int .i64 0, .int .i64 0, .bool false] (aBlk.get HS3.out) (by rw [aInfo]; rfl) rfl H1K.out ?_; have HS4 := Lib.hid (aBlk.setRow HS3.out #[.int .i64 1, .int .i64 who, .int .i64 0, .int .i64 0, .string ⟨#[]⟩, .string ⟨#[]⟩, .int .i64 0, .slice none 0 0, .slice none 0 0, .int .i64 0, .int .i64 0, .int .i64 0, .int .i64 0, .int .i64 0, .int .i64 0, .int .i64 0, .int .i64 0, .int .i64 0, .slice none 0 0, .int .i64 0, .int .i64 0, .slice none 0 0, .slice none 0 0, .slice none 0 0, .slice none 0 0, .string ⟨#[]⟩, .int .i64 0, .string ⟨#[]⟩, .int .i64 0, .slice none 0 0, .slice none 0 0, .int .i64 0, .int .i64 0, .slice none 0 0, .int .i64 0, .int .i64 0, .slice none 0 0, .int .i64 0, .int .i64 0, .bool false]); have k0 := (aBlk.get HS4.out.rot3).cell 0; rw [a0.out] at k0; have k1 := (aBlk.get HS4.out.rot3).cell 1; rw [a1.out] at k1; have k2 := (aBlk.get HS4.out.rot3).cell 2; rw [a2.out] at k2; clear HS3)
      | (have h1 := aStrs.new' HS4.out [wDeliver, Lib.itoa num] (by simp [maxLen]) (cs := #[.string ⟨#[100, 101, 108, 105, 118, 101, 114]⟩, .string (bstr (Lib.itoa num))]) rfl (n := 2) (g := w3.heap.size + 1) rfl (by rw [setRow_size]; simp); refine wpList_store_row rfl 61 (.tmp 2) (.tmp 32) rfl (w.heap.size + 1) #[.int .i64 1, .int .i64 0, .int .i64 num, .int .i64 0, .string ⟨#[]⟩, .string ⟨#[]⟩, .int .i64 0, .slice none 0 0, .slice none 0 0, .int .i64 0, .int .i64 0, .int .i64 0, .int .i64 0, .int .i64 0, .int .i64 0, .int .i64 0, .int .i64 0, .int .i64 0, .slice none 0 0, .int .i64 0, .int .i64 0, .slice none 0 0, .slice none 0 0, .slice none 0 0, .slice none 0 0, .string ⟨#[]⟩, .int .i64 0, .string ⟨#[]⟩, .int .i64 0, .slice none 0 0, .slice none 0 0, .int .i64 0, .int .i64 0, .slice none 0 0, .int .i64 0, .int .i64 0, .slice none 0 0, .int .i64 0, .int .i64 0, .bool false] rfl rfl 61 ZA (aBlk.get h1.rot3) (by rw [aInfo]; rfl) (by rw [HZS.out]; rfl) H1C.out ?_; have HS5 := Lib.hid (aBlk.setRow h1.rot3 #[.int .i64 1, .int .i64 0, .int .i64 num, .int .i64 0, .string ⟨#[]⟩, .string ⟨#[]⟩, .int .i64 0, .slice none 0 0, .slice none 0 0, .int .i64 0, .int .i64 0, .int .i64 0, .int .i64 0, .int .i64 0, .int .i64 0, .int .i64 0, .int .i64 0, .int .i64 0, .slice none 0 0, .int .i64 0, .int .i64 0, .slice none 0 0, .slice none 0 0, .slice none 0 0, .slice none 0 0, .string ⟨#[]⟩, .int .i64 0, .string ⟨#[]⟩, .int .i64 0, .slice none 0 0, .slice none 0 0, .int .i64 0, .int .i64 0, .slice none 0 0, .int .i64 0, .int .i64 0, .slice none 0 0, .int .i64 0, .int .i64 0, .bool false]))
      | fail)
    (try simp only [Exit.inBlock, Exit.then])
    refine bodyPost_ret (results_cell2 rfl _ _ (w.heap.size + 1) _ #[.int .i64 1, .int .i64 0, .int .i64 num, .int .i64 0, .string ⟨#[]⟩, .string ⟨#[]⟩, .int .i64 0, .slice none 0 0, .slice none 0 0, .int .i64 0, .int .i64 0, .int .i64 0, .int .i64 0, .int .i64 0, .int .i64 0, .int .i64 0, .int .i64 0, .int .i64 0, .slice none 0 0, .int .i64 0, .int .i64 0, .slice none 0 0, .slice none 0 0, .slice none 0 0, .slice none 0 0, .string ⟨#[]⟩, .int .i64 0, .string ⟨#[]⟩, .int .i64 0, .slice none 0 0, .slice none 0 0, .int .i64 0, .int .i64 0, .slice none 0 0, .int .i64 0, .int .i64 0, .slice none 0 0, .int .i64 0, .int .i64 0, .bool false] _ _ rfl (aBlk.get HS5.out) Tryz.underlying61 rfl (by rw [aInfo]; rfl)) rfl ?_
    refine HY.out ⟨⟨by simp, by simp⟩, fun h => absurd h (by simp), fun h => absurd h (by simp)⟩ (actC 1 0 num zOpC (.slice none 0 0) zMsgC false) _ _ ?_ ?_
    · show tAct.rd _ _ _ { zAct with kind := 1, who := 0, num := num }
      exact tAct.mk' (s := { zAct with kind := 1, who := 0, num := num }) (show (-9223372036854775808 : Int) ≤ 1 ∧ (1 : Int) ≤ 9223372036854775807 from by omega) (show (-9223372036854775808 : Int) ≤ 0 ∧ (0 : Int) ≤ 9223372036854775807 from by omega) HBK.out.2.2 (zOp_rd _ _) (tY.nil _ _) (zMsg_rd _ _)
    · show St _ _ [aStrs _ [wDeliver, Lib.itoa num]]
      exact HS5.out.drop.drop2.drop2
  · have H1K := Lib.hid (show (#[.int .i64 2, .int .i64 who, .int .i64 0, .int .i64 0, .string ⟨#[]⟩, .string ⟨#[]⟩, .int .i64 0, .slice none 0 0, .slice none 0 0, .int .i64 0, .int .i64 0, .int .i64 0, .int .i64 0, .int .i64 0, .int .i64 0, .int .i64 0, .int .i64 0, .int .i64 0, .slice none 0 0, .int .i64 0, .int .i64 0, .slice none 0 0, .slice none 0 0, .slice none 0 0, .slice none 0 0, .string ⟨#[]⟩, .int .i64 0, .string ⟨#[]⟩, .int .i64 0, .slice none 0 0, .slice none 0 0, .int .i64 0, .int .i64 0, .slice none 0 0, .int .i64 0, .int .i64 0, .slice none 0 0, .int .i64 0, .int .i64 0, .bool false] : Array Value).all (·.oneCell') = true from by simp [Value.oneCell'])
    have HS3 := Lib.hid (show St w (w3.alloc (.cells #[.int .i64 0, .int .i64 0, .int .i64 0, .int .i64 0, .string ⟨#[]⟩, .string ⟨#[]⟩, .int .i64 0, .slice none 0 0, .slice none 0 0, .int .i64 0, .int .i64 0, .int .i64 0, .int .i64 0, .int .i64 0, .int .i64 0, .int .i64 0, .int .i64 0, .int .i64 0, .slice none 0 0, .int .i64 0, .int .i64 0, .slice none 0 0, .slice none 0 0, .slice none 0 0, .slice none 0 0, .string ⟨#[]⟩, .int .i64 0, .string ⟨#[]⟩, .int .i64 0, .slice none 0 0, .slice none 0 0, .int .i64 0, .int .i64 0, .slice none 0 0, .int .i64 0, .int .i64 0, .slice none 0 0, .int .i64 0, .int .i64 0, .bool false] 61)) [aBlk w3.heap.size 61 #[.int .i64 0, .int .i64 0, .int .i64 0, .int .i64 0, .string ⟨#[]⟩, .string ⟨#[]⟩, .int .i64 0, .slice none 0 0, .slice none 0 0, .int .i64 0, .int .i64 0, .int .i64 0, .int .i64 0, .int .i64 0, .int .i64 0, .int .i64 0, .int .i64 0, .int .i64 0, .slice none 0 0, .int .i64 0, .int .i64 0, .slice none 0 0, .slice none 0 0, .slice none 0 0, .slice none 0 0, .string ⟨#[]⟩, .int .i64 0, .string ⟨#[]⟩, .int .i64 0, .slice none 0 0, .slice none 0 0, .int .i64 0, .int .i64 0, .slice none 0 0, .int .i64 0, .int .i64 0, .slice none 0 0, .int .i64 0, .int .i64 0, .bool false], aBlk (w.heap.size + 1) 61 ZA, aBlk w.heap.size 61 A] from aBlk.new (show St _ _ _ from HS.out) _ _)
    clear HS
    have H1C := Lib.hid (show (#[.int .i64 2, .int .i64 0, .int .i64 num, .int .i64 0, .string ⟨#[]⟩, .string ⟨#[]⟩, .int .i64 0, .slice none 0 0, .slice none 0 0, .int .i64 0, .int .i64 0, .int .i64 0, .int .i64 0, .int .i64 0, .int .i64 0, .int .i64 0, .int .i64 0, .int .i64 0, .slice none 0 0, .int .i64 0, .int .i64 0, .slice none 0 0, .slice none 0 0, .slice none 0 0, .slice none 0 0, .string ⟨#[]⟩, .int .i64 0, .string ⟨#[]⟩, .int .i64 0, .slice none 0 0, .slice none 0 0, .int .i64 0, .int .i64 0, .slice none 0 0, .int .i64 0, .int .i64 0, .slice none 0 0, .int .i64 0, .int .i64 0, .bool false] : Array Value).all (·.oneCell') = true from by simp [Value.oneCell'])
    go_wp2_with (first
      | (refine wpList_store_row rfl 61 (.tmp 7) (.tmp 23) rfl w3.heap.size #[.int .i64 2, .int .i64 who, .int .i64 0, .int .i64 0, .string ⟨#[]⟩, .string ⟨#[]⟩, .int .i64 0, .slice none 0 0, .slice none 0 0, .int .i64 0, .int .i64 0, .int .i64 0, .int .i64 0, .int .i64 0, .int .i64 0, .int .i64 0, .int .i64 0, .int .i64 0, .slice none 0 0, .int .i64 0, .int .i64 0, .slice none 0 0, .slice none 0 0, .slice none 0 0, .slice none 0 0, .string ⟨#[]⟩, .int .i64 0, .string ⟨#[]⟩, .int .i64 0, .slice none 0 0, .slice none 0 0, .int .i64 0, .int .i64 0, .slice none 0 0, .int .i64 0, .int .i64 0, .slice none 0 0, .int .i64 0, .int .i64 0, .bool false] rfl rfl 61 #[.int .i64 0, .int .i64 0, .int .i64 0, .int .i64 0, .string ⟨#[]⟩, .string ⟨#[]⟩, .int .i64 0, .slice none 0 0, .slice none 0 0, .int .i64 0, .int .i64 0, .int .i64 0, .int .i64 0, .int .i64 0, .int .i64 0, .int .i64 0, .int .i64 0, .int .i64 0, .slice none 0 0, .int .i64 0, .int .i64 0, .slice none 0 0, .slice none 0 0, .slice none 0 0, .slice none 0 0, .string ⟨#[]⟩, .int .i64 0, .string ⟨#[]⟩, .int .i64 0, .slice none 0 0, .slice none 0 0, .int .i64 0, .int .i64 0, .slice none 0 0, .int .i64 0, .int .i64 0, .slice none 0 0, .int .i64 0, .int .i64 0, .bool false] (aBlk.get HS3.out) (by rw [aInfo]; rfl) rfl H1K.out ?_; have HS4 := Lib.hid (aBlk.setRow HS3.out #[.int .i64 2, .int .i64 who, .int .i64 0, .int .i64 0, .string ⟨#[]⟩, .string ⟨#[]⟩, .int .i64 0, .slice none 0 0, .slice none 0 0, .int .i64 0, .int .i64 0, .int .i64 0, .int .i64 0, .int .i64 0, .int .i64 0, .int .i64 0, .int .i64 0, .int .i64 0, .slice none 0 0, .int .i64 0, .int .i64 0, .slice none 0 0, .slice none 0 0, .slice none 0 0, .slice none 0 0, .string ⟨#[]⟩, .int .i64 0, .string ⟨#[]⟩, .int .i64 0, .slice none 0 0, .slice none 0 0, .int .i64 0, .int .i64 0, .slice none 0 0, .int .i64 0, .int .i64 0, .slice none 0 0, .int .i64 0, .int .i64 0, .bool false]); have k0 := (aBlk.get HS4.out.rot3).cell 0; rw [a0.out] at k0; have k1 := (aBlk.get HS4.out.rot3).cell 1; rw [a1.out] at k1; have k2 := (aBlk.get HS4.out.rot3).cell 2; rw [a2.out] at k2; clear HS3)
      | (have h1 := aStrs.new' HS4.out [wDrop, Lib.itoa num] (by simp [maxLen]) (cs := #[.string ⟨#[100, 114, 111, 112]⟩, .string (bstr (Lib.itoa num))]) rfl (n := 2) (g := w3.heap.size + 1) rfl (by rw [setRow_size]; simp); refine wpList_store_row rfl 61 (.tmp 2) (.tmp 41) rfl (w.heap.size + 1) #[.int .i64 2, .int .i64 0, .int .i64 num, .int .i64 0, .string ⟨#[]⟩, .string ⟨#[]⟩, .int .i64 0, .slice none 0 0, .slice none 0 0, .int .i64 0, .int .i64 0, .int .i64 0, .int .i64 0, .int .i64 0, .int .i64 0, .int .i64 0, .int .i64 0, .int .i64 0, .slice none 0 0, .int .i64 0, .int .i64 0, .slice none 0 0, .slice none 0 0, .slice none 0 0, .slice none 0 0, .string ⟨#[]⟩, .int .i64 0, .string ⟨#[]⟩, .int .i64 0, .slice none 0 0, .slice none 0 0, .int .i64 0, .int .i64 0, .slice none 0 0, .int .i64 0, .int .i64 0, .slice none 0 0, .int .i64 0, .int .i64 0, .bool false] rfl rfl 61 ZA (aBlk.get h1.rot3) (by rw [aInfo]; rfl) (by rw [HZS.out]; rfl) H1C.out ?_; have HS5 := Lib.hid (aBlk.setRow h1.rot3 #[.int .i64 2, .int .i64 0, .int .i64 num, .int .i64 0, .string ⟨#[]⟩, .string ⟨#[]⟩, .int .i64 0, .slice none 0 0, .slice none 0 0, .int .i64 0, .int .i64 0, .int .i64 0, .int .i64 0, .int .i64 0, .int .i64 0, .int .i64 0, .int .i64 0, .int .i64 0, .slice none 0 0, .int .i64 0, .int .i64 0, .slice none 0 0, .slice none 0 0, .slice none 0 0, .slice none 0 0, .string ⟨#[]⟩, .int .i64 0, .string ⟨#[]⟩, .int .i64 0, .slice none 0 0, .slice none 0 0, .int .i64 0, .int .i64 0, .slice none 0 0, .int .i64 0, .int .i64 0, .slice none 0 0, .int .i64 0, .int .i64 0, .bool false]))
      | fail)
    (try simp only [Exit.inBlock, Exit.then])
    refine bodyPost_ret (results_cell2 rfl _ _ (w.heap.size + 1) _ #[.int .i64 2, .int .i64 0, .int .i64 num, .int .i64 0, .string ⟨#[]⟩, .string ⟨#[]⟩, .int .i64 0, .slice none 0 0, .slice none 0 0, .int .i64 0, .int .i64 0, .int .i64 0, .int .i64 0, .int .i64 0, .int .i64 0, .int .i64 0, .int .i64 0, .int .i64 0, .slice none 0 0, .int .i64 0, .int .i64 0, .slice none 0 0, .slice none 0 0, .slice none 0 0, .slice none 0 0, .string ⟨#[]⟩, .int .i64 0, .string ⟨#[]⟩, .int .i64 0, .slice none 0 0, .slice none 0 0, .int .i64 0, .int .i64 0, .slice none 0 0, .int .i64 0, .int .i64 0, .slice none 0 0, .int .i64 0, .int .i64 0, .bool false] _ _ rfl (aBlk.get HS5.out) Tryz.underlying61 rfl (by rw [aInfo]; rfl)) rfl ?_
    refine HY.out ⟨⟨by simp, by simp⟩, fun h => absurd h (by simp), fun h => absurd h (by simp)⟩ (actC 2 0 num zOpC (.slice none 0 0) zMsgC false) _ _ ?_ ?_
    · show tAct.rd _ _ _ { zAct with kind := 2, who := 0, num := num }
      exact tAct.mk' (s := { zAct with kind := 2, who := 0, num := num }) (show (-9223372036854775808 : Int) ≤ 2 ∧ (2 : Int) ≤ 9223372036854775807 from by omega) (show (-9223372036854775808 : Int) ≤ 0 ∧ (0 : Int) ≤ 9223372036854775807 from by omega) HBK.out.2.2 (zOp_rd _ _) (tY.nil _ _) (zMsg_rd _ _)
    · show St _ _ [aStrs _ [wDrop, Lib.itoa num]]
      exact HS5.out.drop.drop2.drop2
  · have H1K := Lib.hid (show (#[.int .i64 3, .int .i64 who, .int .i64 0, .int .i64 0, .string ⟨#[]⟩, .string ⟨#[]⟩, .int .i64 0, .slice none 0 0, .slice none 0 0, .int .i64 0, .int .i64 0, .int .i64 0, .int .i64 0, .int .i64 0, .int .i64 0, .int .i64 0, .int .i64 0, .int .i64 0, .slice none 0 0, .int .i64 0, .int .i64 0, .slice none 0 0, .slice none 0 0, .slice none 0 0, .slice none 0 0, .string ⟨#[]⟩, .int .i64 0, .string ⟨#[]⟩, .int .i64 0, .slice none 0 0, .slice none 0 0, .int .i64 0, .int .i64 0, .slice none 0 0, .int .i64 0, .int .i64 0, .slice none 0 0, .int .i64 0, .int .i64 0, .bool false] : Array Value).all (·.oneCell') = true from by simp [Value.oneCell'])
    have HS3 := Lib.hid (show St w (w3.alloc (.cells #[.int .i64 0, .int .i64 0, .int .i64 0, .int .i64 0, .string ⟨#[]⟩, .string ⟨#[]⟩, .int .i64 0, .slice none 0 0, .slice none 0 0, .int .i64 0, .int .i64 0, .int .i64 0, .int .i64 0, .int .i64 0, .int .i64 0, .int .i64 0, .int .i64 0, .int .i64 0, .slice none 0 0, .int .i64 0, .int .i64 0, .slice none 0 0, .slice none 0 0, .slice none 0 0, .slice none 0 0, .string ⟨#[]⟩, .int .i64 0, .string ⟨#[]⟩, .int .i64 0, .slice none 0 0, .slice none 0 0, .int .i64 0, .int .i64 0, .slice none 0 0, .int .i64 0, .int .i64 0, .slice none 0 0, .int .i64 0, .int .i64 0, .bool false] 61)) [aBlk w3.heap.size 61 #[.int .i64 0, .int .i64 0, .int .i64 0, .int .i64 0, .string ⟨#[]⟩, .string ⟨#[]⟩, .int .i64 0, .slice none 0 0, .slice none 0 0, .int .i64 0, .int .i64 0, .int .i64 0, .int .i64 0, .int .i64 0, .int .i64 0, .int .i64 0, .int .i64 0, .int .i64 0, .slice none 0 0, .int .i64 0, .int .i64 0, .slice none 0 0, .slice none 0 0, .slice none 0 0, .slice none 0 0, .string ⟨#[]⟩, .int .i64 0, .string ⟨#[]⟩, .int .i64 0, .slice none 0 0, .slice none 0 0, .int .i64 0, .int .i64 0, .slice none 0 0, .int .i64 0, .int .i64 0, .slice none 0 0, .int .i64 0, .int .i64 0, .bool false], aBlk (w.heap.size + 1) 61 ZA, aBlk w.heap.size 61 A] from aBlk.new (show St _ _ _ from HS.out) _ _)
    clear HS
    have H1C := Lib.hid (show (#[.int .i64 3, .int .i64 0, .int .i64 num, .int .i64 0, .string ⟨#[]⟩, .string ⟨#[]⟩, .int .i64 0, .slice none 0 0, .slice none 0 0, .int .i64 0, .int .i64 0, .int .i64 0, .int .i64 0, .int .i64 0, .int .i64 0, .int .i64 0, .int .i64 0, .int .i64 0, .slice none 0 0, .int .i64 0, .int .i64 0, .slice none 0 0, .slice none 0 0, .slice none 0 0, .slice none 0 0, .string ⟨#[]⟩, .int .i64 0, .string ⟨#[]⟩, .int .i64 0, .slice none 0 0, .slice none 0 0, .int .i64 0, .int .i64 0, .slice none 0 0, .int .i64 0, .int .i64 0, .slice none 0 0, .int .i64 0, .int .i64 0, .bool false] : Array Value).all (·.oneCell') = true from by simp [Value.oneCell'])
    go_wp2_with (first
      | (refine wpList_store_row rfl 61 (.tmp 7) (.tmp 23) rfl w3.heap.size #[.int .i64 3, .int .i64 who, .int .i64 0, .int .i64 0, .string ⟨#[]⟩, .string ⟨#[]⟩, .int .i64 0, .slice none 0 0, .slice none 0 0, .int .i64 0, .int .i64 0, .int .i64 0, .int .i64 0, .int .i64 0, .int .i64 0, .int .i64 0, .int .i64 0, .int .i64 0, .slice none 0 0, .int .i64 0, .int .i64 0, .slice none 0 0, .slice none 0 0, .slice none 0 0, .slice none 0 0, .string ⟨#[]⟩, .int .i64 0, .string ⟨#[]⟩, .int .i64 0, .slice none 0 0, .slice none 0 0, .int .i64 0, .int .i64 0, .slice none 0 0, .int .i64 0, .int .i64 0, .slice none 0 0, .int .i64 0, .int .i64 0, .bool false] rfl rfl 61 #[.int .i64 0, .int .i64 0, .int .i64 0, .int .i64 0, .string ⟨#[]⟩, .string ⟨#[]⟩, .int .i64 0, .slice none 0 0, .slice none 0 0, .int .i64 0, .int .i64 0, .int .i64 0, .int .i64 0, .int .i64 0, .int .i64 0, .int .i64 0, .int .i64 0, .int .i64 0, .slice none 0 0, .int .i64 0, .int .i64 0, .slice none 0 0, .slice none 0 0, .slice none 0 0, .slice none 0 0, .string ⟨#[]⟩, .int .i64 0, .string ⟨#[]⟩, .int .i64 0, .slice none 0 0, .slice none 0 0, .int .i64 0, .int .i64 0, .slice none 0 0, .int .i64 0, .int .i64 0, .slice none 0 0, .int .i64 0, .int .i64 0, .bool false] (aBlk.get HS3.out) (by rw [aInfo]; rfl) rfl H1K.out ?_; have HS4 := Lib.hid (aBlk.setRow HS3.out #[.int .i64 3, .int .i64 who, .int .i64 0, .int .i64 0, .string ⟨#[]⟩, .string ⟨#[]⟩, .int .i64 0, .slice none 0 0, .slice none 0 0, .int .i64 0, .int .i64 0, .int .i64 0, .int .i64 0, .int .i64 0, .int .i64 0, .int .i64 0, .int .i64 0, .int .i64 0, .slice none 0 0, .int .i64 0, .int .i64 0, .slice none 0 0, .slice none 0 0, .slice none 0 0, .slice none 0 0, .string ⟨#[]⟩, .int .i64 0, .string ⟨#[]⟩, .int .i64 0, .slice none 0 0, .slice none 0 0, .int .i64 0, .int .i64 0, .slice none 0 0, .int .i64 0, .int .i64 0, .slice none 0 0, .int .i64 0, .int .i64 0, .bool false]); have k0 := (aBlk.get HS4.out.rot3).cell 0; rw [a0.out] at k0; have k1 := (aBlk.get HS4.out.rot3).cell 1; rw [a1.out] at k1; have k2 := (aBlk.get HS4.out.rot3).cell 2; rw [a2.out] at k2; clear HS3)
      | (have h1 := aStrs.new' HS4.out [wDouble, Lib.itoa num] (by simp [maxLen]) (cs := #[.string ⟨#[100, 111, 117, 98, 108, 101]⟩, .string (bstr (Lib.itoa num))]) rfl (n := 2) (g := w3.heap.size + 1) rfl (by rw [setRow_size]; simp); refine wpList_store_row rfl 61 (.tmp 2) (.tmp 50) rfl (w.heap.size + 1) #[.int .i64 3, .int .i64 0, .int .i64 num, .int .i64 0, .string ⟨#[]⟩, .string ⟨#[]⟩, .int .i64 0, .slice none 0 0, .slice none 0 0, .int .i64 0, .int .i64 0, .int .i64 0, .int .i64 0, .int .i64 0, .int .i64 0, .int .i64 0, .int .i64 0, .int .i64 0, .slice none 0 0, .int .i64 0, .int .i64 0, .slice none 0 0, .slice none 0 0, .slice none 0 0, .slice none 0 0, .string ⟨#[]⟩, .int .i64 0, .string ⟨#[]⟩, .int .i64 0, .slice none 0 0, .slice none 0 0, .int .i64 0, .int .i64 0, .slice none 0 0, .int .i64 0, .int .i64 0, .slice none 0 0, .int .i64 0, .int .i64 0, .bool false] rfl rfl 61 ZA (aBlk.get h1.rot3) (by rw [aInfo]; rfl) (by rw [HZS.out]; rfl) H1C.out ?_; have HS5 := Lib.hid (aBlk.setRow h1.rot3 #[.int .i64 3, .int .i64 0, .int .i64 num, .int .i64 0, .string ⟨#[]⟩, .string ⟨#[]⟩, .int .i64 0, .slice none 0 0, .slice none 0 0, .int .i64 0, .int .i64 0, .int .i64 0, .int .i64 0, .int .i64 0, .int .i64 0, .int .i64 0, .int .i64 0, .int .i64 0, .slice none 0 0, .int .i64 0, .int .i64 0, .slice none 0 0, .slice none 0 0, .slice none 0 0, .slice none 0 0, .string ⟨#[]⟩, .int .i64 0, .string ⟨#[]⟩, .int .i64 0, .slice none 0 0, .slice none 0 0, .int .i64 0, .int .i64 0, .slice none 0 0, .int .i64 0, .int .i64 0, .slice none 0 0, .int .i64 0, .int .i64 0, .bool false]))
      | fail)
    (try simp only [Exit.inBlock, Exit.then])
    refine bodyPost_ret (results_cell2 rfl _ _ (w.heap.size + 1) _ #[.int .i64 3, .int .i64 0, .int .i64 num, .int .i64 0, .string ⟨#[]⟩, .string ⟨#[]⟩, .int .i64 0, .slice none 0 0, .slice none 0 0, .int .i64 0, .int .i64 0, .int .i64 0, .int .i64 0, .int .i64 0, .int .i64 0, .int .i64 0, .int .i64 0, .int .i64 0, .slice none 0 0, .int .i64 0, .int .i64 0, .slice none 0 0, .slice none 0 0, .slice none 0 0, .slice none 0 0, .string ⟨#[]⟩, .int .i64 0, .string ⟨#[]⟩, .int .i64 0, .slice none 0 0, .slice none 0 0, .int .i64 0, .int .i64 0, .slice none 0 0, .int .i64 0, .int .i64 0, .slice none 0 0, .int .i64 0, .int .i64 0, .bool false] _ _ rfl (aBlk.get HS5.out) Tryz.underlying61 rfl (by rw [aInfo]; rfl)) rfl ?_
    refine HY.out ⟨⟨by simp, by simp⟩, fun h => absurd h (by simp), fun h => absurd h (by simp)⟩ (actC 3 0 num zOpC (.slice none 0 0) zMsgC false) _ _ ?_ ?_
    · show tAct.rd _ _ _ { zAct with kind := 3, who := 0, num := num }
      exact tAct.mk' (s := { zAct with kind := 3, who := 0, num := num }) (show (-9223372036854775808 : Int) ≤ 3 ∧ (3 : Int) ≤ 9223372036854775807 from by omega) (show (-9223372036854775808 : Int) ≤ 0 ∧ (0 : Int) ≤ 9223372036854775807 from by omega) HBK.out.2.2 (zOp_rd _ _) (tY.nil _ _) (zMsg_rd _ _)
    · show St _ _ [aStrs _ [wDouble, Lib.itoa num]]
      exact HS5.out.drop.drop2.drop2
end Go.Proofs.YtafomdobfmmleaaGreatDoor

/- script.keep, some ways (printed by gen_nd.py). -/
namespace Go.Proofs.YtafomdobfmmleaaGreatDoor
open Go.RowKit Go.Deep
set_option linter.unusedVariables false

set_option maxRecDepth 20000 in
set_option maxHeartbeats 16000000 in
theorem keepB {w : World} {R : Ending → World → Prop} {kind who num : Int} {op : OpD} {bytes : List UInt8} {msg : MsgD} {sl : Bool} {oc mc : List Value} {b : Value} (hT : TabW w)
    (bk : (-9223372036854775808 ≤ kind ∧ kind ≤ 9223372036854775807) ∧ (-9223372036854775808 ≤ who ∧ who ≤ 9223372036854775807) ∧ (-9223372036854775808 ≤ num ∧ num ≤ 9223372036854775807))
    (ho : tOp.rd (fun _ => True) w oc op) (hb : tY.rd (fun _ => True) w [b] bytes) (hm : tMsg.rd (fun _ => True) w mc msg)
    (hY : keepOk ⟨kind, who, num, op, bytes, msg, sl⟩ → ∀ ds v w', tAct.rd (fun _ => True) w' ds (keepF ⟨kind, who, num, op, bytes, msg, sl⟩) → St w w' [aStrs v (keepW ⟨kind, who, num, op, bytes, msg, sl⟩)] → R (.returned (.tuple #[.agg ds.toArray, v, .bool true])) w')
    (hN : ¬ keepOk ⟨kind, who, num, op, bytes, msg, sl⟩ → ∀ (U : Array Value) v w', U.size = 40 → U.all (·.oneCell') = true → B w w' → R (.returned (.tuple #[.agg U, v, .bool false])) w')
    (hk : kind = 4 ∨ kind = 5 ∨ kind = 7) : Calls Tryz.prog 42 #[.agg (actC kind who num oc b mc sl).toArray] w R := by
  obtain ⟨bA, bc, rfl⟩ : ∃ bA bc, b = .slice bA bytes.length bc := by
    obtain ⟨u, hu, hbs, _⟩ := hb
    injection hu with hu _
    subst hu
    obtain ⟨A1, c1, e1⟩ := hbs.rd.slice
    exact ⟨A1, c1, e1⟩
  have hol : oc.length = 5 := tOp.len ho
  have hml : mc.length = 30 := by have := tMsg.len hm; simpa using this
  obtain ⟨A, hA⟩ : ∃ A, (actC kind who num oc (.slice bA bytes.length bc) mc sl).toArray = A := ⟨_, rfl⟩
  obtain ⟨ZA, hZA⟩ : ∃ ZA, (actC 0 0 0 zOpC (.slice none 0 0) zMsgC false).toArray = ZA := ⟨_, rfl⟩
  have HAS := Lib.hid (show A.size = 40 from by rw [← hA]; simp [actC, hol, hml])
  have HZS := Lib.hid (show ZA.size = 40 from by rw [← hZA]; rfl)
  have a0 := Lib.hid (show A[0]? = some (.int .i64 kind) from by rw [← hA]; rfl)
  have a1 := Lib.hid (show A[1]? = some (.int .i64 who) from by rw [← hA]; rfl)
  have a8 := Lib.hid (show A[8]? = some (.slice bA bytes.length bc) from by rw [← hA]; simp [actC, hol])
  have HA3 := Lib.hid (show (A.toList.drop 3).take 5 = oc from by rw [← hA]; simp [actC, hol])
  have HA9 := Lib.hid (show (A.toList.drop 9).take 30 = mc from by rw [← hA]; simp [actC, List.drop_append, List.take_append, hol, hml])
  have a39 := Lib.hid (show A[39]? = some (.bool sl) from by rw [← hA]; simp [actC, hol, hml])
  have HOL := Lib.hid hol
  have HML := Lib.hid hml
  have a2 := Lib.hid (show A[2]? = some (.int .i64 num) from by rw [← hA]; rfl)
  have HO := Lib.hid ho
  have HB := Lib.hid hb
  have HM := Lib.hid hm
  have HY := Lib.hid hY
  have HN := Lib.hid hN
  have HT := Lib.hid hT
  have HBK := Lib.hid bk
  have HAA := Lib.hid hA
  have HZA := Lib.hid hZA
  rw [hA]
  have HS := Lib.hid (show KS0 w ZA A ((w.alloc (.cells A 61)).alloc (.cells #[.int .i64 0, .int .i64 0, .int .i64 0, .int .i64 0, .string ⟨#[]⟩, .string ⟨#[]⟩, .int .i64 0, .slice none 0 0, .slice none 0 0, .int .i64 0, .int .i64 0, .int .i64 0, .int .i64 0, .int .i64 0, .int .i64 0, .int .i64 0, .int .i64 0, .int .i64 0, .slice none 0 0, .int .i64 0, .int .i64 0, .slice none 0 0, .slice none 0 0, .slice none 0 0, .slice none 0 0, .string ⟨#[]⟩, .int .i64 0, .string ⟨#[]⟩, .int .i64 0, .slice none 0 0, .slice none 0 0, .int .i64 0, .int .i64 0, .slice none 0 0, .int .i64 0, .int .i64 0, .slice none 0 0, .int .i64 0, .int .i64 0, .bool false] 61)) from by
    have h := aBlk.new (aBlk.new (St.nil w) 61 A) 61 ZA
    rw [show (w.alloc (.cells A 61)).heap.size = w.heap.size + 1 from by simp] at h
    rw [← hZA] at h ⊢
    exact h)
  clear hA hZA ho hb hm hY hN hT bk hol hml
  go_enter Tryz.func42, Tryz.ntmps42
  go_wp2_with fail
  refine wp_region_held_drew (S := KS0 w ZA A) (by kernel_rfl) (show St _ _ _ from St.on (show St _ _ _ from HS.out)) (fun HS => ?_)
  replace HS := Lib.hid HS
  generalize World.drew _ = W1 at *
  refine anyH_take (i := 0) (d := some 13) (v := .pointer (some ⟨w.heap.size, 2, none⟩)) rfl rfl (by kernel_rfl) (by kernel_rfl) (by kernel_rfl) (fun _ _ _ h => h) rfl (fun w' hS => by go_simp) HS.out ?_
  simp only [Act.put, List.setIfInBounds_toArray, List.set_cons_zero, List.set_cons_succ]
  refine anyH_take (i := 1) (d := some 14) (v := .int .i64 num) rfl rfl (by kernel_rfl) (by kernel_rfl) (by kernel_rfl) (fun _ _ _ h => h) rfl (fun w' hS => run_load_op (ty := 3) rfl rfl (load1 (by rw [(aBlk.get (St.swap hS)).cell 2]; exact a2.out) Tryz.underlying3 rfl)) HS.out ?_
  simp only [Act.put, List.setIfInBounds_toArray, List.set_cons_zero, List.set_cons_succ]
  refine anyH_take (i := 3) (d := some 16) (v := .pointer (some ⟨w.heap.size, 1, none⟩)) rfl rfl (by kernel_rfl) (by kernel_rfl) (by kernel_rfl) (fun _ _ _ h => h) rfl (fun w' hS => by go_simp) HS.out ?_
  simp only [Act.put, List.setIfInBounds_toArray, List.set_cons_zero, List.set_cons_succ]
  refine anyH_take (i := 4) (d := some 17) (v := .int .i64 who) rfl rfl (by kernel_rfl) (by kernel_rfl) (by kernel_rfl) (fun _ _ _ h => h) rfl (fun w' hS => run_load_op (ty := 3) rfl rfl (load1 (by rw [(aBlk.get (St.swap hS)).cell 1]; exact a1.out) Tryz.underlying3 rfl)) HS.out ?_
  simp only [Act.put, List.setIfInBounds_toArray, List.set_cons_zero, List.set_cons_succ]
  refine anyH_call (i := 2) (d := some 15) (v := .string (bstr (Lib.itoa num))) (by kernel_rfl) rfl rfl rfl (by go_simp) (num_c (HT.out.later (St.b HS.out)) HBK.out.2.2) (fun w' hb => St.later HS.out hb) (fun w2 HS => ?_)
  replace HS := Lib.hid HS
  simp only [Act.put, List.setIfInBounds_toArray, List.set_cons_zero, List.set_cons_succ]
  refine anyH_call (i := 5) (d := some 18) (v := .string (bstr (Lib.itoa who))) (by kernel_rfl) rfl rfl rfl (by go_simp) (num_c (HT.out.later (St.b HS.out)) HBK.out.2.1) (fun w' hb => St.later HS.out hb) (fun w3 HS => ?_)
  replace HS := Lib.hid HS
  simp only [Act.put, List.setIfInBounds_toArray, List.set_cons_zero, List.set_cons_succ]
  refine anyH_take (i := 6) (d := some 5) (v := .string (bstr (Lib.itoa num))) rfl rfl (by kernel_rfl) (by kernel_rfl) (by kernel_rfl) (fun _ _ _ h => h) rfl (fun w' hS => by go_simp) HS.out ?_
  simp only [Act.put, List.setIfInBounds_toArray, List.set_cons_zero, List.set_cons_succ]
  refine anyH_take (i := 7) (d := some 6) (v := .string (bstr (Lib.itoa who))) rfl rfl (by kernel_rfl) (by kernel_rfl) (by kernel_rfl) (fun _ _ _ h => h) rfl (fun w' hS => by go_simp) HS.out ?_
  simp only [Act.put, List.setIfInBounds_toArray, List.set_cons_zero, List.set_cons_succ]
  refine wpAnyH_done (by kernel_rfl) ?_ _
  have k0 : w3.cell? ⟨w.heap.size, 0, none⟩ = some (.int .i64 kind) := by rw [(aBlk.get (St.swap HS.out)).cell 0]; exact a0.out
  have k1 : w3.cell? ⟨w.heap.size, 1, none⟩ = some (.int .i64 who) := by rw [(aBlk.get (St.swap HS.out)).cell 1]; exact a1.out
  have k2 : w3.cell? ⟨w.heap.size, 2, none⟩ = some (.int .i64 num) := by rw [(aBlk.get (St.swap HS.out)).cell 2]; exact a2.out
  have kL := (aBlk.get (St.swap HS.out)).lt
  rcases hk with rfl | rfl | rfl
  · have H1K := Lib.hid (show (#[.int .i64 4, .int .i64 who, .int .i64 0, .int .i64 0, .string ⟨#[]⟩, .string ⟨#[]⟩, .int .i64 0, .slice none 0 0, .slice none 0 0, .int .i64 0, .int .i64 0, .int .i64 0, .int .i64 0, .int .i64 0, .int .i64 0, .int .i64 0, .int .i64 0, .int .i64 0, .slice none 0 0, .int .i64 0, .int .i64 0, .slice none 0 0, .slice none 0 0, .slice none 0 0, .slice none 0 0, .string ⟨#[]⟩, .int .i64 0, .string ⟨#[]⟩, .int .i64 0, .slice none 0 0, .slice none 0 0, .int .i64 0, .int .i64 0, .slice none 0 0, .int .i64 0, .int .i64 0, .slice none 0 0, .int .i64 0, .int .i64 0, .bool false] : Array Value).all (·.oneCell') = true from by simp [Value.oneCell'])
    have HS3 := Lib.hid (show St w (w3.alloc (.cells #[.int .i64 0, .int .i64 0, .int .i64 0, .int .i64 0, .string ⟨#[]⟩, .string ⟨#[]⟩, .int .i64 0, .slice none 0 0, .slice none 0 0, .int .i64 0, .int .i64 0, .int .i64 0, .int .i64 0, .int .i64 0, .int .i64 0, .int .i64 0, .int .i64 0, .int .i64 0, .slice none 0 0, .int .i64 0, .int .i64 0, .slice none 0 0, .slice none 0 0, .slice none 0 0, .slice none 0 0, .string ⟨#[]⟩, .int .i64 0, .string ⟨#[]⟩, .int .i64 0, .slice none 0 0, .slice none 0 0, .int .i64 0, .int .i64 0, .slice none 0 0, .int .i64 0, .int .i64 0, .slice none 0 0, .int .i64 0, .int .i64 0, .bool false] 61)) [aBlk w3.heap.size 61 #[.int .i64 0, .int .i64 0, .int .i64 0, .int .i64 0, .string ⟨#[]⟩, .string ⟨#[]⟩, .int .i64 0, .slice none 0 0, .slice none 0 0, .int .i64 0, .int .i64 0, .int .i64 0, .int .i64 0, .int .i64 0, .int .i64 0, .int .i64 0, .int .i64 0, .int .i64 0, .slice none 0 0, .int .i64 0, .int .i64 0, .slice none 0 0, .slice none 0 0, .slice none 0 0, .slice none 0 0, .string ⟨#[]⟩, .int .i64 0, .string ⟨#[]⟩, .int .i64 0, .slice none 0 0, .slice none 0 0, .int .i64 0, .int .i64 0, .slice none 0 0, .int .i64 0, .int .i64 0, .slice none 0 0, .int .i64 0, .int .i64 0, .bool false], aBlk (w.heap.size + 1) 61 ZA, aBlk w.heap.size 61 A] from aBlk.new (show St _ _ _ from HS.out) _ _)
    clear HS
    have H1C := Lib.hid (show (#[.int .i64 4, .int .i64 who, .int .i64 0, .int .i64 0, .string ⟨#[]⟩, .string ⟨#[]⟩, .int .i64 0, .slice none 0 0, .slice none 0 0, .int .i64 0, .int .i64 0, .int .i64 0, .int .i64 0, .int .i64 0, .int .i64 0, .int .i64 0, .int .i64 0, .int .i64 0, .slice none 0 0, .int .i64 0, .int .i64 0, .slice none 0 0, .slice none 0 0, .slice none 0 0, .slice none 0 0, .string ⟨#[]⟩, .int .i64 0, .string ⟨#[]⟩, .int .i64 0, .slice none 0 0, .slice none 0 0, .int .i64 0, .int .i64 0, .slice none 0 0, .int .i64 0, .int .i64 0, .slice none 0 0, .int .i64 0, .int .i64 0, .bool false] : Array Value).all (·.oneCell') = true from by simp [Value.oneCell'])
    go_wp2_with (first
      | (refine wpList_store_row rfl 61 (.tmp 7) (.tmp 23) rfl w3.heap.size #[.int .i64 4, .int .i64 who, .int .i64 0, .int .i64 0, .string ⟨#[]⟩, .string ⟨#[]⟩, .int .i64 0, .slice none 0 0, .slice none 0 0, .int .i64 0, .int .i64 0, .int .i64 0, .int .i64 0, .int .i64 0, .int .i64 0, .int .i64 0, .int .i64 0, .int .i64 0, .slice none 0 0, .int .i64 0, .int .i64 0, .slice none 0 0, .slice none 0 0, .slice none 0 0, .slice none 0 0, .string ⟨#[]⟩, .int .i64 0, .string ⟨#[]⟩, .int .i64 0, .slice none 0 0, .slice none 0 0, .int .i64 0, .int .i64 0, .slice none 0 0, .int .i64 0, .int .i64 0, .slice none 0 0, .int .i64 0, .int .i64 0, .bool false] rfl rfl 61 #[.int .i64 0, .int .i64 0, .int .i64 0, .int .i64 0, .string ⟨#[]⟩, .string ⟨#[]⟩, .int .i64 0, .slice none 0 0, .slice none 0 0, .int .i64 0, .int .i64 0, .int .i64 0, .int .i64 0, .int .i64 0, .int .i64 0, .int .i64 0, .int .i64 0, .int .i64 0, .slice none 0 0, .int .i64 0, .int .i64 0, .slice none 0 0, .slice none 0 0, .slice none 0 0, .slice none 0 0, .string ⟨#[]⟩, .int .i64 0, .string ⟨#[]⟩, .int .i64 0, .slice none 0 0, .slice none 0 0, .int .i64 0, .int .i64 0, .slice none 0 0, .int .i64 0, .int .i64 0, .slice none 0 0, .int .i64 0, .int .i64 0, .bool false] (aBlk.get HS3.out) (by rw [aInfo]; rfl) rfl H1K.out ?_; have HS4 := Lib.hid (aBlk.setRow HS3.out #[.int .i64 4, .int .i64 who, .int .i64 0, .int .i64 0, .string ⟨#[]⟩, .string ⟨#[]⟩, .int .i64 0, .slice none 0 0, .slice none 0 0, .int .i64 0, .int .i64 0, .int .i64 0, .int .i64 0, .int .i64 0, .int .i64 0, .int .i64 0, .int .i64 0, .int .i64 0, .slice none 0 0, .int .i64 0, .int .i64 0, .slice none 0 0, .slice none 0 0, .slice none 0 0, .slice none 0 0, .string ⟨#[]⟩, .int .i64 0, .string ⟨#[]⟩, .int .i64 0, .slice none 0 0, .slice none 0 0, .int .i64 0, .int .i64 0, .slice none 0 0, .int .i64 0, .int .i64 0, .slice none 0 0, .int .i64 0, .int .i64 0, .bool false]); have k0 := (aBlk.get HS4.out.rot3).cell 0; rw [a0.out] at k0; have k1 := (aBlk.get HS4.out.rot3).cell 1; rw [a1.out] at k1; have k2 := (aBlk.get HS4.out.rot3).cell 2; rw [a2.out] at k2; clear HS3)
      | (refine wpList_load_row rfl 61 (.tmp 7) rfl w3.heap.size rfl 61 #[.int .i64 4, .int .i64 who, .int .i64 0, .int .i64 0, .string ⟨#[]⟩, .string ⟨#[]⟩, .int .i64 0, .slice none 0 0, .slice none 0 0, .int .i64 0, .int .i64 0, .int .i64 0, .int .i64 0, .int .i64 0, .int .i64 0, .int .i64 0, .int .i64 0, .int .i64 0, .slice none 0 0, .int .i64 0, .int .i64 0, .slice none 0 0, .slice none 0 0, .slice none 0 0, .slice none 0 0, .string ⟨#[]⟩, .int .i64 0, .string ⟨#[]⟩, .int .i64 0, .slice none 0 0, .slice none 0 0, .int .i64 0, .int .i64 0, .slice none 0 0, .int .i64 0, .int .i64 0, .slice none 0 0, .int .i64 0, .int .i64 0, .bool false] (0, 0) _ (aBlk.get HS4.out.on) Tryz.underlying61 rfl (by rw [aInfo]; rfl) ?_)
      | (have h1 := aStrs.new' HS4.out [wTick, Lib.itoa who] (by simp [maxLen]) (cs := #[.string ⟨#[116, 105, 99, 107]⟩, .string (bstr (Lib.itoa who))]) rfl (n := 2) (g := w3.heap.size + 1) rfl (by rw [setRow_size]; simp); refine wpList_store_row rfl 61 (.tmp 2) (.tmp 55) rfl (w.heap.size + 1) #[.int .i64 4, .int .i64 who, .int .i64 0, .int .i64 0, .string ⟨#[]⟩, .string ⟨#[]⟩, .int .i64 0, .slice none 0 0, .slice none 0 0, .int .i64 0, .int .i64 0, .int .i64 0, .int .i64 0, .int .i64 0, .int .i64 0, .int .i64 0, .int .i64 0, .int .i64 0, .slice none 0 0, .int .i64 0, .int .i64 0, .slice none 0 0, .slice none 0 0, .slice none 0 0, .slice none 0 0, .string ⟨#[]⟩, .int .i64 0, .string ⟨#[]⟩, .int .i64 0, .slice none 0 0, .slice none 0 0, .int .i64 0, .int .i64 0, .slice none 0 0, .int .i64 0, .int .i64 0, .slice none 0 0, .int .i64 0, .int .i64 0, .bool false] rfl rfl 61 ZA (aBlk.get h1.rot3) (by rw [aInfo]; rfl) (by rw [HZS.out]; rfl) H1C.out ?_; have HS5 := Lib.hid (aBlk.setRow h1.rot3 #[.int .i64 4, .int .i64 who, .int .i64 0, .int .i64 0, .string ⟨#[]⟩, .string ⟨#[]⟩, .int .i64 0, .slice none 0 0, .slice none 0 0, .int .i64 0, .int .i64 0, .int .i64 0, .int .i64 0, .int .i64 0, .int .i64 0, .int .i64 0, .int .i64 0, .int .i64 0, .slice none 0 0, .int .i64 0, .int .i64 0, .slice none 0 0, .slice none 0 0, .slice none 0 0, .slice none 0 0, .string ⟨#[]⟩, .int .i64 0, .string ⟨#[]⟩, .int .i64 0, .slice none 0 0, .slice none 0 0, .int .i64 0, .int .i64 0, .slice none 0 0, .int .i64 0, .int .i64 0, .slice none 0 0, .int .i64 0, .int .i64 0, .bool false]))
      | fail)
    (try simp only [Exit.inBlock, Exit.then])
    refine bodyPost_ret (results_cell2 rfl _ _ (w.heap.size + 1) _ #[.int .i64 4, .int .i64 who, .int .i64 0, .int .i64 0, .string ⟨#[]⟩, .string ⟨#[]⟩, .int .i64 0, .slice none 0 0, .slice none 0 0, .int .i64 0, .int .i64 0, .int .i64 0, .int .i64 0, .int .i64 0, .int .i64 0, .int .i64 0, .int .i64 0, .int .i64 0, .slice none 0 0, .int .i64 0, .int .i64 0, .slice none 0 0, .slice none 0 0, .slice none 0 0, .slice none 0 0, .string ⟨#[]⟩, .int .i64 0, .string ⟨#[]⟩, .int .i64 0, .slice none 0 0, .slice none 0 0, .int .i64 0, .int .i64 0, .slice none 0 0, .int .i64 0, .int .i64 0, .slice none 0 0, .int .i64 0, .int .i64 0, .bool false] _ _ rfl (aBlk.get HS5.out) Tryz.underlying61 rfl (by rw [aInfo]; rfl)) rfl ?_
    refine HY.out ⟨⟨by simp, by simp⟩, fun h => absurd h (by simp), fun h => absurd h (by simp)⟩ (actC 4 who 0 zOpC (.slice none 0 0) zMsgC false) _ _ ?_ ?_
    · show tAct.rd _ _ _ { zAct with kind := 4, who := who, num := 0 }
      exact tAct.mk' (s := { zAct with kind := 4, who := who, num := 0 }) (show (-9223372036854775808 : Int) ≤ 4 ∧ (4 : Int) ≤ 9223372036854775807 from by omega) HBK.out.2.1 (show (-9223372036854775808 : Int) ≤ 0 ∧ (0 : Int) ≤ 9223372036854775807 from by omega) (zOp_rd _ _) (tY.nil _ _) (zMsg_rd _ _)
    · show St _ _ [aStrs _ [wTick, Lib.itoa who]]
      exact HS5.out.drop.drop2.drop2
  · have H1K := Lib.hid (show (#[.int .i64 5, .int .i64 who, .int .i64 0, .int .i64 0, .string ⟨#[]⟩, .string ⟨#[]⟩, .int .i64 0, .slice none 0 0, .slice none 0 0, .int .i64 0, .int .i64 0, .int .i64 0, .int .i64 0, .int .i64 0, .int .i64 0, .int .i64 0, .int .i64 0, .int .i64 0, .slice none 0 0, .int .i64 0, .int .i64 0, .slice none 0 0, .slice none 0 0, .slice none 0 0, .slice none 0 0, .string ⟨#[]⟩, .int .i64 0, .string ⟨#[]⟩, .int .i64 0, .slice none 0 0, .slice none 0 0, .int .i64 0, .int .i64 0, .slice none 0 0, .int .i64 0, .int .i64 0, .slice none 0 0, .int .i64 0, .int .i64 0, .bool false] : Array Value).all (·.oneCell') = true from by simp [Value.oneCell'])
    have HS3 := Lib.hid (show St w (w3.alloc (.cells #[.int .i64 0, .int .i64 0, .int .i64 0, .int .i64 0, .string ⟨#[]⟩, .string ⟨#[]⟩, .int .i64 0, .slice none 0 0, .slice none 0 0, .int .i64 0, .int .i64 0, .int .i64 0, .int .i64 0, .int .i64 0, .int .i64 0, .int .i64 0, .int .i64 0, .int .i64 0, .slice none 0 0, .int .i64 0, .int .i64 0, .slice none 0 0, .slice none 0 0, .slice none 0 0, .slice none 0 0, .string ⟨#[]⟩, .int .i64 0, .string ⟨#[]⟩, .int .i64 0, .slice none 0 0, .slice none 0 0, .int .i64 0, .int .i64 0, .slice none 0 0, .int .i64 0, .int .i64 0, .slice none 0 0, .int .i64 0, .int .i64 0, .bool false] 61)) [aBlk w3.heap.size 61 #[.int .i64 0, .int .i64 0, .int .i64 0, .int .i64 0, .string ⟨#[]⟩, .string ⟨#[]⟩, .int .i64 0, .slice none 0 0, .slice none 0 0, .int .i64 0, .int .i64 0, .int .i64 0, .int .i64 0, .int .i64 0, .int .i64 0, .int .i64 0, .int .i64 0, .int .i64 0, .slice none 0 0, .int .i64 0, .int .i64 0, .slice none 0 0, .slice none 0 0, .slice none 0 0, .slice none 0 0, .string ⟨#[]⟩, .int .i64 0, .string ⟨#[]⟩, .int .i64 0, .slice none 0 0, .slice none 0 0, .int .i64 0, .int .i64 0, .slice none 0 0, .int .i64 0, .int .i64 0, .slice none 0 0, .int .i64 0, .int .i64 0, .bool false], aBlk (w.heap.size + 1) 61 ZA, aBlk w.heap.size 61 A] from aBlk.new (show St _ _ _ from HS.out) _ _)
    clear HS
    have H1C := Lib.hid (show (#[.int .i64 5, .int .i64 who, .int .i64 0, .int .i64 0, .string ⟨#[]⟩, .string ⟨#[]⟩, .int .i64 0, .slice none 0 0, .slice none 0 0, .int .i64 0, .int .i64 0, .int .i64 0, .int .i64 0, .int .i64 0, .int .i64 0, .int .i64 0, .int .i64 0, .int .i64 0, .slice none 0 0, .int .i64 0, .int .i64 0, .slice none 0 0, .slice none 0 0, .slice none 0 0, .slice none 0 0, .string ⟨#[]⟩, .int .i64 0, .string ⟨#[]⟩, .int .i64 0, .slice none 0 0, .slice none 0 0, .int .i64 0, .int .i64 0, .slice none 0 0, .int .i64 0, .int .i64 0, .slice none 0 0, .int .i64 0, .int .i64 0, .bool false] : Array Value).all (·.oneCell') = true from by simp [Value.oneCell'])
    go_wp2_with (first
      | (refine wpList_store_row rfl 61 (.tmp 7) (.tmp 23) rfl w3.heap.size #[.int .i64 5, .int .i64 who, .int .i64 0, .int .i64 0, .string ⟨#[]⟩, .string ⟨#[]⟩, .int .i64 0, .slice none 0 0, .slice none 0 0, .int .i64 0, .int .i64 0, .int .i64 0, .int .i64 0, .int .i64 0, .int .i64 0, .int .i64 0, .int .i64 0, .int .i64 0, .slice none 0 0, .int .i64 0, .int .i64 0, .slice none 0 0, .slice none 0 0, .slice none 0 0, .slice none 0 0, .string ⟨#[]⟩, .int .i64 0, .string ⟨#[]⟩, .int .i64 0, .slice none 0 0, .slice none 0 0, .int .i64 0, .int .i64 0, .slice none 0 0, .int .i64 0, .int .i64 0, .slice none 0 0, .int .i64 0, .int .i64 0, .bool false] rfl rfl 61 #[.int .i64 0, .int .i64 0, .int .i64 0, .int .i64 0, .string ⟨#[]⟩, .string ⟨#[]⟩, .int .i64 0, .slice none 0 0, .slice none 0 0, .int .i64 0, .int .i64 0, .int .i64 0, .int .i64 0, .int .i64 0, .int .i64 0, .int .i64 0, .int .i64 0, .int .i64 0, .slice none 0 0, .int .i64 0, .int .i64 0, .slice none 0 0, .slice none 0 0, .slice none 0 0, .slice none 0 0, .string ⟨#[]⟩, .int .i64 0, .string ⟨#[]⟩, .int .i64 0, .slice none 0 0, .slice none 0 0, .int .i64 0, .int .i64 0, .slice none 0 0, .int .i64 0, .int .i64 0, .slice none 0 0, .int .i64 0, .int .i64 0, .bool false] (aBlk.get HS3.out) (by rw [aInfo]; rfl) rfl H1K.out ?_; have HS4 := Lib.hid (aBlk.setRow HS3.out #[.int .i64 5, .int .i64 who, .int .i64 0, .int .i64 0, .string ⟨#[]⟩, .string ⟨#[]⟩, .int .i64 0, .slice none 0 0, .slice none 0 0, .int .i64 0, .int .i64 0, .int .i64 0, .int .i64 0, .int .i64 0, .int .i64 0, .int .i64 0, .int .i64 0, .int .i64 0, .slice none 0 0, .int .i64 0, .int .i64 0, .slice none 0 0, .slice none 0 0, .slice none 0 0, .slice none 0 0, .string ⟨#[]⟩, .int .i64 0, .string ⟨#[]⟩, .int .i64 0, .slice none 0 0, .slice none 0 0, .int .i64 0, .int .i64 0, .slice none 0 0, .int .i64 0, .int .i64 0, .slice none 0 0, .int .i64 0, .int .i64 0, .bool false]); have k0 := (aBlk.get HS4.out.rot3).cell 0; rw [a0.out] at k0; have k1 := (aBlk.get HS4.out.rot3).cell 1; rw [a1.out] at k1; have k2 := (aBlk.get HS4.out.rot3).cell 2; rw [a2.out] at k2; clear HS3)
      | (refine wpList_load_row rfl 61 (.tmp 7) rfl w3.heap.size rfl 61 #[.int .i64 5, .int .i64 who, .int .i64 0, .int .i64 0, .string ⟨#[]⟩, .string ⟨#[]⟩, .int .i64 0, .slice none 0 0, .slice none 0 0, .int .i64 0, .int .i64 0, .int .i64 0, .int .i64 0, .int .i64 0, .int .i64 0, .int .i64 0, .int .i64 0, .int .i64 0, .slice none 0 0, .int .i64 0, .int .i64 0, .slice none 0 0, .slice none 0 0, .slice none 0 0, .slice none 0 0, .string ⟨#[]⟩, .int .i64 0, .string ⟨#[]⟩, .int .i64 0, .slice none 0 0, .slice none 0 0, .int .i64 0, .int .i64 0, .slice none 0 0, .int .i64 0, .int .i64 0, .slice none 0 0, .int .i64 0, .int .i64 0, .bool false] (0, 0) _ (aBlk.get HS4.out.on) Tryz.underlying61 rfl (by rw [aInfo]; rfl) ?_)
      | (have h1 := aStrs.new' HS4.out [wClock, Lib.itoa who] (by simp [maxLen]) (cs := #[.string ⟨#[99, 108, 111, 99, 107]⟩, .string (bstr (Lib.itoa who))]) rfl (n := 2) (g := w3.heap.size + 1) rfl (by rw [setRow_size]; simp); refine wpList_store_row rfl 61 (.tmp 2) (.tmp 60) rfl (w.heap.size + 1) #[.int .i64 5, .int .i64 who, .int .i64 0, .int .i64 0, .string ⟨#[]⟩, .string ⟨#[]⟩, .int .i64 0, .slice none 0 0, .slice none 0 0, .int .i64 0, .int .i64 0, .int .i64 0, .int .i64 0, .int .i64 0, .int .i64 0, .int .i64 0, .int .i64 0, .int .i64 0, .slice none 0 0, .int .i64 0, .int .i64 0, .slice none 0 0, .slice none 0 0, .slice none 0 0, .slice none 0 0, .string ⟨#[]⟩, .int .i64 0, .string ⟨#[]⟩, .int .i64 0, .slice none 0 0, .slice none 0 0, .int .i64 0, .int .i64 0, .slice none 0 0, .int .i64 0, .int .i64 0, .slice none 0 0, .int .i64 0, .int .i64 0, .bool false] rfl rfl 61 ZA (aBlk.get h1.rot3) (by rw [aInfo]; rfl) (by rw [HZS.out]; rfl) H1C.out ?_; have HS5 := Lib.hid (aBlk.setRow h1.rot3 #[.int .i64 5, .int .i64 who, .int .i64 0, .int .i64 0, .string ⟨#[]⟩, .string ⟨#[]⟩, .int .i64 0, .slice none 0 0, .slice none 0 0, .int .i64 0, .int .i64 0, .int .i64 0, .int .i64 0, .int .i64 0, .int .i64 0, .int .i64 0, .int .i64 0, .int .i64 0, .slice none 0 0, .int .i64 0, .int .i64 0, .slice none 0 0, .slice none 0 0, .slice none 0 0, .slice none 0 0, .string ⟨#[]⟩, .int .i64 0, .string ⟨#[]⟩, .int .i64 0, .slice none 0 0, .slice none 0 0, .int .i64 0, .int .i64 0, .slice none 0 0, .int .i64 0, .int .i64 0, .slice none 0 0, .int .i64 0, .int .i64 0, .bool false]))
      | fail)
    (try simp only [Exit.inBlock, Exit.then])
    refine bodyPost_ret (results_cell2 rfl _ _ (w.heap.size + 1) _ #[.int .i64 5, .int .i64 who, .int .i64 0, .int .i64 0, .string ⟨#[]⟩, .string ⟨#[]⟩, .int .i64 0, .slice none 0 0, .slice none 0 0, .int .i64 0, .int .i64 0, .int .i64 0, .int .i64 0, .int .i64 0, .int .i64 0, .int .i64 0, .int .i64 0, .int .i64 0, .slice none 0 0, .int .i64 0, .int .i64 0, .slice none 0 0, .slice none 0 0, .slice none 0 0, .slice none 0 0, .string ⟨#[]⟩, .int .i64 0, .string ⟨#[]⟩, .int .i64 0, .slice none 0 0, .slice none 0 0, .int .i64 0, .int .i64 0, .slice none 0 0, .int .i64 0, .int .i64 0, .slice none 0 0, .int .i64 0, .int .i64 0, .bool false] _ _ rfl (aBlk.get HS5.out) Tryz.underlying61 rfl (by rw [aInfo]; rfl)) rfl ?_
    refine HY.out ⟨⟨by simp, by simp⟩, fun h => absurd h (by simp), fun h => absurd h (by simp)⟩ (actC 5 who 0 zOpC (.slice none 0 0) zMsgC false) _ _ ?_ ?_
    · show tAct.rd _ _ _ { zAct with kind := 5, who := who, num := 0 }
      exact tAct.mk' (s := { zAct with kind := 5, who := who, num := 0 }) (show (-9223372036854775808 : Int) ≤ 5 ∧ (5 : Int) ≤ 9223372036854775807 from by omega) HBK.out.2.1 (show (-9223372036854775808 : Int) ≤ 0 ∧ (0 : Int) ≤ 9223372036854775807 from by omega) (zOp_rd _ _) (tY.nil _ _) (zMsg_rd _ _)
    · show St _ _ [aStrs _ [wClock, Lib.itoa who]]
      exact HS5.out.drop.drop2.drop2
  · have H1K := Lib.hid (show (#[.int .i64 7, .int .i64 who, .int .i64 0, .int .i64 0, .string ⟨#[]⟩, .string ⟨#[]⟩, .int .i64 0, .slice none 0 0, .slice none 0 0, .int .i64 0, .int .i64 0, .int .i64 0, .int .i64 0, .int .i64 0, .int .i64 0, .int .i64 0, .int .i64 0, .int .i64 0, .slice none 0 0, .int .i64 0, .int .i64 0, .slice none 0 0, .slice none 0 0, .slice none 0 0, .slice none 0 0, .string ⟨#[]⟩, .int .i64 0, .string ⟨#[]⟩, .int .i64 0, .slice none 0 0, .slice none 0 0, .int .i64 0, .int .i64 0, .slice none 0 0, .int .i64 0, .int .i64 0, .slice none 0 0, .int .i64 0, .int .i64 0, .bool false] : Array Value).all (·.oneCell') = true from by simp [Value.oneCell'])
    have HS3 := Lib.hid (show St w (w3.alloc (.cells #[.int .i64 0, .int .i64 0, .int .i64 0, .int .i64 0, .string ⟨#[]⟩, .string ⟨#[]⟩, .int .i64 0, .slice none 0 0, .slice none 0 0, .int .i64 0, .int .i64 0, .int .i64 0, .int .i64 0, .int .i64 0, .int .i64 0, .int .i64 0, .int .i64 0, .int .i64 0, .slice none 0 0, .int .i64 0, .int .i64 0, .slice none 0 0, .slice none 0 0, .slice none 0 0, .slice none 0 0, .string ⟨#[]⟩, .int .i64 0, .string ⟨#[]⟩, .int .i64 0, .slice none 0 0, .slice none 0 0, .int .i64 0, .int .i64 0, .slice none 0 0, .int .i64 0, .int .i64 0, .slice none 0 0, .int .i64 0, .int .i64 0, .bool false] 61)) [aBlk w3.heap.size 61 #[.int .i64 0, .int .i64 0, .int .i64 0, .int .i64 0, .string ⟨#[]⟩, .string ⟨#[]⟩, .int .i64 0, .slice none 0 0, .slice none 0 0, .int .i64 0, .int .i64 0, .int .i64 0, .int .i64 0, .int .i64 0, .int .i64 0, .int .i64 0, .int .i64 0, .int .i64 0, .slice none 0 0, .int .i64 0, .int .i64 0, .slice none 0 0, .slice none 0 0, .slice none 0 0, .slice none 0 0, .string ⟨#[]⟩, .int .i64 0, .string ⟨#[]⟩, .int .i64 0, .slice none 0 0, .slice none 0 0, .int .i64 0, .int .i64 0, .slice none 0 0, .int .i64 0, .int .i64 0, .slice none 0 0, .int .i64 0, .int .i64 0, .bool false], aBlk (w.heap.size + 1) 61 ZA, aBlk w.heap.size 61 A] from aBlk.new (show St _ _ _ from HS.out) _ _)
    clear HS
    have H1C := Lib.hid (show (#[.int .i64 7, .int .i64 who, .int .i64 0, .int .i64 0, .string ⟨#[]⟩, .string ⟨#[]⟩, .int .i64 0, .slice none 0 0, .slice none 0 0, .int .i64 0, .int .i64 0, .int .i64 0, .int .i64 0, .int .i64 0, .int .i64 0, .int .i64 0, .int .i64 0, .int .i64 0, .slice none 0 0, .int .i64 0, .int .i64 0, .slice none 0 0, .slice none 0 0, .slice none 0 0, .slice none 0 0, .string ⟨#[]⟩, .int .i64 0, .string ⟨#[]⟩, .int .i64 0, .slice none 0 0, .slice none 0 0, .int .i64 0, .int .i64 0, .slice none 0 0, .int .i64 0, .int .i64 0, .slice none 0 0, .int .i64 0, .int .i64 0, .bool false] : Array Value).all (·.oneCell') = true from by simp [Value.oneCell'])
    go_wp2_with (first
      | (refine wpList_store_row rfl 61 (.tmp 7) (.tmp 23) rfl w3.heap.size #[.int .i64 7, .int .i64 who, .int .i64 0, .int .i64 0, .string ⟨#[]⟩, .string ⟨#[]⟩, .int .i64 0, .slice none 0 0, .slice none 0 0, .int .i64 0, .int .i64 0, .int .i64 0, .int .i64 0, .int .i64 0, .int .i64 0, .int .i64 0, .int .i64 0, .int .i64 0, .slice none 0 0, .int .i64 0, .int .i64 0, .slice none 0 0, .slice none 0 0, .slice none 0 0, .slice none 0 0, .string ⟨#[]⟩, .int .i64 0, .string ⟨#[]⟩, .int .i64 0, .slice none 0 0, .slice none 0 0, .int .i64 0, .int .i64 0, .slice none 0 0, .int .i64 0, .int .i64 0, .slice none 0 0, .int .i64 0, .int .i64 0, .bool false] rfl rfl 61 #[.int .i64 0, .int .i64 0, .int .i64 0, .int .i64 0, .string ⟨#[]⟩, .string ⟨#[]⟩, .int .i64 0, .slice none 0 0, .slice none 0 0, .int .i64 0, .int .i64 0, .int .i64 0, .int .i64 0, .int .i64 0, .int .i64 0, .int .i64 0, .int .i64 0, .int .i64 0, .slice none 0 0, .int .i64 0, .int .i64 0, .slice none 0 0, .slice none 0 0, .slice none 0 0, .slice none 0 0, .string ⟨#[]⟩, .int .i64 0, .string ⟨#[]⟩, .int .i64 0, .slice none 0 0, .slice none 0 0, .int .i64 0, .int .i64 0, .slice none 0 0, .int .i64 0, .int .i64 0, .slice none 0 0, .int .i64 0, .int .i64 0, .bool false] (aBlk.get HS3.out) (by rw [aInfo]; rfl) rfl H1K.out ?_; have HS4 := Lib.hid (aBlk.setRow HS3.out #[.int .i64 7, .int .i64 who, .int .i64 0, .int .i64 0, .string ⟨#[]⟩, .string ⟨#[]⟩, .int .i64 0, .slice none 0 0, .slice none 0 0, .int .i64 0, .int .i64 0, .int .i64 0, .int .i64 0, .int .i64 0, .int .i64 0, .int .i64 0, .int .i64 0, .int .i64 0, .slice none 0 0, .int .i64 0, .int .i64 0, .slice none 0 0, .slice none 0 0, .slice none 0 0, .slice none 0 0, .string ⟨#[]⟩, .int .i64 0, .string ⟨#[]⟩, .int .i64 0, .slice none 0 0, .slice none 0 0, .int .i64 0, .int .i64 0, .slice none 0 0, .int .i64 0, .int .i64 0, .slice none 0 0, .int .i64 0, .int .i64 0, .bool false]); have k0 := (aBlk.get HS4.out.rot3).cell 0; rw [a0.out] at k0; have k1 := (aBlk.get HS4.out.rot3).cell 1; rw [a1.out] at k1; have k2 := (aBlk.get HS4.out.rot3).cell 2; rw [a2.out] at k2; clear HS3)
      | (refine wpList_load_row rfl 61 (.tmp 7) rfl w3.heap.size rfl 61 #[.int .i64 7, .int .i64 who, .int .i64 0, .int .i64 0, .string ⟨#[]⟩, .string ⟨#[]⟩, .int .i64 0, .slice none 0 0, .slice none 0 0, .int .i64 0, .int .i64 0, .int .i64 0, .int .i64 0, .int .i64 0, .int .i64 0, .int .i64 0, .int .i64 0, .int .i64 0, .slice none 0 0, .int .i64 0, .int .i64 0, .slice none 0 0, .slice none 0 0, .slice none 0 0, .slice none 0 0, .string ⟨#[]⟩, .int .i64 0, .string ⟨#[]⟩, .int .i64 0, .slice none 0 0, .slice none 0 0, .int .i64 0, .int .i64 0, .slice none 0 0, .int .i64 0, .int .i64 0, .slice none 0 0, .int .i64 0, .int .i64 0, .bool false] (0, 0) _ (aBlk.get HS4.out.on) Tryz.underlying61 rfl (by rw [aInfo]; rfl) ?_)
      | (have h1 := aStrs.new' HS4.out [wRead, Lib.itoa who] (by simp [maxLen]) (cs := #[.string ⟨#[114, 101, 97, 100]⟩, .string (bstr (Lib.itoa who))]) rfl (n := 2) (g := w3.heap.size + 1) rfl (by rw [setRow_size]; simp); refine wpList_store_row rfl 61 (.tmp 2) (.tmp 83) rfl (w.heap.size + 1) #[.int .i64 7, .int .i64 who, .int .i64 0, .int .i64 0, .string ⟨#[]⟩, .string ⟨#[]⟩, .int .i64 0, .slice none 0 0, .slice none 0 0, .int .i64 0, .int .i64 0, .int .i64 0, .int .i64 0, .int .i64 0, .int .i64 0, .int .i64 0, .int .i64 0, .int .i64 0, .slice none 0 0, .int .i64 0, .int .i64 0, .slice none 0 0, .slice none 0 0, .slice none 0 0, .slice none 0 0, .string ⟨#[]⟩, .int .i64 0, .string ⟨#[]⟩, .int .i64 0, .slice none 0 0, .slice none 0 0, .int .i64 0, .int .i64 0, .slice none 0 0, .int .i64 0, .int .i64 0, .slice none 0 0, .int .i64 0, .int .i64 0, .bool false] rfl rfl 61 ZA (aBlk.get h1.rot3) (by rw [aInfo]; rfl) (by rw [HZS.out]; rfl) H1C.out ?_; have HS5 := Lib.hid (aBlk.setRow h1.rot3 #[.int .i64 7, .int .i64 who, .int .i64 0, .int .i64 0, .string ⟨#[]⟩, .string ⟨#[]⟩, .int .i64 0, .slice none 0 0, .slice none 0 0, .int .i64 0, .int .i64 0, .int .i64 0, .int .i64 0, .int .i64 0, .int .i64 0, .int .i64 0, .int .i64 0, .int .i64 0, .slice none 0 0, .int .i64 0, .int .i64 0, .slice none 0 0, .slice none 0 0, .slice none 0 0, .slice none 0 0, .string ⟨#[]⟩, .int .i64 0, .string ⟨#[]⟩, .int .i64 0, .slice none 0 0, .slice none 0 0, .int .i64 0, .int .i64 0, .slice none 0 0, .int .i64 0, .int .i64 0, .slice none 0 0, .int .i64 0, .int .i64 0, .bool false]))
      | fail)
    (try simp only [Exit.inBlock, Exit.then])
    refine bodyPost_ret (results_cell2 rfl _ _ (w.heap.size + 1) _ #[.int .i64 7, .int .i64 who, .int .i64 0, .int .i64 0, .string ⟨#[]⟩, .string ⟨#[]⟩, .int .i64 0, .slice none 0 0, .slice none 0 0, .int .i64 0, .int .i64 0, .int .i64 0, .int .i64 0, .int .i64 0, .int .i64 0, .int .i64 0, .int .i64 0, .int .i64 0, .slice none 0 0, .int .i64 0, .int .i64 0, .slice none 0 0, .slice none 0 0, .slice none 0 0, .slice none 0 0, .string ⟨#[]⟩, .int .i64 0, .string ⟨#[]⟩, .int .i64 0, .slice none 0 0, .slice none 0 0, .int .i64 0, .int .i64 0, .slice none 0 0, .int .i64 0, .int .i64 0, .slice none 0 0, .int .i64 0, .int .i64 0, .bool false] _ _ rfl (aBlk.get HS5.out) Tryz.underlying61 rfl (by rw [aInfo]; rfl)) rfl ?_
    refine HY.out ⟨⟨by simp, by simp⟩, fun h => absurd h (by simp), fun h => absurd h (by simp)⟩ (actC 7 who 0 zOpC (.slice none 0 0) zMsgC false) _ _ ?_ ?_
    · show tAct.rd _ _ _ { zAct with kind := 7, who := who, num := 0 }
      exact tAct.mk' (s := { zAct with kind := 7, who := who, num := 0 }) (show (-9223372036854775808 : Int) ≤ 7 ∧ (7 : Int) ≤ 9223372036854775807 from by omega) HBK.out.2.1 (show (-9223372036854775808 : Int) ≤ 0 ∧ (0 : Int) ≤ 9223372036854775807 from by omega) (zOp_rd _ _) (tY.nil _ _) (zMsg_rd _ _)
    · show St _ _ [aStrs _ [wRead, Lib.itoa who]]
      exact HS5.out.drop.drop2.drop2
end Go.Proofs.YtafomdobfmmleaaGreatDoor
