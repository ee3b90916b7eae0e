/- Lemmas and contracts, part 16. -/
import Derived.Test.YtbbcepmhkocgbaaGreatDoorZc2
import Derived.Deep.QuietTactic
import Derived.BigQuiet
/- The reference's rune1: the rune with which a text begins. -/
namespace Go.Proofs.YtbbcepmhkocgbaaGreatDoor
open Go.RowKit Go.Deep
set_option linter.unusedVariables false

theorem bstrAt (s : List UInt8) (k : Nat) (x : UInt8) (hx : s[k]? = some x) : ∀ h : k < (bstr s).size, (bstr s)[k]'h = x := by
  intro h
  obtain ⟨h1, h2⟩ := List.getElem?_eq_some_iff.1 hx
  rw [← h2]
  rfl
def atN (l : List UInt8) (i : Nat) : Nat := (l.getD i 0).toNat
/-- the rune with which a text begins, and its bytes -/
def r1 (l : List UInt8) : Nat × Nat := rune1N l.length (atN l 0) (atN l 1) (atN l 2) (atN l 3)
theorem atN_lt (l : List UInt8) (i : Nat) : atN l i < 256 := UInt8.toNat_lt _
theorem at_get {l : List UInt8} {i : Nat} (h : i < l.length) : ∃ x, l[i]? = some x ∧ x.toNat = atN l i := ⟨_, List.getElem?_eq_getElem h, by simp [atN, h]⟩
theorem decode_r1 (s : List UInt8) (pos : Nat) (h : pos < s.length) : Utf8.decode (bstr s) pos = if (r1 (s.drop pos)).2 = 0 then (65533, 1) else r1 (s.drop pos) := by
  have hg : ∀ i, ((bstr s).get! (pos + i)).toNat = atN (s.drop pos) i := by
    intro i
    simp only [atN, bstr, ByteArray.get!, List.getD, List.getElem?_drop]
    rw [getElem!_def]
    simp only [List.getElem?_toArray]
    cases s[pos + i]? <;> rfl
  rw [Lib.decode_at, bstr_size]
  have h0 := hg 0
  rw [Nat.add_zero] at h0
  rw [h0, hg 1, hg 2, hg 3, decode_rune1 _ _ _ _ _ (by omega) (atN_lt _ _) (atN_lt _ _) (atN_lt _ _) (atN_lt _ _)]
  unfold r1
  rw [List.length_drop]
/-- what the loop over the following bytes has -/
def accN (a : Nat) (cb : Nat → Nat) : Nat → Nat
  | 0 => a
  | q + 1 => if q = 0 then a else accN a cb q * 64 + cb q % 64
theorem acc_1 (a : Nat) (cb : Nat → Nat) : accN a cb 1 = a := by simp [accN]
theorem acc_s (a : Nat) (cb : Nat → Nat) (q : Nat) (h : 1 ≤ q) : accN a cb (q + 1) = accN a cb q * 64 + cb q % 64 := by
  rw [accN, if_neg (by omega)]
theorem acc_le (a : Nat) (cb : Nat → Nat) (q n : Nat) (hn : n ≤ 4) (ha : (n = 2 ∧ a < 32) ∨ (n = 3 ∧ a < 16) ∨ (n = 4 ∧ a < 8)) (h1 : 1 ≤ q) (h : q < n) : accN a cb q ≤ 32767 := by
  have hq : q = 1 ∨ q = 2 ∨ q = 3 := by omega
  rcases hq with rfl | rfl | rfl
  · rw [acc_1]; omega
  · rw [acc_s _ _ 1 (by omega), acc_1]; omega
  · rw [acc_s _ _ 2 (by omega), acc_s _ _ 1 (by omega), acc_1]; omega
def maskN (n b : Nat) : Nat := if n = 2 then b % 32 else if n = 3 then b % 16 else b % 8
theorem r1_none {l : List UInt8} (h : sizeN (atN l 0) = 0 ∨ l.length < sizeN (atN l 0)) : r1 l = (0, 0) := by unfold r1 rune1N; rw [if_pos h]
theorem r1_one {l : List UInt8} (h : sizeN (atN l 0) = 1) (hl : 1 ≤ l.length) : r1 l = (atN l 0, 1) := by unfold r1 rune1N; rw [if_neg (by omega), if_pos h]
theorem r1_fit {l : List UInt8} {n : Nat} (h : sizeN (atN l 0) = n) (hn : 2 ≤ n ∧ n ≤ 4) (hl : n ≤ l.length) (hc : ∀ j, 1 ≤ j → j < n → contN (atN l j) = true) : r1 l = fitN n (accN (maskN n (atN l 0)) (atN l) n) := by
  unfold r1 rune1N
  rw [h, if_neg (by omega), if_neg (by omega)]
  have : n = 2 ∨ n = 3 ∨ n = 4 := by omega
  rcases this with rfl | rfl | rfl
  · rw [if_pos rfl, hc 1 (by omega) (by omega)]
    simp [acc_s, acc_1, maskN]
  · rw [if_neg (by omega), if_pos rfl, hc 1 (by omega) (by omega), hc 2 (by omega) (by omega)]
    simp [acc_s, acc_1, maskN]
  · rw [if_neg (by omega), if_neg (by omega), hc 1 (by omega) (by omega), hc 2 (by omega) (by omega), hc 3 (by omega) (by omega)]
    simp [acc_s, acc_1, maskN]
theorem r1_bad {l : List UInt8} {n q : Nat} (h : sizeN (atN l 0) = n) (hn : 2 ≤ n ∧ n ≤ 4) (hl : n ≤ l.length) (hq : 1 ≤ q ∧ q < n) (hc : contN (atN l q) = false) : r1 l = (0, 0) := by
  unfold r1 rune1N
  rw [h, if_neg (by omega), if_neg (by omega)]
  have : n = 2 ∨ n = 3 ∨ n = 4 := by omega
  have hq' : q = 1 ∨ q = 2 ∨ q = 3 := by omega
  rcases this with rfl | rfl | rfl <;> rcases hq' with rfl | rfl | rfl <;> first | omega | simp [hc]
theorem size_le (k : Nat) : sizeN k ≤ 4 := by unfold sizeN; (repeat' split) <;> omega
theorem and_mask (y : Nat) (h : y < 256) : bits BinOp.and IntKind.i64 (y : Int) 31 = ((y % 32 : Nat) : Int) ∧ bits BinOp.and IntKind.i64 (y : Int) 15 = ((y % 16 : Nat) : Int) ∧ bits BinOp.and IntKind.i64 (y : Int) 7 = ((y % 8 : Nat) : Int) := by
  have h' : ∀ k : Fin 256, bits BinOp.and IntKind.i64 ((k.val : Int)) 31 = ((k.val % 32 : Nat) : Int) ∧ bits BinOp.and IntKind.i64 ((k.val : Int)) 15 = ((k.val % 16 : Nat) : Int) ∧ bits BinOp.and IntKind.i64 ((k.val : Int)) 7 = ((k.val % 8 : Nat) : Int) := by decide +kernel
  exact h' ⟨y, h⟩
theorem Below.drewN' (w : World) (n : Nat) : B w (w.drewN n) := ⟨rfl, rfl, rfl, Nat.le_refl _, fun _ _ => rfl⟩
/-- what rune1 answers -/
def R1Post (w : World) (l : List UInt8) (e : Ending) (w' : World) : Prop := e = .returned (.tuple #[.int .i64 ((r1 l).1 : Int), .int .i64 ((r1 l).2 : Int)]) ∧ B w w'
set_option maxRecDepth 20000 in
set_option maxHeartbeats 4000000 in
theorem rRune1_none (w : World) (l : List UInt8) (h0 : 1 ≤ l.length) (hl : l.length ≤ 4194304) (hn : sizeN (atN l 0) = 0 ∨ l.length < sizeN (atN l 0)) : Calls Tryz.prog 74 #[.string (bstr l)] w (R1Post w l) := by
  have HR := Lib.hid (r1_none hn)
  obtain ⟨x0, hx0, hxa⟩ := at_get h0
  have hsz := bstr_size l
  have i0 := bstrAt l 0 x0 hx0
  have HSZ := Lib.hid (fun w' => (show Calls Tryz.prog 100 #[.int .u8 (x0.toNat : Int)] w' fun e w2 => e = .returned (.int .i64 (sizeN (atN l 0) : Int)) ∧ w' = w2 from by rw [← hxa]; exact rSize_c w' x0.toNat x0.toNat_lt))
  have HX := Lib.hid hxa
  generalize bstr l = b at *
  generalize sizeN (atN l 0) = n at *
  obtain ⟨m, hm⟩ : ∃ m, l.length = m := ⟨_, rfl⟩
  have HM := Lib.hid hm
  rw [hm] at hsz h0 hl hn
  have g0 : 0 < m := by omega
  clear hm hx0 hxa
  by_cases e0 : n = 0
  · subst e0
    clear hn
    go_enter Tryz.func74, Tryz.ntmps74
    go_wp2_with (first
      | (go_at_call 100; (with_reducible refine callsM (HSZ.out _) ?_); rintro e w1 ⟨rfl, rfl⟩))
    go_ret2
    refine ⟨?_, Below.refl _ _⟩
    rw [HR.out]; rfl
  · have g1 : ((n : Int) == 0) = false := by simp; omega
    have g2 : (m : Int) < n := by omega
    clear e0 hn
    go_enter Tryz.func74, Tryz.ntmps74
    go_wp2_with (first
      | (go_at_call 100; (with_reducible refine callsM (HSZ.out _) ?_); rintro e w1 ⟨rfl, rfl⟩))
    go_ret2
    refine ⟨?_, Below.refl _ _⟩
    rw [HR.out]; rfl
set_option maxRecDepth 20000 in
set_option maxHeartbeats 4000000 in
theorem rRune1_one (w : World) (l : List UInt8) (h0 : 1 ≤ l.length) (hl : l.length ≤ 4194304) (hn : sizeN (atN l 0) = 1) : Calls Tryz.prog 74 #[.string (bstr l)] w (R1Post w l) := by
  have HR := Lib.hid (r1_one hn h0)
  obtain ⟨x0, hx0, hxa⟩ := at_get h0
  have hsz := bstr_size l
  have i0 := bstrAt l 0 x0 hx0
  have HSZ := Lib.hid (fun w' => (show Calls Tryz.prog 100 #[.int .u8 (x0.toNat : Int)] w' fun e w2 => e = .returned (.int .i64 1) ∧ w' = w2 from by have := rSize_c w' x0.toNat x0.toNat_lt; rw [hxa, hn] at this; rw [hxa]; exact this))
  have HX := Lib.hid hxa
  generalize bstr l = b at *
  obtain ⟨m, hm⟩ : ∃ m, l.length = m := ⟨_, rfl⟩
  have HM := Lib.hid hm
  rw [hm] at hsz h0 hl
  have g0 : 0 < m := by omega
  have g2 : ¬ (m : Int) < 1 := by omega
  have g3 := x0.toNat_lt
  clear hm hx0 hxa hn
  go_enter Tryz.func74, Tryz.ntmps74
  go_wp2_with (first
    | (go_at_call 100; (with_reducible refine callsM (HSZ.out _) ?_); rintro e w1 ⟨rfl, rfl⟩))
  go_ret2
  refine ⟨?_, Below.refl _ _⟩
  rw [HR.out, HX.out]; rfl
set_option maxRecDepth 20000 in
set_option maxHeartbeats 8000000 in
theorem rRune1_2 (w : World) (l : List UInt8) (hn : sizeN (atN l 0) = 2) (h0 : 2 ≤ l.length) (hl : l.length ≤ 4194304) : Calls Tryz.prog 74 #[.string (bstr l)] w (R1Post w l) := by
  have HF := Lib.hid (fun hc => r1_fit hn (by omega) h0 hc)
  have HB := Lib.hid (fun q hq hc => r1_bad (q := q) hn (by omega) h0 hq hc)
  obtain ⟨x0, hx0, hxa⟩ := at_get (show 0 < l.length by omega)
  have hsz := bstr_size l
  have i0 := bstrAt l 0 x0 hx0
  have HI := Lib.hid (bstrAt l)
  have HG := Lib.hid (fun i (h : i < l.length) => at_get h)
  have HSZ := Lib.hid (fun w' => (show Calls Tryz.prog 100 #[.int .u8 (x0.toNat : Int)] w' fun e w2 => e = .returned (.int .i64 2) ∧ w' = w2 from by have := rSize_c w' x0.toNat x0.toNat_lt; rw [hxa, hn] at this; rw [hxa]; exact this))
  have HX := Lib.hid hxa
  generalize bstr l = b at *
  obtain ⟨m, hm⟩ : ∃ m, l.length = m := ⟨_, rfl⟩
  have HM := Lib.hid hm
  rw [hm] at hsz h0 hl
  have g0 : 0 < m := by omega
  have g3 := x0.toNat_lt
  have g2 : ¬ (m : Int) < 2 := by omega
  have HK := Lib.hid (show maskN 2 (atN l 0) = x0.toNat % 32 from by rw [hxa]; rfl)
  obtain ⟨a, ha⟩ : ∃ a, x0.toNat % 32 = a := ⟨_, rfl⟩
  have HA := Lib.hid ha
  have q1 : bits BinOp.and IntKind.i64 (x0.toNat : Int) 31 = (a : Int) := by have := and_mask x0.toNat g3; rw [this.1, ha]
  have HAL := Lib.hid (show a < 32 by omega)
  clear hm hx0 hxa hn ha
  go_enter Tryz.func74, Tryz.ntmps74
  go_wp2_with (first
    | (go_at_call 100; (with_reducible refine callsM (HSZ.out _) ?_); rintro e w1 ⟨rfl, rfl⟩))
  go_quiet (fail)
  go_wp2_with fail
  clear q1 i0
  have HBW := Lib.hid (Below.drewN' w nq)
  generalize World.drewN w nq = w1 at *
  go_loop [5, 6] (fun v i => ∃ (q z : Nat), 1 ≤ q ∧ q ≤ 2 ∧ i = .int .i64 (q : Int) ∧ v = .int .i64 (z : Int) ∧ Hid (accN a (atN l) q = z) ∧ Hid (∀ j, 1 ≤ j → j < q → contN (atN l j) = true)) (fun _ i => 2 - (intOf i).toNat)
  case atStart => exact ⟨1, a, by omega, by omega, rfl, rfl, Lib.hid (acc_1 _ _), fun j h1 h2 => by omega⟩
  case round =>
    obtain ⟨q, z, hq1, hq2, rfl, rfl, HZ, HP⟩ := hrel
    by_cases hlt : q < 2
    · obtain ⟨x, hx, hxa⟩ := HG.out q (by have := HM.out; omega)
      have i1 := HI.out q x hx
      have hz : z ≤ 32767 := by rw [← HZ.out]; exact acc_le _ _ _ 2 (by omega) (by have := HAL.out; omega) hq1 hlt
      have hqi : (q : Int) < 2 := by omega
      have hqm : q < m := by omega
      have g4 := x.toNat_lt
      have HXA := Lib.hid hxa
      by_cases hc : 128 ≤ x.toNat ∧ x.toNat < 192
      · have c1 : ¬ (x.toNat : Int) < 128 := by omega
        have c2 : ¬ (192 : Int) ≤ x.toNat := by omega
        have HC := Lib.hid (show contN (atN l q) = true from by rw [← hxa]; exact decide_eq_true hc)
        clear hc hx hxa
        go_wp2_with fail
        go_round
        case rel =>
          refine ⟨q + 1, z * 64 + x.toNat % 64, by omega, by omega, by go_num, by go_num, ?_, ?_⟩
          · show accN a (atN l) (q + 1) = _
            rw [acc_s _ _ _ hq1, HZ.out, HXA.out]
          · intro j h1 h2
            by_cases e : j = q
            · rw [e]; exact HC.out
            · exact HP.out j h1 (by omega)
        case measure => simp [intOf]; omega
      · have HR := Lib.hid (HB.out q ⟨hq1, hlt⟩ (by rw [← hxa]; exact decide_eq_false hc))
        have hc2 : x.toNat < 128 ∨ (128 ≤ x.toNat ∧ 192 ≤ x.toNat) := by omega
        clear hc hx hxa
        rcases hc2 with c1 | ⟨c1, c2⟩
        · have c3 : (x.toNat : Int) < 128 := by omega
          clear c1
          go_wp2_with fail
          go_ret2
          refine ⟨?_, HBW.out⟩
          rw [HR.out]; rfl
        · have c3 : ¬ (x.toNat : Int) < 128 := by omega
          have c4 : (192 : Int) ≤ x.toNat := by omega
          clear c1 c2
          go_wp2_with fail
          go_ret2
          refine ⟨?_, HBW.out⟩
          rw [HR.out]; rfl
    · obtain rfl : q = 2 := by omega
      have HR := Lib.hid (show r1 l = fitN 2 z from by rw [HF.out HP.out, HK.out, HA.out, HZ.out])
      have hqi : ¬ (((2 : Nat) : Int) < 2) := by omega
      go_wp2_with fail
      all_goals
        go_ret2
        refine ⟨?_, B.trans HBW.out (B.alloc' _ _)⟩
        rw [HR.out]
        unfold fitN leastN
        first
          | (rw [if_pos (by simp; omega)]; rfl)
          | (rw [if_neg (by simp; omega)]; rfl)
set_option maxRecDepth 20000 in
set_option maxHeartbeats 8000000 in
theorem rRune1_3 (w : World) (l : List UInt8) (hn : sizeN (atN l 0) = 3) (h0 : 3 ≤ l.length) (hl : l.length ≤ 4194304) : Calls Tryz.prog 74 #[.string (bstr l)] w (R1Post w l) := by
  have HF := Lib.hid (fun hc => r1_fit hn (by omega) h0 hc)
  have HB := Lib.hid (fun q hq hc => r1_bad (q := q) hn (by omega) h0 hq hc)
  obtain ⟨x0, hx0, hxa⟩ := at_get (show 0 < l.length by omega)
  have hsz := bstr_size l
  have i0 := bstrAt l 0 x0 hx0
  have HI := Lib.hid (bstrAt l)
  have HG := Lib.hid (fun i (h : i < l.length) => at_get h)
  have HSZ := Lib.hid (fun w' => (show Calls Tryz.prog 100 #[.int .u8 (x0.toNat : Int)] w' fun e w2 => e = .returned (.int .i64 3) ∧ w' = w2 from by have := rSize_c w' x0.toNat x0.toNat_lt; rw [hxa, hn] at this; rw [hxa]; exact this))
  have HX := Lib.hid hxa
  generalize bstr l = b at *
  obtain ⟨m, hm⟩ : ∃ m, l.length = m := ⟨_, rfl⟩
  have HM := Lib.hid hm
  rw [hm] at hsz h0 hl
  have g0 : 0 < m := by omega
  have g3 := x0.toNat_lt
  have g2 : ¬ (m : Int) < 3 := by omega
  have HK := Lib.hid (show maskN 3 (atN l 0) = x0.toNat % 16 from by rw [hxa]; rfl)
  obtain ⟨a, ha⟩ : ∃ a, x0.toNat % 16 = a := ⟨_, rfl⟩
  have HA := Lib.hid ha
  have q1 : bits BinOp.and IntKind.i64 (x0.toNat : Int) 15 = (a : Int) := by have := and_mask x0.toNat g3; rw [this.2.1, ha]
  have HAL := Lib.hid (show a < 16 by omega)
  clear hm hx0 hxa hn ha
  go_enter Tryz.func74, Tryz.ntmps74
  go_wp2_with (first
    | (go_at_call 100; (with_reducible refine callsM (HSZ.out _) ?_); rintro e w1 ⟨rfl, rfl⟩))
  go_quiet (fail)
  go_wp2_with fail
  clear q1 i0
  have HBW := Lib.hid (Below.drewN' w nq)
  generalize World.drewN w nq = w1 at *
  go_loop [5, 6] (fun v i => ∃ (q z : Nat), 1 ≤ q ∧ q ≤ 3 ∧ i = .int .i64 (q : Int) ∧ v = .int .i64 (z : Int) ∧ Hid (accN a (atN l) q = z) ∧ Hid (∀ j, 1 ≤ j → j < q → contN (atN l j) = true)) (fun _ i => 3 - (intOf i).toNat)
  case atStart => exact ⟨1, a, by omega, by omega, rfl, rfl, Lib.hid (acc_1 _ _), fun j h1 h2 => by omega⟩
  case round =>
    obtain ⟨q, z, hq1, hq2, rfl, rfl, HZ, HP⟩ := hrel
    by_cases hlt : q < 3
    · obtain ⟨x, hx, hxa⟩ := HG.out q (by have := HM.out; omega)
      have i1 := HI.out q x hx
      have hz : z ≤ 32767 := by rw [← HZ.out]; exact acc_le _ _ _ 3 (by omega) (by have := HAL.out; omega) hq1 hlt
      have hqi : (q : Int) < 3 := by omega
      have hqm : q < m := by omega
      have g4 := x.toNat_lt
      have HXA := Lib.hid hxa
      by_cases hc : 128 ≤ x.toNat ∧ x.toNat < 192
      · have c1 : ¬ (x.toNat : Int) < 128 := by omega
        have c2 : ¬ (192 : Int) ≤ x.toNat := by omega
        have HC := Lib.hid (show contN (atN l q) = true from by rw [← hxa]; exact decide_eq_true hc)
        clear hc hx hxa
        go_wp2_with fail
        go_round
        case rel =>
          refine ⟨q + 1, z * 64 + x.toNat % 64, by omega, by omega, by go_num, by go_num, ?_, ?_⟩
          · show accN a (atN l) (q + 1) = _
            rw [acc_s _ _ _ hq1, HZ.out, HXA.out]
          · intro j h1 h2
            by_cases e : j = q
            · rw [e]; exact HC.out
            · exact HP.out j h1 (by omega)
        case measure => simp [intOf]; omega
      · have HR := Lib.hid (HB.out q ⟨hq1, hlt⟩ (by rw [← hxa]; exact decide_eq_false hc))
        have hc2 : x.toNat < 128 ∨ (128 ≤ x.toNat ∧ 192 ≤ x.toNat) := by omega
        clear hc hx hxa
        rcases hc2 with c1 | ⟨c1, c2⟩
        · have c3 : (x.toNat : Int) < 128 := by omega
          clear c1
          go_wp2_with fail
          go_ret2
          refine ⟨?_, HBW.out⟩
          rw [HR.out]; rfl
        · have c3 : ¬ (x.toNat : Int) < 128 := by omega
          have c4 : (192 : Int) ≤ x.toNat := by omega
          clear c1 c2
          go_wp2_with fail
          go_ret2
          refine ⟨?_, HBW.out⟩
          rw [HR.out]; rfl
    · obtain rfl : q = 3 := by omega
      have HR := Lib.hid (show r1 l = fitN 3 z from by rw [HF.out HP.out, HK.out, HA.out, HZ.out])
      have hqi : ¬ (((3 : Nat) : Int) < 3) := by omega
      go_wp2_with fail
      all_goals
        go_ret2
        refine ⟨?_, B.trans HBW.out (B.alloc' _ _)⟩
        rw [HR.out]
        unfold fitN leastN
        first
          | (rw [if_pos (by simp; omega)]; rfl)
          | (rw [if_neg (by simp; omega)]; rfl)
set_option maxRecDepth 20000 in
set_option maxHeartbeats 8000000 in
theorem rRune1_4 (w : World) (l : List UInt8) (hn : sizeN (atN l 0) = 4) (h0 : 4 ≤ l.length) (hl : l.length ≤ 4194304) : Calls Tryz.prog 74 #[.string (bstr l)] w (R1Post w l) := by
  have HF := Lib.hid (fun hc => r1_fit hn (by omega) h0 hc)
  have HB := Lib.hid (fun q hq hc => r1_bad (q := q) hn (by omega) h0 hq hc)
  obtain ⟨x0, hx0, hxa⟩ := at_get (show 0 < l.length by omega)
  have hsz := bstr_size l
  have i0 := bstrAt l 0 x0 hx0
  have HI := Lib.hid (bstrAt l)
  have HG := Lib.hid (fun i (h : i < l.length) => at_get h)
  have HSZ := Lib.hid (fun w' => (show Calls Tryz.prog 100 #[.int .u8 (x0.toNat : Int)] w' fun e w2 => e = .returned (.int .i64 4) ∧ w' = w2 from by have := rSize_c w' x0.toNat x0.toNat_lt; rw [hxa, hn] at this; rw [hxa]; exact this))
  have HX := Lib.hid hxa
  generalize bstr l = b at *
  obtain ⟨m, hm⟩ : ∃ m, l.length = m := ⟨_, rfl⟩
  have HM := Lib.hid hm
  rw [hm] at hsz h0 hl
  have g0 : 0 < m := by omega
  have g3 := x0.toNat_lt
  have g2 : ¬ (m : Int) < 4 := by omega
  have HK := Lib.hid (show maskN 4 (atN l 0) = x0.toNat % 8 from by rw [hxa]; rfl)
  obtain ⟨a, ha⟩ : ∃ a, x0.toNat % 8 = a := ⟨_, rfl⟩
  have HA := Lib.hid ha
  have q1 : bits BinOp.and IntKind.i64 (x0.toNat : Int) 7 = (a : Int) := by have := and_mask x0.toNat g3; rw [this.2.2, ha]
  have HAL := Lib.hid (show a < 8 by omega)
  clear hm hx0 hxa hn ha
  go_enter Tryz.func74, Tryz.ntmps74
  go_wp2_with (first
    | (go_at_call 100; (with_reducible refine callsM (HSZ.out _) ?_); rintro e w1 ⟨rfl, rfl⟩))
  go_quiet (fail)
  go_wp2_with fail
  clear q1 i0
  have HBW := Lib.hid (Below.drewN' w nq)
  generalize World.drewN w nq = w1 at *
  go_loop [5, 6] (fun v i => ∃ (q z : Nat), 1 ≤ q ∧ q ≤ 4 ∧ i = .int .i64 (q : Int) ∧ v = .int .i64 (z : Int) ∧ Hid (accN a (atN l) q = z) ∧ Hid (∀ j, 1 ≤ j → j < q → contN (atN l j) = true)) (fun _ i => 4 - (intOf i).toNat)
  case atStart => exact ⟨1, a, by omega, by omega, rfl, rfl, Lib.hid (acc_1 _ _), fun j h1 h2 => by omega⟩
  case round =>
    obtain ⟨q, z, hq1, hq2, rfl, rfl, HZ, HP⟩ := hrel
    by_cases hlt : q < 4
    · obtain ⟨x, hx, hxa⟩ := HG.out q (by have := HM.out; omega)
      have i1 := HI.out q x hx
      have hz : z ≤ 32767 := by rw [← HZ.out]; exact acc_le _ _ _ 4 (by omega) (by have := HAL.out; omega) hq1 hlt
      have hqi : (q : Int) < 4 := by omega
      have hqm : q < m := by omega
      have g4 := x.toNat_lt
      have HXA := Lib.hid hxa
      by_cases hc : 128 ≤ x.toNat ∧ x.toNat < 192
      · have c1 : ¬ (x.toNat : Int) < 128 := by omega
        have c2 : ¬ (192 : Int) ≤ x.toNat := by omega
        have HC := Lib.hid (show contN (atN l q) = true from by rw [← hxa]; exact decide_eq_true hc)
        clear hc hx hxa
        go_wp2_with fail
        go_round
        case rel =>
          refine ⟨q + 1, z * 64 + x.toNat % 64, by omega, by omega, by go_num, by go_num, ?_, ?_⟩
          · show accN a (atN l) (q + 1) = _
            rw [acc_s _ _ _ hq1, HZ.out, HXA.out]
          · intro j h1 h2
            by_cases e : j = q
            · rw [e]; exact HC.out
            · exact HP.out j h1 (by omega)
        case measure => simp [intOf]; omega
      · have HR := Lib.hid (HB.out q ⟨hq1, hlt⟩ (by rw [← hxa]; exact decide_eq_false hc))
        have hc2 : x.toNat < 128 ∨ (128 ≤ x.toNat ∧ 192 ≤ x.toNat) := by omega
        clear hc hx hxa
        rcases hc2 with c1 | ⟨c1, c2⟩
        · have c3 : (x.toNat : Int) < 128 := by omega
          clear c1
          go_wp2_with fail
          go_ret2
          refine ⟨?_, HBW.out⟩
          rw [HR.out]; rfl
        · have c3 : ¬ (x.toNat : Int) < 128 := by omega
          have c4 : (192 : Int) ≤ x.toNat := by omega
          clear c1 c2
          go_wp2_with fail
          go_ret2
          refine ⟨?_, HBW.out⟩
          rw [HR.out]; rfl
    · obtain rfl : q = 4 := by omega
      have HR := Lib.hid (show r1 l = fitN 4 z from by rw [HF.out HP.out, HK.out, HA.out, HZ.out])
      have hqi : ¬ (((4 : Nat) : Int) < 4) := by omega
      go_wp2_with fail
      all_goals
        go_ret2
        refine ⟨?_, B.trans HBW.out (B.alloc' _ _)⟩
        rw [HR.out]
        unfold fitN leastN
        first
          | (rw [if_pos (by simp; omega)]; rfl)
          | (rw [if_neg (by simp; omega)]; rfl)
theorem rRune1_c (w : World) (l : List UInt8) (h0 : 1 ≤ l.length) (hl : l.length ≤ 4194304) : Calls Tryz.prog 74 #[.string (bstr l)] w (R1Post w l) := by
  have := size_le (atN l 0)
  by_cases h1 : sizeN (atN l 0) = 0 ∨ l.length < sizeN (atN l 0)
  · exact rRune1_none w l h0 hl h1
  · have hc : sizeN (atN l 0) = 1 ∨ sizeN (atN l 0) = 2 ∨ sizeN (atN l 0) = 3 ∨ sizeN (atN l 0) = 4 := by omega
    rcases hc with h | h | h | h
    · exact rRune1_one w l h0 hl h
    · exact rRune1_2 w l h (by omega) hl
    · exact rRune1_3 w l h (by omega) hl
    · exact rRune1_4 w l h (by omega) hl
end Go.Proofs.YtbbcepmhkocgbaaGreatDoor

/- The reference's Runes and Name are the plain 'runesF', 'nameF'. -/
namespace Go.Proofs.YtbbcepmhkocgbaaGreatDoor
open Go.RowKit Go.Deep
set_option linter.unusedVariables false

theorem extAt (l : List UInt8) (a b : Nat) : (bstr l).extract a b = bstr ((l.take b).drop a) := by
  apply ByteArray.ext
  rw [ByteArray.data_extract]
  apply Array.toList_inj.1
  simp [bstr]
  try rw [List.drop_take]
theorem r1_le (l : List UInt8) : (r1 l).2 ≤ l.length := by
  unfold r1 rune1N fitN
  have := size_le (atN l 0)
  repeat' split
  all_goals simp only
  all_goals omega
theorem runesGo_ge (s : ByteArray) : ∀ (f pos k m : Nat), runesGo s f pos k = some m → k ≤ m
  | 0, _, k, m, h => by simp only [runesGo, Option.some.injEq] at h; omega
  | f + 1, pos, k, m, h => by
    simp only [runesGo] at h
    split at h
    · split at h
      · cases h
      · have := runesGo_ge s f _ _ _ h; omega
    · simp only [Option.some.injEq] at h; omega
def cutR (o : Option Nat) : Nat := match o with | none => 0 | some n => if 16 < n then 0 else n
theorem runes_big (s : ByteArray) (f pos k : Nat) (h : 16 < k) : cutR (runesGo s f pos k) = 0 := by
  unfold cutR
  split
  · rfl
  · rename_i m hm
    have := runesGo_ge s f pos k m hm
    rw [if_pos (by omega)]
def strSz : Value → Nat | .string b => b.size | _ => 0
def RunesBad (v n k : Nat) : Prop := n = 0 ∨ v < 33 ∨ (127 ≤ v ∧ v < 160) ∨ v = 47 ∨ v = 65533 ∨ 16 ≤ k
theorem runes_step (s : List UInt8) (f pos k : Nat) (h : pos < s.length) :
    (RunesBad (r1 (s.drop pos)).1 (r1 (s.drop pos)).2 k → cutR (runesGo (bstr s) (f + 1) pos k) = 0) ∧
    (¬ RunesBad (r1 (s.drop pos)).1 (r1 (s.drop pos)).2 k → runesGo (bstr s) (f + 1) pos k = runesGo (bstr s) f (pos + (r1 (s.drop pos)).2) (k + 1)) := by
  have hd := decode_r1 s pos h
  have hs : runesGo (bstr s) (f + 1) pos k = if badR (Utf8.decode (bstr s) pos).1 then none else runesGo (bstr s) f (pos + (Utf8.decode (bstr s) pos).2) (k + 1) := by simp [runesGo, bstr_size, h]
  rw [hs, hd]
  generalize r1 (s.drop pos) = r
  obtain ⟨v, n⟩ := r
  simp only
  constructor
  · intro hb
    by_cases h0 : n = 0
    · simp [h0, badR, cutR]
    · rw [if_neg h0]
      by_cases hv : badR v = true
      · simp [hv, cutR]
      · simp only [hv]
        have hk : 16 ≤ k := by
          unfold RunesBad at hb
          simp only [badR, Bool.or_eq_true, Bool.and_eq_true, decide_eq_true_eq] at hv
          omega
        exact runes_big _ _ _ _ (by omega)
  · intro hb
    unfold RunesBad at hb
    have h0 : n ≠ 0 := by omega
    have hv : badR v = false := by
      simp only [badR, Bool.or_eq_false_iff, Bool.and_eq_false_iff, decide_eq_false_iff_not]
      omega
    rw [if_neg h0, hv]
    rfl
set_option maxRecDepth 20000 in
set_option maxHeartbeats 8000000 in
theorem rRunes_c (w : World) (s : List UInt8) (hs : s.length ≤ 4194304) : Calls Tryz.prog 49 #[.string (bstr s)] w fun e w' => e = .returned (.int .i64 (runesF s : Int)) ∧ B w w' := by
  have HE := Lib.hid (show runesF s = cutR (runesGo (bstr s) (s.length + 1) 0 0) from rfl)
  have HL := Lib.hid hs
  have HS0 := Lib.hid (bstr_size s)
  generalize runesF s = z at *
  obtain ⟨b0, hb0⟩ : ∃ b0, bstr s = b0 := ⟨_, rfl⟩
  have HB0 := Lib.hid hb0
  rw [hb0]
  clear hb0 hs
  go_enter Tryz.func49, Tryz.ntmps49
  go_wp2
  go_loopw [0, 3] (fun x n wr => ∃ (pos f k : Nat) (b : ByteArray), x = .string b ∧ n = .int .i64 (k : Int) ∧ Hid (b = bstr (s.drop pos)) ∧ pos ≤ s.length ∧ s.length + 1 ≤ pos + f ∧ k ≤ 16 ∧ Hid (B w wr) ∧ Hid (cutR (runesGo (bstr s) f pos k) = z)) (fun x _ _ => strSz x)
  case atStart => exact ⟨0, s.length + 1, 0, b0, rfl, rfl, Lib.hid HB0.out.symm, by omega, by omega, by omega, Below.refl _ _, Lib.hid HE.out.symm⟩
  case round =>
    obtain ⟨pos, f, k, b, rfl, rfl, HBB, hp, hf, hk, HW, HZ⟩ := hrel
    obtain ⟨m, hm⟩ : ∃ m, b.size = m := ⟨_, rfl⟩
    have HMS := Lib.hid (show m = s.length - pos from by rw [← hm, HBB.out, bstr_size, List.length_drop])
    have hm4 : (m : Int) ≤ 4194304 := by have := HMS.out; have := HL.out; omega
    by_cases hlt : pos < s.length
    · obtain ⟨f, rfl⟩ : ∃ g, f = g + 1 := ⟨f - 1, by omega⟩
      have hst := runes_step s f pos k hlt
      have HC := Lib.hid (fun w' => (show Calls Tryz.prog 74 #[.string b] w' (R1Post w' (s.drop pos)) from by rw [HBB.out]; exact rRune1_c w' _ (by rw [List.length_drop]; omega) (by rw [List.length_drop]; have := HL.out; omega)))
      unfold R1Post at HC
      have hle := r1_le (s.drop pos)
      rw [List.length_drop] at hle
      generalize r1 (s.drop pos) = r at *
      obtain ⟨v, n⟩ := r
      simp only at hst hle HC
      have HST := Lib.hid hst
      have hnm : (n : Int) ≤ m := by have := HMS.out; omega
      have hk4 : (k : Int) ≤ 4194304 := by omega
      have hm0 : 0 < m := by have := HMS.out; omega
      have HLE := Lib.hid hle
      clear hst hle
      by_cases hbad : RunesBad v n k
      · have HR := Lib.hid (show z = 0 from by rw [← HZ.out, HST.out.1 hbad])
        clear HST
        unfold RunesBad at hbad
        rcases hbad with h | h | ⟨h, h'⟩ | h | h | h
        · subst h
          go_wp2_with (first
          | (go_at_call 74; (with_reducible refine callsM (HC.out _) ?_); rintro e w1 ⟨rfl, hB1⟩; have HB1 := Lib.hid hB1; clear hB1))
          all_goals
            go_ret
            refine ⟨?_, B.trans HW.out HB1.out⟩
            rw [HR.out]; rfl
        · have g1 : (v : Int) < 33 := by omega
          clear h
          go_wp2_with (first
          | (go_at_call 74; (with_reducible refine callsM (HC.out _) ?_); rintro e w1 ⟨rfl, hB1⟩; have HB1 := Lib.hid hB1; clear hB1))
          all_goals
            go_ret
            refine ⟨?_, B.trans HW.out HB1.out⟩
            rw [HR.out]; rfl
        · have g1 : (127 : Int) ≤ v := by omega
          have g2 : (v : Int) < 160 := by omega
          clear h h'
          go_wp2_with (first
          | (go_at_call 74; (with_reducible refine callsM (HC.out _) ?_); rintro e w1 ⟨rfl, hB1⟩; have HB1 := Lib.hid hB1; clear hB1))
          all_goals
            go_ret
            refine ⟨?_, B.trans HW.out HB1.out⟩
            rw [HR.out]; rfl
        · subst h
          go_wp2_with (first
          | (go_at_call 74; (with_reducible refine callsM (HC.out _) ?_); rintro e w1 ⟨rfl, hB1⟩; have HB1 := Lib.hid hB1; clear hB1))
          all_goals
            go_ret
            refine ⟨?_, B.trans HW.out HB1.out⟩
            rw [HR.out]; rfl
        · subst h
          go_wp2_with (first
          | (go_at_call 74; (with_reducible refine callsM (HC.out _) ?_); rintro e w1 ⟨rfl, hB1⟩; have HB1 := Lib.hid hB1; clear hB1))
          all_goals
            go_ret
            refine ⟨?_, B.trans HW.out HB1.out⟩
            rw [HR.out]; rfl
        · have g1 : (16 : Int) ≤ k := by omega
          clear h
          go_wp2_with (first
          | (go_at_call 74; (with_reducible refine callsM (HC.out _) ?_); rintro e w1 ⟨rfl, hB1⟩; have HB1 := Lib.hid hB1; clear hB1))
          all_goals
            go_ret
            refine ⟨?_, B.trans HW.out HB1.out⟩
            rw [HR.out]; rfl
      · have HGO := Lib.hid (HST.out.2 hbad)
        clear HST
        unfold RunesBad at hbad
        have g1 : ((n : Int) == 0) = false := by simp; omega
        have g2 : ¬ (v : Int) < 33 := by omega
        have g3 : ((v : Int) == 47) = false := by simp; omega
        have g4 : ((v : Int) == 65533) = false := by simp; omega
        have g5 : ¬ (16 : Int) ≤ k := by omega
        have HN0 := Lib.hid (show 1 ≤ n from by omega)
        have hv : (v < 127) ∨ (127 ≤ v ∧ 160 ≤ v) := by omega
        clear hbad
        rcases hv with hv | ⟨hv, hv2⟩
        · have g6 : ¬ (127 : Int) ≤ v := by omega
          clear hv
          go_wp2_with (first
          | (go_at_call 74; (with_reducible refine callsM (HC.out _) ?_); rintro e w1 ⟨rfl, hB1⟩; have HB1 := Lib.hid hB1; clear hB1))
          go_roundw
          case rel =>
            refine ⟨pos + n, f, k + 1, b.extract n m, rfl, by go_num, ?_, by have := HLE.out; omega, by have := HN0.out; omega, by have := HN0.out; omega, B.trans HW.out HB1.out, ?_⟩
            · show _ = _
              have h1 : m = (s.drop pos).length := by rw [HMS.out, List.length_drop]
              rw [HBB.out, extAt, h1, List.take_length, List.drop_drop]
            · show _ = _
              rw [← HZ.out, HGO.out]
          case measure =>
            have h1 := HN0.out
            simp only [strSz, ByteArray.size_extract]
            omega
        · have g6 : (127 : Int) ≤ v := by omega
          have g7 : ¬ (v : Int) < 160 := by omega
          clear hv hv2
          go_wp2_with (first
          | (go_at_call 74; (with_reducible refine callsM (HC.out _) ?_); rintro e w1 ⟨rfl, hB1⟩; have HB1 := Lib.hid hB1; clear hB1))
          go_roundw
          case rel =>
            refine ⟨pos + n, f, k + 1, b.extract n m, rfl, by go_num, ?_, by have := HLE.out; omega, by have := HN0.out; omega, by have := HN0.out; omega, B.trans HW.out HB1.out, ?_⟩
            · show _ = _
              have h1 : m = (s.drop pos).length := by rw [HMS.out, List.length_drop]
              rw [HBB.out, extAt, h1, List.take_length, List.drop_drop]
            · show _ = _
              rw [← HZ.out, HGO.out]
          case measure =>
            have h1 := HN0.out
            simp only [strSz, ByteArray.size_extract]
            omega
    · have hE := HZ.out
      rw [runesGo_end _ _ _ _ (by rw [bstr_size]; exact hlt)] at hE
      have hbig := runes_big (bstr s) f pos k
      rw [runesGo_end _ _ _ _ (by rw [bstr_size]; exact hlt)] at hbig
      have HE2 := Lib.hid (show z = if 16 < k then 0 else k from hE.symm)
      obtain rfl : m = 0 := by have := HMS.out; omega
      have HKZ := Lib.hid (show z = k from by rw [HE2.out, if_neg (by omega)])
      clear hE hbig HE2
      go_wp2_with fail
      go_ret
      exact ⟨by rw [HKZ.out]; rfl, HW.out⟩
theorem rName_c (w : World) (s : List UInt8) (hs : s.length ≤ 4194304) : Calls Tryz.prog 32 #[.string (bstr s)] w fun e w' => e = .returned (.bool (nameF s)) ∧ B w w' := by
  have HR := Lib.hid (rRunes_c w s hs)
  clear hs
  have HN := Lib.hid (show nameF s = decide (0 < runesF s) from rfl)
  generalize nameF s = z at *
  generalize runesF s = n at *
  go_enter Tryz.func32, Tryz.ntmps32
  go_wp2_with (first | (go_at_call 49; (with_reducible refine HR.out.mono ?_); rintro e w1 ⟨rfl, hb⟩; have HB := Lib.hid hb; clear hb))
  all_goals
    go_ret
    exact ⟨by rw [HN.out]; simp, HB.out⟩
end Go.Proofs.YtbbcepmhkocgbaaGreatDoor

/- The reference's operations, requests and batches over data: what may be, their bytes (printed by gen_ba.py). -/
namespace Go.Proofs.YtbbcepmhkocgbaaGreatDoor
open Go.RowKit
set_option linter.unusedVariables false
set_option maxRecDepth 20000

theorem rName_s [Wd] (s : List UInt8) (hs : s.length ≤ 4194304) : FnP Tryz.prog 32 [.str s] (.bool (nameF s)) :=
  FnS.old (v := .bool (nameF s)) (fun _ _ => .bool _) (by kernel_rfl) (fun w I vs hv => by
    obtain ⟨v, rfl, h⟩ := hv.one_inv
    cases h
    exact rName_c w s hs) rfl
theorem rPutNum_s [Wd] (bs : List UInt8) (n : Int) (hl : bs.length + 100 ≤ big) : FnP Tryz.prog 55 [.list 1 (bs.map cByte), .int .u64 (IntKind.u64.wrap n)] (.list 1 ((bs ++ encI n).map cByte)) :=
  fresh_s (by have := enc_10 (show (n % 18446744073709551616).toNat < 18446744073709551616 by omega); unfold encI; rw [List.length_append]; omega) (by kernel_rfl) (fun w I vs hv => by
    obtain ⟨v, u, rfl, h1, h2⟩ := hv.two_inv
    cases h2
    rw [← u64_enc]
    have hr := u64_range n
    have h := putNum71 (h1.bs (by omega)) (IntKind.u64.wrap n).toNat (by omega) (by omega)
    rw [show (((IntKind.u64.wrap n).toNat : Nat) : Int) = IntKind.u64.wrap n from by omega] at h
    exact h) rfl
theorem rPutBytes_s [Wd] (bs xs : List UInt8) (hx : xs.length ≤ 4194304) (hl : (bs ++ xs).length + 100 ≤ big) : FnP Tryz.prog 76 [.list 1 (bs.map cByte), .list 1 (xs.map cByte)] (.list 1 ((bs ++ byF xs).map cByte)) :=
  fresh_s (by have := enc_10 (show xs.length < 18446744073709551616 by omega); unfold byF; simp at hl ⊢; omega) (by kernel_rfl) (fun w I vs hv => by
    obtain ⟨v, u, rfl, h1, h2⟩ := hv.two_inv
    rw [← byF_eq]
    exact putBytes73 (h1.bs (by simp at hl; omega)) (h2.bs (by simp at hl; omega)) (by omega)) rfl
theorem rCheckSign_s [Wd] (s : SignD) : FnP Tryz.prog 131 [.agg (cSign s)] (.int .i64 (signE s)) := by
  refine mkS 21 [] Tryz.func131 rfl (by kernel_rfl) ?_
  repeat'
    (conv => arg 2; whnf)
    first
    | refine okAsk (by kernel_rfl) ?_
    | refine okBrT ?_
    | refine okBrF ?_
    | refine okBr (fun h => ?_) (fun h => ?_)
    | refine endInt (.inr rfl) rfl ?_
  all_goals simp_all [signE]
  all_goals omega
theorem rKey_s [Wd] (n : Int) : FnP Tryz.prog 179 [.int .i64 n] (.int .i64 (if n < 0 ∨ 8 ≤ n then -1 else 13 + n)) := by
  refine mkS 11 [] Tryz.func179 rfl (by kernel_rfl) ?_
  repeat'
    (conv => arg 2; whnf)
    first
    | refine okAsk (by kernel_rfl) ?_
    | refine okBrT ?_
    | refine okBrF ?_
    | refine okBr (fun h => ?_) (fun h => ?_)
    | refine okWrap (w64 (by simp at *; omega) (by simp at *; omega)) ?_
    | refine endInt (.inr rfl) rfl ?_
  all_goals simp_all
  all_goals omega
theorem rFields1_s [Wd]  : FnP Tryz.prog 75 [.int .i64 1] (.tup [.bool true, .bool false, .bool false, .bool false]) := by
  refine mkS 15 [] Tryz.func75 rfl (by kernel_rfl) ?_
  repeat'
    (conv => arg 2; whnf)
    first
    | refine okAsk (by kernel_rfl) ?_
    | refine okBrT ?_
    | refine okBrF ?_
    | refine okBr (fun h => ?_) (fun h => ?_)
    | refine endFn0 (.inr rfl) rfl (.refl _) rfl
    | (exfalso; simp_all; done)
theorem rFields2_s [Wd]  : FnP Tryz.prog 75 [.int .i64 2] (.tup [.bool true, .bool false, .bool false, .bool true]) := by
  refine mkS 15 [] Tryz.func75 rfl (by kernel_rfl) ?_
  repeat'
    (conv => arg 2; whnf)
    first
    | refine okAsk (by kernel_rfl) ?_
    | refine okBrT ?_
    | refine okBrF ?_
    | refine okBr (fun h => ?_) (fun h => ?_)
    | refine endFn0 (.inr rfl) rfl (.refl _) rfl
    | (exfalso; simp_all; done)
theorem rFields3_s [Wd]  : FnP Tryz.prog 75 [.int .i64 3] (.tup [.bool true, .bool true, .bool true, .bool false]) := by
  refine mkS 15 [] Tryz.func75 rfl (by kernel_rfl) ?_
  repeat'
    (conv => arg 2; whnf)
    first
    | refine okAsk (by kernel_rfl) ?_
    | refine okBrT ?_
    | refine okBrF ?_
    | refine okBr (fun h => ?_) (fun h => ?_)
    | refine endFn0 (.inr rfl) rfl (.refl _) rfl
    | (exfalso; simp_all; done)
theorem rFields4_s [Wd]  : FnP Tryz.prog 75 [.int .i64 4] (.tup [.bool true, .bool false, .bool true, .bool false]) := by
  refine mkS 15 [] Tryz.func75 rfl (by kernel_rfl) ?_
  repeat'
    (conv => arg 2; whnf)
    first
    | refine okAsk (by kernel_rfl) ?_
    | refine okBrT ?_
    | refine okBrF ?_
    | refine okBr (fun h => ?_) (fun h => ?_)
    | refine endFn0 (.inr rfl) rfl (.refl _) rfl
    | (exfalso; simp_all; done)
theorem rFieldsN_s [Wd] (k : Int) (h1 : ¬ k = 1) (h2 : ¬ k = 2) (h3 : ¬ k = 3) (h4 : ¬ k = 4) : FnP Tryz.prog 75 [.int .i64 k] (.tup [.bool false, .bool false, .bool false, .bool false]) := by
  refine mkS 15 [] Tryz.func75 rfl (by kernel_rfl) ?_
  repeat'
    (conv => arg 2; whnf)
    first
    | refine okAsk (by kernel_rfl) ?_
    | refine okBrT ?_
    | refine okBrF ?_
    | refine okBr (fun h => ?_) (fun h => ?_)
    | refine endFn0 (.inr rfl) rfl (.refl _) rfl
    | (exfalso; simp_all; done)
theorem longF_no {o : OpD} {q : Nat} (h : (o.records.take q).any (fun r => decide (64 < r.length)) = false) (hq : ¬ q < o.records.length) : longF o = false := by
  rw [List.take_of_length_le (by omega)] at h
  exact h
theorem any_go {α : Type} {f : α → Bool} {l : List α} {q : Nat} {x : α} (hx : l[q]? = some x) (h : f x = false) (he : (l.take q).any f = false) : (l.take (q + 1)).any f = false := by
  rw [List.take_add_one, List.any_append, he, hx]
  simp [h]
theorem rOpCheck0_s [Wd] (o : OpD) (ho : dOp.ok o) : FnP Tryz.prog 50 [.agg (cOp { o with kind := 0 })] (.int .i64 (opE { o with kind := 0 })) := by
  refine mkS 112 [] Tryz.func50 rfl (by kernel_rfl) ?_
  repeat'
    (conv => arg 2; whnf)
    first
    | refine okAsk (by kernel_rfl) ?_
    | refine okBrT ?_
    | refine okBrF ?_
    | refine okBr (fun h => ?_) (fun h => ?_)
    | refine okFn (rFieldsN_s 0 (by omega) (by omega) (by omega) (by omega)) rfl (Cos.refl _) ?_
    | refine okFn (rName_s o.topic ho.2.1) rfl (Cos.refl _) ?_
    | refine okFn (rName_s o.group ho.2.2.1) rfl (Cos.refl _) ?_
    | (refine endInt (.inr rfl) rfl ?_; simp_all [opE, kindOk, onlyF, sameOp]; done)
    | (refine endInt (.inr rfl) rfl ?_; simp_all [opE, kindOk, onlyF, sameOp]; intro hr; simp_all; done)
    | (refine endInt (.inr rfl) rfl ?_; simp_all [opE, kindOk, onlyF, sameOp]; omega)
    | (refine endInt (.inr rfl) rfl ?_; simp_all [opE, kindOk, onlyF, sameOp]; intros; omega)
    | (have e : o.records.length = 0 := (by simp at h; omega); have e := List.length_eq_zero_iff.1 e; refine endInt (.inr rfl) rfl ?_; simp_all [opE, kindOk, onlyF, sameOp]; done)
    | (exfalso; simp_all; done)
  have HL : o.records.length ≤ 4194304 := ho.2.2.2.2.1
  refine okLoop (α := Nat) (fun q => ⟨[(7, .int .i64 q), (1, .ptr 0 0)], [.cells 36 (cOp { o with kind := 0 })]⟩) (fun q => q ≤ o.records.length ∧ (o.records.take q).any (fun r => decide (64 < r.length)) = false) (fun q => o.records.length - q) 0 ⟨Nat.zero_le _, by simp⟩ (Sv.mk' [0] rfl ⟨⟨rfl, rfl⟩, trivial⟩ ⟨rfl, rfl, trivial⟩) ?_
  rintro q ⟨hq, he⟩
  repeat'
    (conv => arg 2; whnf)
    first
    | refine okAsk (by kernel_rfl) ?_
    | refine okBrT ?_
    | refine okBrF ?_
    | refine okBr (fun h => ?_) (fun h => ?_)
    | refine okNthMap (l := o.records) (by simp at h; omega) (fun x hx => ?_)
    | refine okWrap (w64 (by simp at h hq; omega) (by have := HL; simp at h hq; omega)) ?_
    | refine okAgain (q + 1) (Sv.mk' [0] rfl ⟨⟨rfl, rfl⟩, trivial⟩ ⟨rfl, rfl, trivial⟩) ⟨by have := (List.getElem?_eq_some_iff.1 hx).1; omega, any_go hx (by simp at h ⊢; omega) he⟩ (by have := (List.getElem?_eq_some_iff.1 hx).1; omega)
    | refine okOut ?_
    | refine okRet ?_
    | (have hL : longF o = true := List.any_eq_true.2 ⟨x, List.mem_of_getElem? hx, by simp at h ⊢; omega⟩; refine endInt (.inr rfl) rfl ?_; clear he; simp_all [opE, kindOk, onlyF, sameOp, longF]; done)
    | (have hL : longF o = false := longF_no he (by simp at *; omega); refine endInt (.inr rfl) rfl ?_; clear he; simp_all [opE, kindOk, onlyF, sameOp, longF]; done)
    | (have hL : longF o = false := longF_no he (by simp at *; omega); refine endInt (.inr rfl) rfl ?_; clear he; simp_all [opE, kindOk, onlyF, sameOp, longF]; omega)
    | (have hL : longF o = false := longF_no he (by simp at *; omega); refine endInt (.inr rfl) rfl ?_; clear he; simp_all [opE, kindOk, onlyF, sameOp, longF]; exact ⟨fun e => by have := List.length_eq_zero_iff.2 e; omega, by omega⟩)
    | (exfalso; clear he; simp_all; done)
theorem rOpCheck1_s [Wd] (o : OpD) (ho : dOp.ok o) : FnP Tryz.prog 50 [.agg (cOp { o with kind := 1 })] (.int .i64 (opE { o with kind := 1 })) := by
  refine mkS 112 [] Tryz.func50 rfl (by kernel_rfl) ?_
  repeat'
    (conv => arg 2; whnf)
    first
    | refine okAsk (by kernel_rfl) ?_
    | refine okBrT ?_
    | refine okBrF ?_
    | refine okBr (fun h => ?_) (fun h => ?_)
    | refine okFn (rFields1_s) rfl (Cos.refl _) ?_
    | refine okFn (rName_s o.topic ho.2.1) rfl (Cos.refl _) ?_
    | refine okFn (rName_s o.group ho.2.2.1) rfl (Cos.refl _) ?_
    | (refine endInt (.inr rfl) rfl ?_; simp_all [opE, kindOk, onlyF, sameOp]; done)
    | (refine endInt (.inr rfl) rfl ?_; simp_all [opE, kindOk, onlyF, sameOp]; intro hr; simp_all; done)
    | (refine endInt (.inr rfl) rfl ?_; simp_all [opE, kindOk, onlyF, sameOp]; omega)
    | (refine endInt (.inr rfl) rfl ?_; simp_all [opE, kindOk, onlyF, sameOp]; intros; omega)
    | (have e : o.records.length = 0 := (by simp at h; omega); have e := List.length_eq_zero_iff.1 e; refine endInt (.inr rfl) rfl ?_; simp_all [opE, kindOk, onlyF, sameOp]; done)
    | (exfalso; simp_all; done)
  have HL : o.records.length ≤ 4194304 := ho.2.2.2.2.1
  refine okLoop (α := Nat) (fun q => ⟨[(7, .int .i64 q), (1, .ptr 0 0)], [.cells 36 (cOp { o with kind := 1 })]⟩) (fun q => q ≤ o.records.length ∧ (o.records.take q).any (fun r => decide (64 < r.length)) = false) (fun q => o.records.length - q) 0 ⟨Nat.zero_le _, by simp⟩ (Sv.mk' [0] rfl ⟨⟨rfl, rfl⟩, trivial⟩ ⟨rfl, rfl, trivial⟩) ?_
  rintro q ⟨hq, he⟩
  repeat'
    (conv => arg 2; whnf)
    first
    | refine okAsk (by kernel_rfl) ?_
    | refine okBrT ?_
    | refine okBrF ?_
    | refine okBr (fun h => ?_) (fun h => ?_)
    | refine okNthMap (l := o.records) (by simp at h; omega) (fun x hx => ?_)
    | refine okWrap (w64 (by simp at h hq; omega) (by have := HL; simp at h hq; omega)) ?_
    | refine okAgain (q + 1) (Sv.mk' [0] rfl ⟨⟨rfl, rfl⟩, trivial⟩ ⟨rfl, rfl, trivial⟩) ⟨by have := (List.getElem?_eq_some_iff.1 hx).1; omega, any_go hx (by simp at h ⊢; omega) he⟩ (by have := (List.getElem?_eq_some_iff.1 hx).1; omega)
    | refine okOut ?_
    | refine okRet ?_
    | (have hL : longF o = true := List.any_eq_true.2 ⟨x, List.mem_of_getElem? hx, by simp at h ⊢; omega⟩; refine endInt (.inr rfl) rfl ?_; clear he; simp_all [opE, kindOk, onlyF, sameOp, longF]; done)
    | (have hL : longF o = false := longF_no he (by simp at *; omega); refine endInt (.inr rfl) rfl ?_; clear he; simp_all [opE, kindOk, onlyF, sameOp, longF]; done)
    | (have hL : longF o = false := longF_no he (by simp at *; omega); refine endInt (.inr rfl) rfl ?_; clear he; simp_all [opE, kindOk, onlyF, sameOp, longF]; omega)
    | (have hL : longF o = false := longF_no he (by simp at *; omega); refine endInt (.inr rfl) rfl ?_; clear he; simp_all [opE, kindOk, onlyF, sameOp, longF]; exact ⟨fun e => by have := List.length_eq_zero_iff.2 e; omega, by omega⟩)
    | (exfalso; clear he; simp_all; done)
theorem rOpCheck2_s [Wd] (o : OpD) (ho : dOp.ok o) : FnP Tryz.prog 50 [.agg (cOp { o with kind := 2 })] (.int .i64 (opE { o with kind := 2 })) := by
  refine mkS 112 [] Tryz.func50 rfl (by kernel_rfl) ?_
  repeat'
    (conv => arg 2; whnf)
    first
    | refine okAsk (by kernel_rfl) ?_
    | refine okBrT ?_
    | refine okBrF ?_
    | refine okBr (fun h => ?_) (fun h => ?_)
    | refine okFn (rFields2_s) rfl (Cos.refl _) ?_
    | refine okFn (rName_s o.topic ho.2.1) rfl (Cos.refl _) ?_
    | refine okFn (rName_s o.group ho.2.2.1) rfl (Cos.refl _) ?_
    | (refine endInt (.inr rfl) rfl ?_; simp_all [opE, kindOk, onlyF, sameOp]; done)
    | (refine endInt (.inr rfl) rfl ?_; simp_all [opE, kindOk, onlyF, sameOp]; intro hr; simp_all; done)
    | (refine endInt (.inr rfl) rfl ?_; simp_all [opE, kindOk, onlyF, sameOp]; omega)
    | (refine endInt (.inr rfl) rfl ?_; simp_all [opE, kindOk, onlyF, sameOp]; intros; omega)
    | (have e : o.records.length = 0 := (by simp at h; omega); have e := List.length_eq_zero_iff.1 e; refine endInt (.inr rfl) rfl ?_; simp_all [opE, kindOk, onlyF, sameOp]; done)
    | (exfalso; simp_all; done)
  have HL : o.records.length ≤ 4194304 := ho.2.2.2.2.1
  refine okLoop (α := Nat) (fun q => ⟨[(7, .int .i64 q), (1, .ptr 0 0)], [.cells 36 (cOp { o with kind := 2 })]⟩) (fun q => q ≤ o.records.length ∧ (o.records.take q).any (fun r => decide (64 < r.length)) = false) (fun q => o.records.length - q) 0 ⟨Nat.zero_le _, by simp⟩ (Sv.mk' [0] rfl ⟨⟨rfl, rfl⟩, trivial⟩ ⟨rfl, rfl, trivial⟩) ?_
  rintro q ⟨hq, he⟩
  repeat'
    (conv => arg 2; whnf)
    first
    | refine okAsk (by kernel_rfl) ?_
    | refine okBrT ?_
    | refine okBrF ?_
    | refine okBr (fun h => ?_) (fun h => ?_)
    | refine okNthMap (l := o.records) (by simp at h; omega) (fun x hx => ?_)
    | refine okWrap (w64 (by simp at h hq; omega) (by have := HL; simp at h hq; omega)) ?_
    | refine okAgain (q + 1) (Sv.mk' [0] rfl ⟨⟨rfl, rfl⟩, trivial⟩ ⟨rfl, rfl, trivial⟩) ⟨by have := (List.getElem?_eq_some_iff.1 hx).1; omega, any_go hx (by simp at h ⊢; omega) he⟩ (by have := (List.getElem?_eq_some_iff.1 hx).1; omega)
    | refine okOut ?_
    | refine okRet ?_
    | (have hL : longF o = true := List.any_eq_true.2 ⟨x, List.mem_of_getElem? hx, by simp at h ⊢; omega⟩; refine endInt (.inr rfl) rfl ?_; clear he; simp_all [opE, kindOk, onlyF, sameOp, longF]; done)
    | (have hL : longF o = false := longF_no he (by simp at *; omega); refine endInt (.inr rfl) rfl ?_; clear he; simp_all [opE, kindOk, onlyF, sameOp, longF]; done)
    | (have hL : longF o = false := longF_no he (by simp at *; omega); refine endInt (.inr rfl) rfl ?_; clear he; simp_all [opE, kindOk, onlyF, sameOp, longF]; omega)
    | (have hL : longF o = false := longF_no he (by simp at *; omega); refine endInt (.inr rfl) rfl ?_; clear he; simp_all [opE, kindOk, onlyF, sameOp, longF]; exact ⟨fun e => by have := List.length_eq_zero_iff.2 e; omega, by omega⟩)
    | (exfalso; clear he; simp_all; done)
theorem rOpCheck3_s [Wd] (o : OpD) (ho : dOp.ok o) : FnP Tryz.prog 50 [.agg (cOp { o with kind := 3 })] (.int .i64 (opE { o with kind := 3 })) := by
  refine mkS 112 [] Tryz.func50 rfl (by kernel_rfl) ?_
  repeat'
    (conv => arg 2; whnf)
    first
    | refine okAsk (by kernel_rfl) ?_
    | refine okBrT ?_
    | refine okBrF ?_
    | refine okBr (fun h => ?_) (fun h => ?_)
    | refine okFn (rFields3_s) rfl (Cos.refl _) ?_
    | refine okFn (rName_s o.topic ho.2.1) rfl (Cos.refl _) ?_
    | refine okFn (rName_s o.group ho.2.2.1) rfl (Cos.refl _) ?_
    | (refine endInt (.inr rfl) rfl ?_; simp_all [opE, kindOk, onlyF, sameOp]; done)
    | (refine endInt (.inr rfl) rfl ?_; simp_all [opE, kindOk, onlyF, sameOp]; intro hr; simp_all; done)
    | (refine endInt (.inr rfl) rfl ?_; simp_all [opE, kindOk, onlyF, sameOp]; omega)
    | (refine endInt (.inr rfl) rfl ?_; simp_all [opE, kindOk, onlyF, sameOp]; intros; omega)
    | (have e : o.records.length = 0 := (by simp at h; omega); have e := List.length_eq_zero_iff.1 e; refine endInt (.inr rfl) rfl ?_; simp_all [opE, kindOk, onlyF, sameOp]; done)
    | (exfalso; simp_all; done)
  have HL : o.records.length ≤ 4194304 := ho.2.2.2.2.1
  refine okLoop (α := Nat) (fun q => ⟨[(7, .int .i64 q), (1, .ptr 0 0)], [.cells 36 (cOp { o with kind := 3 })]⟩) (fun q => q ≤ o.records.length ∧ (o.records.take q).any (fun r => decide (64 < r.length)) = false) (fun q => o.records.length - q) 0 ⟨Nat.zero_le _, by simp⟩ (Sv.mk' [0] rfl ⟨⟨rfl, rfl⟩, trivial⟩ ⟨rfl, rfl, trivial⟩) ?_
  rintro q ⟨hq, he⟩
  repeat'
    (conv => arg 2; whnf)
    first
    | refine okAsk (by kernel_rfl) ?_
    | refine okBrT ?_
    | refine okBrF ?_
    | refine okBr (fun h => ?_) (fun h => ?_)
    | refine okNthMap (l := o.records) (by simp at h; omega) (fun x hx => ?_)
    | refine okWrap (w64 (by simp at h hq; omega) (by have := HL; simp at h hq; omega)) ?_
    | refine okAgain (q + 1) (Sv.mk' [0] rfl ⟨⟨rfl, rfl⟩, trivial⟩ ⟨rfl, rfl, trivial⟩) ⟨by have := (List.getElem?_eq_some_iff.1 hx).1; omega, any_go hx (by simp at h ⊢; omega) he⟩ (by have := (List.getElem?_eq_some_iff.1 hx).1; omega)
    | refine okOut ?_
    | refine okRet ?_
    | (have hL : longF o = true := List.any_eq_true.2 ⟨x, List.mem_of_getElem? hx, by simp at h ⊢; omega⟩; refine endInt (.inr rfl) rfl ?_; clear he; simp_all [opE, kindOk, onlyF, sameOp, longF]; done)
    | (have hL : longF o = false := longF_no he (by simp at *; omega); refine endInt (.inr rfl) rfl ?_; clear he; simp_all [opE, kindOk, onlyF, sameOp, longF]; done)
    | (have hL : longF o = false := longF_no he (by simp at *; omega); refine endInt (.inr rfl) rfl ?_; clear he; simp_all [opE, kindOk, onlyF, sameOp, longF]; omega)
    | (have hL : longF o = false := longF_no he (by simp at *; omega); refine endInt (.inr rfl) rfl ?_; clear he; simp_all [opE, kindOk, onlyF, sameOp, longF]; exact ⟨fun e => by have := List.length_eq_zero_iff.2 e; omega, by omega⟩)
    | (exfalso; clear he; simp_all; done)
theorem rOpCheck4_s [Wd] (o : OpD) (ho : dOp.ok o) : FnP Tryz.prog 50 [.agg (cOp { o with kind := 4 })] (.int .i64 (opE { o with kind := 4 })) := by
  refine mkS 112 [] Tryz.func50 rfl (by kernel_rfl) ?_
  repeat'
    (conv => arg 2; whnf)
    first
    | refine okAsk (by kernel_rfl) ?_
    | refine okBrT ?_
    | refine okBrF ?_
    | refine okBr (fun h => ?_) (fun h => ?_)
    | refine okFn (rFields4_s) rfl (Cos.refl _) ?_
    | refine okFn (rName_s o.topic ho.2.1) rfl (Cos.refl _) ?_
    | refine okFn (rName_s o.group ho.2.2.1) rfl (Cos.refl _) ?_
    | (refine endInt (.inr rfl) rfl ?_; simp_all [opE, kindOk, onlyF, sameOp]; done)
    | (refine endInt (.inr rfl) rfl ?_; simp_all [opE, kindOk, onlyF, sameOp]; intro hr; simp_all; done)
    | (refine endInt (.inr rfl) rfl ?_; simp_all [opE, kindOk, onlyF, sameOp]; omega)
    | (refine endInt (.inr rfl) rfl ?_; simp_all [opE, kindOk, onlyF, sameOp]; intros; omega)
    | (have e : o.records.length = 0 := (by simp at h; omega); have e := List.length_eq_zero_iff.1 e; refine endInt (.inr rfl) rfl ?_; simp_all [opE, kindOk, onlyF, sameOp]; done)
    | (exfalso; simp_all; done)
  have HL : o.records.length ≤ 4194304 := ho.2.2.2.2.1
  refine okLoop (α := Nat) (fun q => ⟨[(7, .int .i64 q), (1, .ptr 0 0)], [.cells 36 (cOp { o with kind := 4 })]⟩) (fun q => q ≤ o.records.length ∧ (o.records.take q).any (fun r => decide (64 < r.length)) = false) (fun q => o.records.length - q) 0 ⟨Nat.zero_le _, by simp⟩ (Sv.mk' [0] rfl ⟨⟨rfl, rfl⟩, trivial⟩ ⟨rfl, rfl, trivial⟩) ?_
  rintro q ⟨hq, he⟩
  repeat'
    (conv => arg 2; whnf)
    first
    | refine okAsk (by kernel_rfl) ?_
    | refine okBrT ?_
    | refine okBrF ?_
    | refine okBr (fun h => ?_) (fun h => ?_)
    | refine okNthMap (l := o.records) (by simp at h; omega) (fun x hx => ?_)
    | refine okWrap (w64 (by simp at h hq; omega) (by have := HL; simp at h hq; omega)) ?_
    | refine okAgain (q + 1) (Sv.mk' [0] rfl ⟨⟨rfl, rfl⟩, trivial⟩ ⟨rfl, rfl, trivial⟩) ⟨by have := (List.getElem?_eq_some_iff.1 hx).1; omega, any_go hx (by simp at h ⊢; omega) he⟩ (by have := (List.getElem?_eq_some_iff.1 hx).1; omega)
    | refine okOut ?_
    | refine okRet ?_
    | (have hL : longF o = true := List.any_eq_true.2 ⟨x, List.mem_of_getElem? hx, by simp at h ⊢; omega⟩; refine endInt (.inr rfl) rfl ?_; clear he; simp_all [opE, kindOk, onlyF, sameOp, longF]; done)
    | (have hL : longF o = false := longF_no he (by simp at *; omega); refine endInt (.inr rfl) rfl ?_; clear he; simp_all [opE, kindOk, onlyF, sameOp, longF]; done)
    | (have hL : longF o = false := longF_no he (by simp at *; omega); refine endInt (.inr rfl) rfl ?_; clear he; simp_all [opE, kindOk, onlyF, sameOp, longF]; omega)
    | (have hL : longF o = false := longF_no he (by simp at *; omega); refine endInt (.inr rfl) rfl ?_; clear he; simp_all [opE, kindOk, onlyF, sameOp, longF]; exact ⟨fun e => by have := List.length_eq_zero_iff.2 e; omega, by omega⟩)
    | (exfalso; clear he; simp_all; done)
theorem rOpCheck9_s [Wd] (o : OpD) (ho : dOp.ok o) (k : Int) (hk : k < 0 ∨ 4 < k) : FnP Tryz.prog 50 [.agg (cOp { o with kind := k })] (.int .i64 (opE { o with kind := k })) := by
  have h60 : opE { o with kind := k } = 60 := by
    unfold opE
    rw [if_pos (.inl (by simp [kindOk]; omega))]
  refine mkS 112 [] Tryz.func50 rfl (by kernel_rfl) ?_
  repeat'
    (conv => arg 2; whnf)
    first
    | refine okAsk (by kernel_rfl) ?_
    | refine okBrT ?_
    | refine okBrF ?_
    | refine okBr (fun h => ?_) (fun h => ?_)
    | refine endInt (.inr rfl) rfl h60.symm
    | (exfalso; simp at *; omega)
    | refine okFn (rFieldsN_s k (by omega) (by omega) (by omega) (by omega)) rfl (Cos.refl _) ?_
    | refine okFn (rName_s o.topic ho.2.1) rfl (Cos.refl _) ?_
    | refine okFn (rName_s o.group ho.2.2.1) rfl (Cos.refl _) ?_
end Go.Proofs.YtbbcepmhkocgbaaGreatDoor

/- The reference's bytes of operations, requests, signatures and batches, over data (printed by gen_bb.py). -/
namespace Go.Proofs.YtbbcepmhkocgbaaGreatDoor
open Go.RowKit
set_option linter.unusedVariables false
set_option maxRecDepth 20000

theorem flat_at {α : Type} {f : α → List UInt8} {l : List α} {q : Nat} {x : α} (h : l[q]? = some x) : (l.take (q + 1)).flatMap f = (l.take q).flatMap f ++ f x := by
  rw [List.take_add_one, h, List.flatMap_append]; simp
theorem byF_l (b : List UInt8) (h : b.length ≤ 4194304) : (byF b).length ≤ b.length + 10 := by
  have := encLe10 b.length (by omega)
  unfold byF
  rw [List.length_append]; omega
theorem opKind {o : OpD} {k : Int} (h : o.kind = k) : { o with kind := k } = o := by subst h; rfl
/-- bullaref06.Check -/
theorem rOpCheck_s [Wd] (o : OpD) (ho : dOp.ok o) : FnP Tryz.prog 50 [.agg (cOp o)] (.int .i64 (opE o)) := by
  by_cases k0 : o.kind = 0
  · have h := rOpCheck0_s o ho; rw [opKind k0] at h; exact h
  by_cases k1 : o.kind = 1
  · have h := rOpCheck1_s o ho; rw [opKind k1] at h; exact h
  by_cases k2 : o.kind = 2
  · have h := rOpCheck2_s o ho; rw [opKind k2] at h; exact h
  by_cases k3 : o.kind = 3
  · have h := rOpCheck3_s o ho; rw [opKind k3] at h; exact h
  by_cases k4 : o.kind = 4
  · have h := rOpCheck4_s o ho; rw [opKind k4] at h; exact h
  have h := rOpCheck9_s o ho o.kind (by omega)
  exact h
/-- an operation's bytes, if it may be -/
def opP (o : OpD) : List UInt8 := if opE o = 0 then opB o else []
theorem rOpPutNo_s [Wd] (bs : List UInt8) (o : OpD) (ho : dOp.ok o) (h0 : ¬ opE o = 0) : FnP Tryz.prog 51 [.list 1 (bs.map cByte), .agg (cOp o)] (.list 1 ((bs ++ opP o).map cByte)) := by
  refine mkS 67 [] Tryz.func51 rfl (by kernel_rfl) ?_
  repeat'
    (conv => arg 2; whnf)
    first
    | refine okAsk (by kernel_rfl) ?_
    | refine okBrT ?_
    | refine okBrF ?_
    | refine okBr (fun h => ?_) (fun h => ?_)
    | refine okFn (rOpCheck_s o ho) rfl (Cos.refl _) ?_
    | (refine endBy (.inr rfl) rfl ?_; simp [opP, h0]; done)
    | (exfalso; simp_all; done)
theorem rOpPut0_s [Wd] (bs : List UInt8) (o : OpD) (ho : dOp.ok { o with kind := 0 }) (h0 : opE { o with kind := 0 } = 0) (hl : bs.length + 200000000 ≤ big) : FnP Tryz.prog 51 [.list 1 (bs.map cByte), .agg (cOp { o with kind := 0 })] (.list 1 ((bs ++ opP { o with kind := 0 }).map cByte)) := by
  have p1 := encI_l10 0
  have p2 := byF_l o.topic ho.2.1
  have p3 := byF_l o.group ho.2.2.1
  have p4 := encI_l10 o.offset
  have p5 := encI_l10 (o.records.length : Int)
  have t1 : o.topic.length ≤ 4194304 := ho.2.1
  have t2 : o.group.length ≤ 4194304 := ho.2.2.1
  have z := opE0 h0
  have HL : o.records.length ≤ 4194304 := ho.2.2.2.2.1
  have e0 : encI 0 = enc 0 := encI_nat (by omega) (by omega)
  have e1 : encI o.offset = enc o.offset.toNat := encI_nat z.2.2.1 (by have := z.2.2.2; simp only at this; omega)
  have e2 : encI (o.records.length : Int) = enc o.records.length := encI_nat (by omega) (by omega)
  refine mkS 67 [] Tryz.func51 rfl (by kernel_rfl) ?_
  repeat'
    (conv => arg 2; whnf)
    first
    | refine okAsk (by kernel_rfl) ?_
    | refine okBrT ?_
    | refine okBrF ?_
    | refine okBr (fun h => ?_) (fun h => ?_)
    | refine okAsk (show o.topic.length ≤ 140737488355328 by omega) ?_
    | refine okAsk (show o.group.length ≤ 140737488355328 by omega) ?_
    | refine okFn (rOpCheck_s { o with kind := 0 } ho) rfl (Cos.refl _) ?_
    | refine okFn (rFieldsN_s 0 (by omega) (by omega) (by omega) (by omega)) rfl (Cos.refl _) ?_
    | refine okRaw ?_
    | refine okFn (rPutNum_s _ (0) (by (try simp only [List.length_append, List.length_nil]); omega)) rfl (Cos.refl _) ?_
    | refine okFn (rPutNum_s _ (o.offset) (by (try simp only [List.length_append, List.length_nil]); omega)) rfl (Cos.refl _) ?_
    | refine okFn (rPutNum_s _ ((o.records.length : Int)) (by (try simp only [List.length_append, List.length_nil]); omega)) rfl (Cos.refl _) ?_
    | refine okFn (rPutNum_s _ ((o.records.map cRec).length : Int) (by (try simp only [List.length_append, List.length_nil]); omega)) rfl (Cos.refl _) ?_
    | refine okFn (rPutBytes_s _ o.topic (t1) (by (try simp only [List.length_append, List.length_nil]); omega)) rfl (Cos.refl _) ?_
    | refine okFn (rPutBytes_s _ o.group (t2) (by (try simp only [List.length_append, List.length_nil]); omega)) rfl (Cos.refl _) ?_
    | (refine endBy (.inr rfl) rfl ?_; rw [opP, if_pos h0]; simp [opB, e0, e1, e2, List.append_assoc]; done)
    | (exfalso; simp [h0] at h; done)
theorem rOpPut1_s [Wd] (bs : List UInt8) (o : OpD) (ho : dOp.ok { o with kind := 1 }) (h0 : opE { o with kind := 1 } = 0) (hl : bs.length + 200000000 ≤ big) : FnP Tryz.prog 51 [.list 1 (bs.map cByte), .agg (cOp { o with kind := 1 })] (.list 1 ((bs ++ opP { o with kind := 1 }).map cByte)) := by
  have p1 := encI_l10 1
  have p2 := byF_l o.topic ho.2.1
  have p3 := byF_l o.group ho.2.2.1
  have p4 := encI_l10 o.offset
  have p5 := encI_l10 (o.records.length : Int)
  have t1 : o.topic.length ≤ 4194304 := ho.2.1
  have t2 : o.group.length ≤ 4194304 := ho.2.2.1
  have z := opE0 h0
  have HL : o.records.length ≤ 4194304 := ho.2.2.2.2.1
  have e0 : encI 1 = enc 1 := encI_nat (by omega) (by omega)
  have e1 : encI o.offset = enc o.offset.toNat := encI_nat z.2.2.1 (by have := z.2.2.2; simp only at this; omega)
  have e2 : encI (o.records.length : Int) = enc o.records.length := encI_nat (by omega) (by omega)
  refine mkS 67 [] Tryz.func51 rfl (by kernel_rfl) ?_
  repeat'
    (conv => arg 2; whnf)
    first
    | refine okAsk (by kernel_rfl) ?_
    | refine okBrT ?_
    | refine okBrF ?_
    | refine okBr (fun h => ?_) (fun h => ?_)
    | refine okAsk (show o.topic.length ≤ 140737488355328 by omega) ?_
    | refine okAsk (show o.group.length ≤ 140737488355328 by omega) ?_
    | refine okFn (rOpCheck_s { o with kind := 1 } ho) rfl (Cos.refl _) ?_
    | refine okFn (rFields1_s) rfl (Cos.refl _) ?_
    | refine okRaw ?_
    | refine okFn (rPutNum_s _ (1) (by (try simp only [List.length_append, List.length_nil]); omega)) rfl (Cos.refl _) ?_
    | refine okFn (rPutNum_s _ (o.offset) (by (try simp only [List.length_append, List.length_nil]); omega)) rfl (Cos.refl _) ?_
    | refine okFn (rPutNum_s _ ((o.records.length : Int)) (by (try simp only [List.length_append, List.length_nil]); omega)) rfl (Cos.refl _) ?_
    | refine okFn (rPutNum_s _ ((o.records.map cRec).length : Int) (by (try simp only [List.length_append, List.length_nil]); omega)) rfl (Cos.refl _) ?_
    | refine okFn (rPutBytes_s _ o.topic (t1) (by (try simp only [List.length_append, List.length_nil]); omega)) rfl (Cos.refl _) ?_
    | refine okFn (rPutBytes_s _ o.group (t2) (by (try simp only [List.length_append, List.length_nil]); omega)) rfl (Cos.refl _) ?_
    | (refine endBy (.inr rfl) rfl ?_; rw [opP, if_pos h0]; simp [opB, e0, e1, e2, List.append_assoc]; done)
    | (exfalso; simp [h0] at h; done)
theorem rOpPut2_s [Wd] (bs : List UInt8) (o : OpD) (ho : dOp.ok { o with kind := 2 }) (h0 : opE { o with kind := 2 } = 0) (hl : bs.length + 200000000 ≤ big) : FnP Tryz.prog 51 [.list 1 (bs.map cByte), .agg (cOp { o with kind := 2 })] (.list 1 ((bs ++ opP { o with kind := 2 }).map cByte)) := by
  have p1 := encI_l10 2
  have p2 := byF_l o.topic ho.2.1
  have p3 := byF_l o.group ho.2.2.1
  have p4 := encI_l10 o.offset
  have p5 := encI_l10 (o.records.length : Int)
  have t1 : o.topic.length ≤ 4194304 := ho.2.1
  have t2 : o.group.length ≤ 4194304 := ho.2.2.1
  have z := opE0 h0
  have HL : o.records.length ≤ 4194304 := ho.2.2.2.2.1
  have e0 : encI 2 = enc 2 := encI_nat (by omega) (by omega)
  have e1 : encI o.offset = enc o.offset.toNat := encI_nat z.2.2.1 (by have := z.2.2.2; simp only at this; omega)
  have e2 : encI (o.records.length : Int) = enc o.records.length := encI_nat (by omega) (by omega)
  refine mkS 67 [] Tryz.func51 rfl (by kernel_rfl) ?_
  repeat'
    (conv => arg 2; whnf)
    first
    | refine okAsk (by kernel_rfl) ?_
    | refine okBrT ?_
    | refine okBrF ?_
    | refine okBr (fun h => ?_) (fun h => ?_)
    | refine okAsk (show o.topic.length ≤ 140737488355328 by omega) ?_
    | refine okAsk (show o.group.length ≤ 140737488355328 by omega) ?_
    | refine okFn (rOpCheck_s { o with kind := 2 } ho) rfl (Cos.refl _) ?_
    | refine okFn (rFields2_s) rfl (Cos.refl _) ?_
    | refine okRaw ?_
    | refine okFn (rPutNum_s _ (2) (by (try simp only [List.length_append, List.length_nil]); omega)) rfl (Cos.refl _) ?_
    | refine okFn (rPutNum_s _ (o.offset) (by (try simp only [List.length_append, List.length_nil]); omega)) rfl (Cos.refl _) ?_
    | refine okFn (rPutNum_s _ ((o.records.length : Int)) (by (try simp only [List.length_append, List.length_nil]); omega)) rfl (Cos.refl _) ?_
    | refine okFn (rPutNum_s _ ((o.records.map cRec).length : Int) (by (try simp only [List.length_append, List.length_nil]); omega)) rfl (Cos.refl _) ?_
    | refine okFn (rPutBytes_s _ o.topic (t1) (by (try simp only [List.length_append, List.length_nil]); omega)) rfl (Cos.refl _) ?_
    | refine okFn (rPutBytes_s _ o.group (t2) (by (try simp only [List.length_append, List.length_nil]); omega)) rfl (Cos.refl _) ?_
    | (refine endBy (.inr rfl) rfl ?_; rw [opP, if_pos h0]; simp [opB, e0, e1, e2, List.append_assoc]; done)
    | (exfalso; simp [h0] at h; done)
  refine okLoop (α := Nat × List UInt8) (fun a => ⟨[(9, .int .i64 a.1), (3, .ptr 0 0), (0, .list 1 (a.2.map cByte))], [.cells 36 (cOp { o with kind := 2 })]⟩) (fun a => a.1 ≤ o.records.length ∧ a.2 = bs ++ encI 2 ++ byF o.topic ++ encI ((o.records.map cRec).length : Int) ++ (o.records.take a.1).flatMap (byF)) (fun a => o.records.length - a.1) (0, bs ++ encI 2 ++ byF o.topic ++ encI ((o.records.map cRec).length : Int)) ⟨Nat.zero_le _, by simp⟩ (Sv.mk' [0] rfl ⟨⟨rfl, rfl⟩, trivial⟩ ⟨rfl, rfl, rfl, trivial⟩) ?_
  rintro ⟨q, b2⟩ ⟨hq, he⟩
  replace hq : q ≤ o.records.length := hq
  replace he : b2 = bs ++ encI 2 ++ byF o.topic ++ encI ((o.records.map cRec).length : Int) ++ (o.records.take q).flatMap (byF) := he
  have hrl : o.records.length ≤ 4 := by
    have := opB_short h0
    apply Classical.byContradiction
    intro hc
    simp [opE] at h0
    omega
  have p6 := flat_len (f := byF) (K := 4194314) (o.records.take q) (fun r hr => by have h1 : r.length ≤ 4194304 := ho.2.2.2.2.2 r (List.mem_of_mem_take hr); have := byF_l r h1; omega)
  have p7 : (o.records.take q).length * 4194314 ≤ 4 * 4194314 := Nat.mul_le_mul_right _ (by rw [List.length_take]; omega)
  have p8 := encI_l10 ((o.records.map cRec).length : Int)
  have hb2 : b2.length + 100000000 ≤ big := by rw [he]; simp only [List.length_append]; omega
  repeat'
    (conv => arg 2; whnf)
    first
    | refine okAsk (by kernel_rfl) ?_
    | refine okBrT ?_
    | refine okBrF ?_
    | refine okBr (fun h => ?_) (fun h => ?_)
    | refine okNthMap (l := o.records) (by simp at h; omega) (fun x hx => ?_)
    | refine okNthAt hx ?_
    | refine okFn (rPutBytes_s b2 x (ho.2.2.2.2.2 x (List.mem_of_getElem? hx)) (by have h1 : x.length ≤ 4194304 := ho.2.2.2.2.2 x (List.mem_of_getElem? hx); rw [List.length_append]; omega)) rfl (Cos.refl _) ?_
    | refine okWrap (w64 (by simp at h hq; omega) (by have := HL; simp at h hq; omega)) ?_
    | refine okAgain (q + 1, b2 ++ byF x) (Sv.mk' [0] rfl ⟨⟨rfl, rfl⟩, trivial⟩ ⟨rfl, rfl, rfl, trivial⟩) ⟨by have := (List.getElem?_eq_some_iff.1 hx).1; show q + 1 ≤ o.records.length; omega, by show b2 ++ byF x = _; rw [flat_at hx, ← List.append_assoc, ← he]⟩ (by have := (List.getElem?_eq_some_iff.1 hx).1; show o.records.length - (q + 1) < o.records.length - q; omega)
    | refine okOut ?_
    | refine okRet ?_
    | (refine endBy (.inr rfl) rfl ?_; rw [he, show o.records.take q = o.records from List.take_of_length_le (by simp at h; omega), opP, if_pos h0]; simp [opB, e0, e1, e2, List.append_assoc]; done)
theorem rOpPut3_s [Wd] (bs : List UInt8) (o : OpD) (ho : dOp.ok { o with kind := 3 }) (h0 : opE { o with kind := 3 } = 0) (hl : bs.length + 200000000 ≤ big) : FnP Tryz.prog 51 [.list 1 (bs.map cByte), .agg (cOp { o with kind := 3 })] (.list 1 ((bs ++ opP { o with kind := 3 }).map cByte)) := by
  have p1 := encI_l10 3
  have p2 := byF_l o.topic ho.2.1
  have p3 := byF_l o.group ho.2.2.1
  have p4 := encI_l10 o.offset
  have p5 := encI_l10 (o.records.length : Int)
  have t1 : o.topic.length ≤ 4194304 := ho.2.1
  have t2 : o.group.length ≤ 4194304 := ho.2.2.1
  have z := opE0 h0
  have HL : o.records.length ≤ 4194304 := ho.2.2.2.2.1
  have e0 : encI 3 = enc 3 := encI_nat (by omega) (by omega)
  have e1 : encI o.offset = enc o.offset.toNat := encI_nat z.2.2.1 (by have := z.2.2.2; simp only at this; omega)
  have e2 : encI (o.records.length : Int) = enc o.records.length := encI_nat (by omega) (by omega)
  refine mkS 67 [] Tryz.func51 rfl (by kernel_rfl) ?_
  repeat'
    (conv => arg 2; whnf)
    first
    | refine okAsk (by kernel_rfl) ?_
    | refine okBrT ?_
    | refine okBrF ?_
    | refine okBr (fun h => ?_) (fun h => ?_)
    | refine okAsk (show o.topic.length ≤ 140737488355328 by omega) ?_
    | refine okAsk (show o.group.length ≤ 140737488355328 by omega) ?_
    | refine okFn (rOpCheck_s { o with kind := 3 } ho) rfl (Cos.refl _) ?_
    | refine okFn (rFields3_s) rfl (Cos.refl _) ?_
    | refine okRaw ?_
    | refine okFn (rPutNum_s _ (3) (by (try simp only [List.length_append, List.length_nil]); omega)) rfl (Cos.refl _) ?_
    | refine okFn (rPutNum_s _ (o.offset) (by (try simp only [List.length_append, List.length_nil]); omega)) rfl (Cos.refl _) ?_
    | refine okFn (rPutNum_s _ ((o.records.length : Int)) (by (try simp only [List.length_append, List.length_nil]); omega)) rfl (Cos.refl _) ?_
    | refine okFn (rPutNum_s _ ((o.records.map cRec).length : Int) (by (try simp only [List.length_append, List.length_nil]); omega)) rfl (Cos.refl _) ?_
    | refine okFn (rPutBytes_s _ o.topic (t1) (by (try simp only [List.length_append, List.length_nil]); omega)) rfl (Cos.refl _) ?_
    | refine okFn (rPutBytes_s _ o.group (t2) (by (try simp only [List.length_append, List.length_nil]); omega)) rfl (Cos.refl _) ?_
    | (refine endBy (.inr rfl) rfl ?_; rw [opP, if_pos h0]; simp [opB, e0, e1, e2, List.append_assoc]; done)
    | (exfalso; simp [h0] at h; done)
theorem rOpPut4_s [Wd] (bs : List UInt8) (o : OpD) (ho : dOp.ok { o with kind := 4 }) (h0 : opE { o with kind := 4 } = 0) (hl : bs.length + 200000000 ≤ big) : FnP Tryz.prog 51 [.list 1 (bs.map cByte), .agg (cOp { o with kind := 4 })] (.list 1 ((bs ++ opP { o with kind := 4 }).map cByte)) := by
  have p1 := encI_l10 4
  have p2 := byF_l o.topic ho.2.1
  have p3 := byF_l o.group ho.2.2.1
  have p4 := encI_l10 o.offset
  have p5 := encI_l10 (o.records.length : Int)
  have t1 : o.topic.length ≤ 4194304 := ho.2.1
  have t2 : o.group.length ≤ 4194304 := ho.2.2.1
  have z := opE0 h0
  have HL : o.records.length ≤ 4194304 := ho.2.2.2.2.1
  have e0 : encI 4 = enc 4 := encI_nat (by omega) (by omega)
  have e1 : encI o.offset = enc o.offset.toNat := encI_nat z.2.2.1 (by have := z.2.2.2; simp only at this; omega)
  have e2 : encI (o.records.length : Int) = enc o.records.length := encI_nat (by omega) (by omega)
  refine mkS 67 [] Tryz.func51 rfl (by kernel_rfl) ?_
  repeat'
    (conv => arg 2; whnf)
    first
    | refine okAsk (by kernel_rfl) ?_
    | refine okBrT ?_
    | refine okBrF ?_
    | refine okBr (fun h => ?_) (fun h => ?_)
    | refine okAsk (show o.topic.length ≤ 140737488355328 by omega) ?_
    | refine okAsk (show o.group.length ≤ 140737488355328 by omega) ?_
    | refine okFn (rOpCheck_s { o with kind := 4 } ho) rfl (Cos.refl _) ?_
    | refine okFn (rFields4_s) rfl (Cos.refl _) ?_
    | refine okRaw ?_
    | refine okFn (rPutNum_s _ (4) (by (try simp only [List.length_append, List.length_nil]); omega)) rfl (Cos.refl _) ?_
    | refine okFn (rPutNum_s _ (o.offset) (by (try simp only [List.length_append, List.length_nil]); omega)) rfl (Cos.refl _) ?_
    | refine okFn (rPutNum_s _ ((o.records.length : Int)) (by (try simp only [List.length_append, List.length_nil]); omega)) rfl (Cos.refl _) ?_
    | refine okFn (rPutNum_s _ ((o.records.map cRec).length : Int) (by (try simp only [List.length_append, List.length_nil]); omega)) rfl (Cos.refl _) ?_
    | refine okFn (rPutBytes_s _ o.topic (t1) (by (try simp only [List.length_append, List.length_nil]); omega)) rfl (Cos.refl _) ?_
    | refine okFn (rPutBytes_s _ o.group (t2) (by (try simp only [List.length_append, List.length_nil]); omega)) rfl (Cos.refl _) ?_
    | (refine endBy (.inr rfl) rfl ?_; rw [opP, if_pos h0]; simp [opB, e0, e1, e2, List.append_assoc]; done)
    | (exfalso; simp [h0] at h; done)
theorem rOpPut_s [Wd] (bs : List UInt8) (o : OpD) (ho : dOp.ok o) (hl : bs.length + 200000000 ≤ big) : FnP Tryz.prog 51 [.list 1 (bs.map cByte), .agg (cOp o)] (.list 1 ((bs ++ opP o).map cByte)) := by
  by_cases h0 : opE o = 0
  · have hk := (opE0 h0).1
    by_cases k0 : o.kind = 0
    · have h := rOpPut0_s bs o (by rw [opKind k0]; exact ho) (by rw [opKind k0]; exact h0) hl; rw [opKind k0] at h; exact h
    by_cases k1 : o.kind = 1
    · have h := rOpPut1_s bs o (by rw [opKind k1]; exact ho) (by rw [opKind k1]; exact h0) hl; rw [opKind k1] at h; exact h
    by_cases k2 : o.kind = 2
    · have h := rOpPut2_s bs o (by rw [opKind k2]; exact ho) (by rw [opKind k2]; exact h0) hl; rw [opKind k2] at h; exact h
    by_cases k3 : o.kind = 3
    · have h := rOpPut3_s bs o (by rw [opKind k3]; exact ho) (by rw [opKind k3]; exact h0) hl; rw [opKind k3] at h; exact h
    by_cases k4 : o.kind = 4
    · have h := rOpPut4_s bs o (by rw [opKind k4]; exact ho) (by rw [opKind k4]; exact h0) hl; rw [opKind k4] at h; exact h
    omega
  · exact rOpPutNo_s bs o ho h0
theorem rOpBytes_s [Wd] (o : OpD) (ho : dOp.ok o) : FnP Tryz.prog 35 [.agg (cOp o)] (if opE o = 0 then .tup [.list 1 ((opB o).map cByte), .int .i64 0] else .tup [.nils, .int .i64 (opE o)]) := by
  by_cases h0 : opE o = 0
  · rw [if_pos h0]
    refine mkS 12 [] Tryz.func35 rfl (by kernel_rfl) ?_
    repeat'
      (conv => arg 2; whnf)
      first
      | refine okAsk (by kernel_rfl) ?_
      | refine okBrT ?_
      | refine okBrF ?_
      | refine okBr (fun h => ?_) (fun h => ?_)
      | refine okFn (rOpCheck_s o ho) rfl (Cos.refl _) ?_
      | refine okFn (rOpPut_s [] o ho (by simp [big])) rfl (Cos.cons (Co.nil _) (.refl _)) ?_
      | (refine endBy2 (.inr rfl) rfl ?_ rfl; simp [opP, h0]; done)
      | (exfalso; simp_all; done)
  · rw [if_neg h0]
    refine mkS 12 [] Tryz.func35 rfl (by kernel_rfl) ?_
    repeat'
      (conv => arg 2; whnf)
      first
      | refine okAsk (by kernel_rfl) ?_
      | refine okBrT ?_
      | refine okBrF ?_
      | refine okBr (fun h => ?_) (fun h => ?_)
      | refine okFn (rOpCheck_s o ho) rfl (Cos.refl _) ?_
      | refine endFn0 (.inr rfl) rfl (.refl _) rfl
      | (exfalso; simp_all; done)
end Go.Proofs.YtbbcepmhkocgbaaGreatDoor

