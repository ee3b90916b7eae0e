/- Lemmas and contracts, part 19. -/
import Derived.Test.YteaggenihhaajaaGreatZg18
import Derived.Deep.QuietTactic
import Derived.BigQuiet
/- The reference's rune1: the rune with which a text begins. -/
namespace Go.Proofs.YteaggenihhaajaaGreat
open Go.RowKit Go.Deep
set_option linter.unusedVariables false

theorem bstrAt (s : List UInt8) (k : Nat) (x : UInt8) (hx : s[k]? = some x) : ∀ h : k < (bstr s).size, (bstr s)[k]'h = x := by
  intro h
  obtain ⟨h1, h2⟩ := List.getElem?_eq_some_iff.1 hx
  rw [← h2]
  rfl
def atN (l : List UInt8) (i : Nat) : Nat := (l.getD i 0).toNat
/-- the rune with which a text begins, and its bytes -/
def r1 (l : List UInt8) : Nat × Nat := rune1N l.length (atN l 0) (atN l 1) (atN l 2) (atN l 3)
theorem atN_lt (l : List UInt8) (i : Nat) : atN l i < 256 := UInt8.toNat_lt _
theorem at_get {l : List UInt8} {i : Nat} (h : i < l.length) : ∃ x, l[i]? = some x ∧ x.toNat = atN l i := ⟨_, List.getElem?_eq_getElem h, by simp [atN, h]⟩
theorem decode_r1 (s : List UInt8) (pos : Nat) (h : pos < s.length) : Utf8.decode (bstr s) pos = if (r1 (s.drop pos)).2 = 0 then (65533, 1) else r1 (s.drop pos) := by
  have hg : ∀ i, ((bstr s).get! (pos + i)).toNat = atN (s.drop pos) i := by
    intro i
    simp only [atN, bstr, ByteArray.get!, List.getD, List.getElem?_drop]
    rw [getElem!_def]
    simp only [List.getElem?_toArray]
    cases s[pos + i]? <;> rfl
  rw [Lib.decode_at, bstr_size]
  have h0 := hg 0
  rw [Nat.add_zero] at h0
  rw [h0, hg 1, hg 2, hg 3, decode_rune1 _ _ _ _ _ (by omega) (atN_lt _ _) (atN_lt _ _) (atN_lt _ _) (atN_lt _ _)]
  unfold r1
  rw [List.length_drop]
/-- what the loop over the following bytes has -/
def accN (a : Nat) (cb : Nat → Nat) : Nat → Nat
  | 0 => a
  | q + 1 => if q = 0 then a else accN a cb q * 64 + cb q % 64
theorem acc_1 (a : Nat) (cb : Nat → Nat) : accN a cb 1 = a := by simp [accN]
theorem acc_s (a : Nat) (cb : Nat → Nat) (q : Nat) (h : 1 ≤ q) : accN a cb (q + 1) = accN a cb q * 64 + cb q % 64 := by
  rw [accN, if_neg (by omega)]
theorem acc_le (a : Nat) (cb : Nat → Nat) (q n : Nat) (hn : n ≤ 4) (ha : (n = 2 ∧ a < 32) ∨ (n = 3 ∧ a < 16) ∨ (n = 4 ∧ a < 8)) (h1 : 1 ≤ q) (h : q < n) : accN a cb q ≤ 32767 := by
  have hq : q = 1 ∨ q = 2 ∨ q = 3 := by omega
  rcases hq with rfl | rfl | rfl
  · rw [acc_1]; omega
  · rw [acc_s _ _ 1 (by omega), acc_1]; omega
  · rw [acc_s _ _ 2 (by omega), acc_s _ _ 1 (by omega), acc_1]; omega
def maskN (n b : Nat) : Nat := if n = 2 then b % 32 else if n = 3 then b % 16 else b % 8
theorem r1_none {l : List UInt8} (h : sizeN (atN l 0) = 0 ∨ l.length < sizeN (atN l 0)) : r1 l = (0, 0) := by unfold r1 rune1N; rw [if_pos h]
theorem r1_one {l : List UInt8} (h : sizeN (atN l 0) = 1) (hl : 1 ≤ l.length) : r1 l = (atN l 0, 1) := by unfold r1 rune1N; rw [if_neg (by omega), if_pos h]
theorem r1_fit {l : List UInt8} {n : Nat} (h : sizeN (atN l 0) = n) (hn : 2 ≤ n ∧ n ≤ 4) (hl : n ≤ l.length) (hc : ∀ j, 1 ≤ j → j < n → contN (atN l j) = true) : r1 l = fitN n (accN (maskN n (atN l 0)) (atN l) n) := by
  unfold r1 rune1N
  rw [h, if_neg (by omega), if_neg (by omega)]
  have : n = 2 ∨ n = 3 ∨ n = 4 := by omega
  rcases this with rfl | rfl | rfl
  · rw [if_pos rfl, hc 1 (by omega) (by omega)]
    simp [acc_s, acc_1, maskN]
  · rw [if_neg (by omega), if_pos rfl, hc 1 (by omega) (by omega), hc 2 (by omega) (by omega)]
    simp [acc_s, acc_1, maskN]
  · rw [if_neg (by omega), if_neg (by omega), hc 1 (by omega) (by omega), hc 2 (by omega) (by omega), hc 3 (by omega) (by omega)]
    simp [acc_s, acc_1, maskN]
theorem r1_bad {l : List UInt8} {n q : Nat} (h : sizeN (atN l 0) = n) (hn : 2 ≤ n ∧ n ≤ 4) (hl : n ≤ l.length) (hq : 1 ≤ q ∧ q < n) (hc : contN (atN l q) = false) : r1 l = (0, 0) := by
  unfold r1 rune1N
  rw [h, if_neg (by omega), if_neg (by omega)]
  have : n = 2 ∨ n = 3 ∨ n = 4 := by omega
  have hq' : q = 1 ∨ q = 2 ∨ q = 3 := by omega
  rcases this with rfl | rfl | rfl <;> rcases hq' with rfl | rfl | rfl <;> first | omega | simp [hc]
theorem size_le (k : Nat) : sizeN k ≤ 4 := by unfold sizeN; (repeat' split) <;> omega
theorem and_mask (y : Nat) (h : y < 256) : bits BinOp.and IntKind.i64 (y : Int) 31 = ((y % 32 : Nat) : Int) ∧ bits BinOp.and IntKind.i64 (y : Int) 15 = ((y % 16 : Nat) : Int) ∧ bits BinOp.and IntKind.i64 (y : Int) 7 = ((y % 8 : Nat) : Int) := by
  have h' : ∀ k : Fin 256, bits BinOp.and IntKind.i64 ((k.val : Int)) 31 = ((k.val % 32 : Nat) : Int) ∧ bits BinOp.and IntKind.i64 ((k.val : Int)) 15 = ((k.val % 16 : Nat) : Int) ∧ bits BinOp.and IntKind.i64 ((k.val : Int)) 7 = ((k.val % 8 : Nat) : Int) := by decide +kernel
  exact h' ⟨y, h⟩
theorem Below.drewN' (w : World) (n : Nat) : B w (w.drewN n) := ⟨rfl, rfl, rfl, Nat.le_refl _, fun _ _ => rfl⟩
/-- what rune1 answers -/
def R1Post (w : World) (l : List UInt8) (e : Ending) (w' : World) : Prop := e = .returned (.tuple #[.int .i64 ((r1 l).1 : Int), .int .i64 ((r1 l).2 : Int)]) ∧ B w w'
set_option maxRecDepth 20000 in
set_option maxHeartbeats 4000000 in
theorem rRune1_none (w : World) (l : List UInt8) (h0 : 1 ≤ l.length) (hl : l.length ≤ 4194304) (hn : sizeN (atN l 0) = 0 ∨ l.length < sizeN (atN l 0)) : Calls Tryz.prog 336 #[.string (bstr l)] w (R1Post w l) := by
  have HR := Lib.hid (r1_none hn)
  obtain ⟨x0, hx0, hxa⟩ := at_get h0
  have hsz := bstr_size l
  have i0 := bstrAt l 0 x0 hx0
  have HSZ := Lib.hid (fun w' => (show Calls Tryz.prog 337 #[.int .u8 (x0.toNat : Int)] w' fun e w2 => e = .returned (.int .i64 (sizeN (atN l 0) : Int)) ∧ w' = w2 from by rw [← hxa]; exact rSize_c w' x0.toNat x0.toNat_lt))
  have HX := Lib.hid hxa
  generalize bstr l = b at *
  generalize sizeN (atN l 0) = n at *
  obtain ⟨m, hm⟩ : ∃ m, l.length = m := ⟨_, rfl⟩
  have HM := Lib.hid hm
  rw [hm] at hsz h0 hl hn
  have g0 : 0 < m := by omega
  clear hm hx0 hxa
  by_cases e0 : n = 0
  · subst e0
    clear hn
    go_enter Tryz.func336, Tryz.ntmps336
    go_wp2_with (first
      | (go_at_call 337; (with_reducible refine callsM (HSZ.out _) ?_); rintro e w1 ⟨rfl, rfl⟩))
    go_ret2
    refine ⟨?_, Below.refl _ _⟩
    rw [HR.out]; rfl
  · have g1 : ((n : Int) == 0) = false := by simp; omega
    have g2 : (m : Int) < n := by omega
    clear e0 hn
    go_enter Tryz.func336, Tryz.ntmps336
    go_wp2_with (first
      | (go_at_call 337; (with_reducible refine callsM (HSZ.out _) ?_); rintro e w1 ⟨rfl, rfl⟩))
    go_ret2
    refine ⟨?_, Below.refl _ _⟩
    rw [HR.out]; rfl
set_option maxRecDepth 20000 in
set_option maxHeartbeats 4000000 in
theorem rRune1_one (w : World) (l : List UInt8) (h0 : 1 ≤ l.length) (hl : l.length ≤ 4194304) (hn : sizeN (atN l 0) = 1) : Calls Tryz.prog 336 #[.string (bstr l)] w (R1Post w l) := by
  have HR := Lib.hid (r1_one hn h0)
  obtain ⟨x0, hx0, hxa⟩ := at_get h0
  have hsz := bstr_size l
  have i0 := bstrAt l 0 x0 hx0
  have HSZ := Lib.hid (fun w' => (show Calls Tryz.prog 337 #[.int .u8 (x0.toNat : Int)] w' fun e w2 => e = .returned (.int .i64 1) ∧ w' = w2 from by have := rSize_c w' x0.toNat x0.toNat_lt; rw [hxa, hn] at this; rw [hxa]; exact this))
  have HX := Lib.hid hxa
  generalize bstr l = b at *
  obtain ⟨m, hm⟩ : ∃ m, l.length = m := ⟨_, rfl⟩
  have HM := Lib.hid hm
  rw [hm] at hsz h0 hl
  have g0 : 0 < m := by omega
  have g2 : ¬ (m : Int) < 1 := by omega
  have g3 := x0.toNat_lt
  clear hm hx0 hxa hn
  go_enter Tryz.func336, Tryz.ntmps336
  go_wp2_with (first
    | (go_at_call 337; (with_reducible refine callsM (HSZ.out _) ?_); rintro e w1 ⟨rfl, rfl⟩))
  go_ret2
  refine ⟨?_, Below.refl _ _⟩
  rw [HR.out, HX.out]; rfl
set_option maxRecDepth 20000 in
set_option maxHeartbeats 8000000 in
theorem rRune1_2 (w : World) (l : List UInt8) (hn : sizeN (atN l 0) = 2) (h0 : 2 ≤ l.length) (hl : l.length ≤ 4194304) : Calls Tryz.prog 336 #[.string (bstr l)] w (R1Post w l) := by
  have HF := Lib.hid (fun hc => r1_fit hn (by omega) h0 hc)
  have HB := Lib.hid (fun q hq hc => r1_bad (q := q) hn (by omega) h0 hq hc)
  obtain ⟨x0, hx0, hxa⟩ := at_get (show 0 < l.length by omega)
  have hsz := bstr_size l
  have i0 := bstrAt l 0 x0 hx0
  have HI := Lib.hid (bstrAt l)
  have HG := Lib.hid (fun i (h : i < l.length) => at_get h)
  have HSZ := Lib.hid (fun w' => (show Calls Tryz.prog 337 #[.int .u8 (x0.toNat : Int)] w' fun e w2 => e = .returned (.int .i64 2) ∧ w' = w2 from by have := rSize_c w' x0.toNat x0.toNat_lt; rw [hxa, hn] at this; rw [hxa]; exact this))
  have HX := Lib.hid hxa
  generalize bstr l = b at *
  obtain ⟨m, hm⟩ : ∃ m, l.length = m := ⟨_, rfl⟩
  have HM := Lib.hid hm
  rw [hm] at hsz h0 hl
  have g0 : 0 < m := by omega
  have g3 := x0.toNat_lt
  have g2 : ¬ (m : Int) < 2 := by omega
  have HK := Lib.hid (show maskN 2 (atN l 0) = x0.toNat % 32 from by rw [hxa]; rfl)
  obtain ⟨a, ha⟩ : ∃ a, x0.toNat % 32 = a := ⟨_, rfl⟩
  have HA := Lib.hid ha
  have q1 : bits BinOp.and IntKind.i64 (x0.toNat : Int) 31 = (a : Int) := by have := and_mask x0.toNat g3; rw [this.1, ha]
  have HAL := Lib.hid (show a < 32 by omega)
  clear hm hx0 hxa hn ha
  go_enter Tryz.func336, Tryz.ntmps336
  go_wp2_with (first
    | (go_at_call 337; (with_reducible refine callsM (HSZ.out _) ?_); rintro e w1 ⟨rfl, rfl⟩))
  go_quiet (fail)
  go_wp2_with fail
  clear q1 i0
  have HBW := Lib.hid (Below.drewN' w nq)
  generalize World.drewN w nq = w1 at *
  go_loop [5, 6] (fun v i => ∃ (q z : Nat), 1 ≤ q ∧ q ≤ 2 ∧ i = .int .i64 (q : Int) ∧ v = .int .i64 (z : Int) ∧ Hid (accN a (atN l) q = z) ∧ Hid (∀ j, 1 ≤ j → j < q → contN (atN l j) = true)) (fun _ i => 2 - (intOf i).toNat)
  case atStart => exact ⟨1, a, by omega, by omega, rfl, rfl, Lib.hid (acc_1 _ _), fun j h1 h2 => by omega⟩
  case round =>
    obtain ⟨q, z, hq1, hq2, rfl, rfl, HZ, HP⟩ := hrel
    by_cases hlt : q < 2
    · obtain ⟨x, hx, hxa⟩ := HG.out q (by have := HM.out; omega)
      have i1 := HI.out q x hx
      have hz : z ≤ 32767 := by rw [← HZ.out]; exact acc_le _ _ _ 2 (by omega) (by have := HAL.out; omega) hq1 hlt
      have hqi : (q : Int) < 2 := by omega
      have hqm : q < m := by omega
      have g4 := x.toNat_lt
      have HXA := Lib.hid hxa
      by_cases hc : 128 ≤ x.toNat ∧ x.toNat < 192
      · have c1 : ¬ (x.toNat : Int) < 128 := by omega
        have c2 : ¬ (192 : Int) ≤ x.toNat := by omega
        have HC := Lib.hid (show contN (atN l q) = true from by rw [← hxa]; exact decide_eq_true hc)
        clear hc hx hxa
        go_wp2_with fail
        go_round
        case rel =>
          refine ⟨q + 1, z * 64 + x.toNat % 64, by omega, by omega, by go_num, by go_num, ?_, ?_⟩
          · show accN a (atN l) (q + 1) = _
            rw [acc_s _ _ _ hq1, HZ.out, HXA.out]
          · intro j h1 h2
            by_cases e : j = q
            · rw [e]; exact HC.out
            · exact HP.out j h1 (by omega)
        case measure => simp [intOf]; omega
      · have HR := Lib.hid (HB.out q ⟨hq1, hlt⟩ (by rw [← hxa]; exact decide_eq_false hc))
        have hc2 : x.toNat < 128 ∨ (128 ≤ x.toNat ∧ 192 ≤ x.toNat) := by omega
        clear hc hx hxa
        rcases hc2 with c1 | ⟨c1, c2⟩
        · have c3 : (x.toNat : Int) < 128 := by omega
          clear c1
          go_wp2_with fail
          go_ret2
          refine ⟨?_, HBW.out⟩
          rw [HR.out]; rfl
        · have c3 : ¬ (x.toNat : Int) < 128 := by omega
          have c4 : (192 : Int) ≤ x.toNat := by omega
          clear c1 c2
          go_wp2_with fail
          go_ret2
          refine ⟨?_, HBW.out⟩
          rw [HR.out]; rfl
    · obtain rfl : q = 2 := by omega
      have HR := Lib.hid (show r1 l = fitN 2 z from by rw [HF.out HP.out, HK.out, HA.out, HZ.out])
      have hqi : ¬ (((2 : Nat) : Int) < 2) := by omega
      go_wp2_with fail
      all_goals
        go_ret2
        refine ⟨?_, B.trans HBW.out (B.alloc' _ _)⟩
        rw [HR.out]
        unfold fitN leastN
        first
          | (rw [if_pos (by simp; omega)]; rfl)
          | (rw [if_neg (by simp; omega)]; rfl)
set_option maxRecDepth 20000 in
set_option maxHeartbeats 8000000 in
theorem rRune1_3 (w : World) (l : List UInt8) (hn : sizeN (atN l 0) = 3) (h0 : 3 ≤ l.length) (hl : l.length ≤ 4194304) : Calls Tryz.prog 336 #[.string (bstr l)] w (R1Post w l) := by
  have HF := Lib.hid (fun hc => r1_fit hn (by omega) h0 hc)
  have HB := Lib.hid (fun q hq hc => r1_bad (q := q) hn (by omega) h0 hq hc)
  obtain ⟨x0, hx0, hxa⟩ := at_get (show 0 < l.length by omega)
  have hsz := bstr_size l
  have i0 := bstrAt l 0 x0 hx0
  have HI := Lib.hid (bstrAt l)
  have HG := Lib.hid (fun i (h : i < l.length) => at_get h)
  have HSZ := Lib.hid (fun w' => (show Calls Tryz.prog 337 #[.int .u8 (x0.toNat : Int)] w' fun e w2 => e = .returned (.int .i64 3) ∧ w' = w2 from by have := rSize_c w' x0.toNat x0.toNat_lt; rw [hxa, hn] at this; rw [hxa]; exact this))
  have HX := Lib.hid hxa
  generalize bstr l = b at *
  obtain ⟨m, hm⟩ : ∃ m, l.length = m := ⟨_, rfl⟩
  have HM := Lib.hid hm
  rw [hm] at hsz h0 hl
  have g0 : 0 < m := by omega
  have g3 := x0.toNat_lt
  have g2 : ¬ (m : Int) < 3 := by omega
  have HK := Lib.hid (show maskN 3 (atN l 0) = x0.toNat % 16 from by rw [hxa]; rfl)
  obtain ⟨a, ha⟩ : ∃ a, x0.toNat % 16 = a := ⟨_, rfl⟩
  have HA := Lib.hid ha
  have q1 : bits BinOp.and IntKind.i64 (x0.toNat : Int) 15 = (a : Int) := by have := and_mask x0.toNat g3; rw [this.2.1, ha]
  have HAL := Lib.hid (show a < 16 by omega)
  clear hm hx0 hxa hn ha
  go_enter Tryz.func336, Tryz.ntmps336
  go_wp2_with (first
    | (go_at_call 337; (with_reducible refine callsM (HSZ.out _) ?_); rintro e w1 ⟨rfl, rfl⟩))
  go_quiet (fail)
  go_wp2_with fail
  clear q1 i0
  have HBW := Lib.hid (Below.drewN' w nq)
  generalize World.drewN w nq = w1 at *
  go_loop [5, 6] (fun v i => ∃ (q z : Nat), 1 ≤ q ∧ q ≤ 3 ∧ i = .int .i64 (q : Int) ∧ v = .int .i64 (z : Int) ∧ Hid (accN a (atN l) q = z) ∧ Hid (∀ j, 1 ≤ j → j < q → contN (atN l j) = true)) (fun _ i => 3 - (intOf i).toNat)
  case atStart => exact ⟨1, a, by omega, by omega, rfl, rfl, Lib.hid (acc_1 _ _), fun j h1 h2 => by omega⟩
  case round =>
    obtain ⟨q, z, hq1, hq2, rfl, rfl, HZ, HP⟩ := hrel
    by_cases hlt : q < 3
    · obtain ⟨x, hx, hxa⟩ := HG.out q (by have := HM.out; omega)
      have i1 := HI.out q x hx
      have hz : z ≤ 32767 := by rw [← HZ.out]; exact acc_le _ _ _ 3 (by omega) (by have := HAL.out; omega) hq1 hlt
      have hqi : (q : Int) < 3 := by omega
      have hqm : q < m := by omega
      have g4 := x.toNat_lt
      have HXA := Lib.hid hxa
      by_cases hc : 128 ≤ x.toNat ∧ x.toNat < 192
      · have c1 : ¬ (x.toNat : Int) < 128 := by omega
        have c2 : ¬ (192 : Int) ≤ x.toNat := by omega
        have HC := Lib.hid (show contN (atN l q) = true from by rw [← hxa]; exact decide_eq_true hc)
        clear hc hx hxa
        go_wp2_with fail
        go_round
        case rel =>
          refine ⟨q + 1, z * 64 + x.toNat % 64, by omega, by omega, by go_num, by go_num, ?_, ?_⟩
          · show accN a (atN l) (q + 1) = _
            rw [acc_s _ _ _ hq1, HZ.out, HXA.out]
          · intro j h1 h2
            by_cases e : j = q
            · rw [e]; exact HC.out
            · exact HP.out j h1 (by omega)
        case measure => simp [intOf]; omega
      · have HR := Lib.hid (HB.out q ⟨hq1, hlt⟩ (by rw [← hxa]; exact decide_eq_false hc))
        have hc2 : x.toNat < 128 ∨ (128 ≤ x.toNat ∧ 192 ≤ x.toNat) := by omega
        clear hc hx hxa
        rcases hc2 with c1 | ⟨c1, c2⟩
        · have c3 : (x.toNat : Int) < 128 := by omega
          clear c1
          go_wp2_with fail
          go_ret2
          refine ⟨?_, HBW.out⟩
          rw [HR.out]; rfl
        · have c3 : ¬ (x.toNat : Int) < 128 := by omega
          have c4 : (192 : Int) ≤ x.toNat := by omega
          clear c1 c2
          go_wp2_with fail
          go_ret2
          refine ⟨?_, HBW.out⟩
          rw [HR.out]; rfl
    · obtain rfl : q = 3 := by omega
      have HR := Lib.hid (show r1 l = fitN 3 z from by rw [HF.out HP.out, HK.out, HA.out, HZ.out])
      have hqi : ¬ (((3 : Nat) : Int) < 3) := by omega
      go_wp2_with fail
      all_goals
        go_ret2
        refine ⟨?_, B.trans HBW.out (B.alloc' _ _)⟩
        rw [HR.out]
        unfold fitN leastN
        first
          | (rw [if_pos (by simp; omega)]; rfl)
          | (rw [if_neg (by simp; omega)]; rfl)
set_option maxRecDepth 20000 in
set_option maxHeartbeats 8000000 in
theorem rRune1_4 (w : World) (l : List UInt8) (hn : sizeN (atN l 0) = 4) (h0 : 4 ≤ l.length) (hl : l.length ≤ 4194304) : Calls Tryz.prog 336 #[.string (bstr l)] w (R1Post w l) := by
  have HF := Lib.hid (fun hc => r1_fit hn (by omega) h0 hc)
  have HB := Lib.hid (fun q hq hc => r1_bad (q := q) hn (by omega) h0 hq hc)
  obtain ⟨x0, hx0, hxa⟩ := at_get (show 0 < l.length by omega)
  have hsz := bstr_size l
  have i0 := bstrAt l 0 x0 hx0
  have HI := Lib.hid (bstrAt l)
  have HG := Lib.hid (fun i (h : i < l.length) => at_get h)
  have HSZ := Lib.hid (fun w' => (show Calls Tryz.prog 337 #[.int .u8 (x0.toNat : Int)] w' fun e w2 => e = .returned (.int .i64 4) ∧ w' = w2 from by have := rSize_c w' x0.toNat x0.toNat_lt; rw [hxa, hn] at this; rw [hxa]; exact this))
  have HX := Lib.hid hxa
  generalize bstr l = b at *
  obtain ⟨m, hm⟩ : ∃ m, l.length = m := ⟨_, rfl⟩
  have HM := Lib.hid hm
  rw [hm] at hsz h0 hl
  have g0 : 0 < m := by omega
  have g3 := x0.toNat_lt
  have g2 : ¬ (m : Int) < 4 := by omega
  have HK := Lib.hid (show maskN 4 (atN l 0) = x0.toNat % 8 from by rw [hxa]; rfl)
  obtain ⟨a, ha⟩ : ∃ a, x0.toNat % 8 = a := ⟨_, rfl⟩
  have HA := Lib.hid ha
  have q1 : bits BinOp.and IntKind.i64 (x0.toNat : Int) 7 = (a : Int) := by have := and_mask x0.toNat g3; rw [this.2.2, ha]
  have HAL := Lib.hid (show a < 8 by omega)
  clear hm hx0 hxa hn ha
  go_enter Tryz.func336, Tryz.ntmps336
  go_wp2_with (first
    | (go_at_call 337; (with_reducible refine callsM (HSZ.out _) ?_); rintro e w1 ⟨rfl, rfl⟩))
  go_quiet (fail)
  go_wp2_with fail
  clear q1 i0
  have HBW := Lib.hid (Below.drewN' w nq)
  generalize World.drewN w nq = w1 at *
  go_loop [5, 6] (fun v i => ∃ (q z : Nat), 1 ≤ q ∧ q ≤ 4 ∧ i = .int .i64 (q : Int) ∧ v = .int .i64 (z : Int) ∧ Hid (accN a (atN l) q = z) ∧ Hid (∀ j, 1 ≤ j → j < q → contN (atN l j) = true)) (fun _ i => 4 - (intOf i).toNat)
  case atStart => exact ⟨1, a, by omega, by omega, rfl, rfl, Lib.hid (acc_1 _ _), fun j h1 h2 => by omega⟩
  case round =>
    obtain ⟨q, z, hq1, hq2, rfl, rfl, HZ, HP⟩ := hrel
    by_cases hlt : q < 4
    · obtain ⟨x, hx, hxa⟩ := HG.out q (by have := HM.out; omega)
      have i1 := HI.out q x hx
      have hz : z ≤ 32767 := by rw [← HZ.out]; exact acc_le _ _ _ 4 (by omega) (by have := HAL.out; omega) hq1 hlt
      have hqi : (q : Int) < 4 := by omega
      have hqm : q < m := by omega
      have g4 := x.toNat_lt
      have HXA := Lib.hid hxa
      by_cases hc : 128 ≤ x.toNat ∧ x.toNat < 192
      · have c1 : ¬ (x.toNat : Int) < 128 := by omega
        have c2 : ¬ (192 : Int) ≤ x.toNat := by omega
        have HC := Lib.hid (show contN (atN l q) = true from by rw [← hxa]; exact decide_eq_true hc)
        clear hc hx hxa
        go_wp2_with fail
        go_round
        case rel =>
          refine ⟨q + 1, z * 64 + x.toNat % 64, by omega, by omega, by go_num, by go_num, ?_, ?_⟩
          · show accN a (atN l) (q + 1) = _
            rw [acc_s _ _ _ hq1, HZ.out, HXA.out]
          · intro j h1 h2
            by_cases e : j = q
            · rw [e]; exact HC.out
            · exact HP.out j h1 (by omega)
        case measure => simp [intOf]; omega
      · have HR := Lib.hid (HB.out q ⟨hq1, hlt⟩ (by rw [← hxa]; exact decide_eq_false hc))
        have hc2 : x.toNat < 128 ∨ (128 ≤ x.toNat ∧ 192 ≤ x.toNat) := by omega
        clear hc hx hxa
        rcases hc2 with c1 | ⟨c1, c2⟩
        · have c3 : (x.toNat : Int) < 128 := by omega
          clear c1
          go_wp2_with fail
          go_ret2
          refine ⟨?_, HBW.out⟩
          rw [HR.out]; rfl
        · have c3 : ¬ (x.toNat : Int) < 128 := by omega
          have c4 : (192 : Int) ≤ x.toNat := by omega
          clear c1 c2
          go_wp2_with fail
          go_ret2
          refine ⟨?_, HBW.out⟩
          rw [HR.out]; rfl
    · obtain rfl : q = 4 := by omega
      have HR := Lib.hid (show r1 l = fitN 4 z from by rw [HF.out HP.out, HK.out, HA.out, HZ.out])
      have hqi : ¬ (((4 : Nat) : Int) < 4) := by omega
      go_wp2_with fail
      all_goals
        go_ret2
        refine ⟨?_, B.trans HBW.out (B.alloc' _ _)⟩
        rw [HR.out]
        unfold fitN leastN
        first
          | (rw [if_pos (by simp; omega)]; rfl)
          | (rw [if_neg (by simp; omega)]; rfl)
theorem rRune1_c (w : World) (l : List UInt8) (h0 : 1 ≤ l.length) (hl : l.length ≤ 4194304) : Calls Tryz.prog 336 #[.string (bstr l)] w (R1Post w l) := by
  have := size_le (atN l 0)
  by_cases h1 : sizeN (atN l 0) = 0 ∨ l.length < sizeN (atN l 0)
  · exact rRune1_none w l h0 hl h1
  · have hc : sizeN (atN l 0) = 1 ∨ sizeN (atN l 0) = 2 ∨ sizeN (atN l 0) = 3 ∨ sizeN (atN l 0) = 4 := by omega
    rcases hc with h | h | h | h
    · exact rRune1_one w l h0 hl h
    · exact rRune1_2 w l h (by omega) hl
    · exact rRune1_3 w l h (by omega) hl
    · exact rRune1_4 w l h (by omega) hl
end Go.Proofs.YteaggenihhaajaaGreat

/- The reference's Runes and Name are the plain 'runesF', 'nameF'. -/
namespace Go.Proofs.YteaggenihhaajaaGreat
open Go.RowKit Go.Deep
set_option linter.unusedVariables false

theorem extAt (l : List UInt8) (a b : Nat) : (bstr l).extract a b = bstr ((l.take b).drop a) := by
  apply ByteArray.ext
  rw [ByteArray.data_extract]
  apply Array.toList_inj.1
  simp [bstr]
  try rw [List.drop_take]
theorem r1_le (l : List UInt8) : (r1 l).2 ≤ l.length := by
  unfold r1 rune1N fitN
  have := size_le (atN l 0)
  repeat' split
  all_goals simp only
  all_goals omega
theorem runesGo_ge (s : ByteArray) : ∀ (f pos k m : Nat), runesGo s f pos k = some m → k ≤ m
  | 0, _, k, m, h => by simp only [runesGo, Option.some.injEq] at h; omega
  | f + 1, pos, k, m, h => by
    simp only [runesGo] at h
    split at h
    · split at h
      · cases h
      · have := runesGo_ge s f _ _ _ h; omega
    · simp only [Option.some.injEq] at h; omega
def cutR (o : Option Nat) : Nat := match o with | none => 0 | some n => if 16 < n then 0 else n
theorem runes_big (s : ByteArray) (f pos k : Nat) (h : 16 < k) : cutR (runesGo s f pos k) = 0 := by
  unfold cutR
  split
  · rfl
  · rename_i m hm
    have := runesGo_ge s f pos k m hm
    rw [if_pos (by omega)]
def strSz : Value → Nat | .string b => b.size | _ => 0
def RunesBad (v n k : Nat) : Prop := n = 0 ∨ v < 33 ∨ (127 ≤ v ∧ v < 160) ∨ v = 47 ∨ v = 65533 ∨ 16 ≤ k
theorem runes_step (s : List UInt8) (f pos k : Nat) (h : pos < s.length) :
    (RunesBad (r1 (s.drop pos)).1 (r1 (s.drop pos)).2 k → cutR (runesGo (bstr s) (f + 1) pos k) = 0) ∧
    (¬ RunesBad (r1 (s.drop pos)).1 (r1 (s.drop pos)).2 k → runesGo (bstr s) (f + 1) pos k = runesGo (bstr s) f (pos + (r1 (s.drop pos)).2) (k + 1)) := by
  have hd := decode_r1 s pos h
  have hs : runesGo (bstr s) (f + 1) pos k = if badR (Utf8.decode (bstr s) pos).1 then none else runesGo (bstr s) f (pos + (Utf8.decode (bstr s) pos).2) (k + 1) := by simp [runesGo, bstr_size, h]
  rw [hs, hd]
  generalize r1 (s.drop pos) = r
  obtain ⟨v, n⟩ := r
  simp only
  constructor
  · intro hb
    by_cases h0 : n = 0
    · simp [h0, badR, cutR]
    · rw [if_neg h0]
      by_cases hv : badR v = true
      · simp [hv, cutR]
      · simp only [hv]
        have hk : 16 ≤ k := by
          unfold RunesBad at hb
          simp only [badR, Bool.or_eq_true, Bool.and_eq_true, decide_eq_true_eq] at hv
          omega
        exact runes_big _ _ _ _ (by omega)
  · intro hb
    unfold RunesBad at hb
    have h0 : n ≠ 0 := by omega
    have hv : badR v = false := by
      simp only [badR, Bool.or_eq_false_iff, Bool.and_eq_false_iff, decide_eq_false_iff_not]
      omega
    rw [if_neg h0, hv]
    rfl
set_option maxRecDepth 20000 in
set_option maxHeartbeats 8000000 in
theorem rRunes_c (w : World) (s : List UInt8) (hs : s.length ≤ 4194304) : Calls Tryz.prog 334 #[.string (bstr s)] w fun e w' => e = .returned (.int .i64 (runesF s : Int)) ∧ B w w' := by
  have HE := Lib.hid (show runesF s = cutR (runesGo (bstr s) (s.length + 1) 0 0) from rfl)
  have HL := Lib.hid hs
  have HS0 := Lib.hid (bstr_size s)
  generalize runesF s = z at *
  obtain ⟨b0, hb0⟩ : ∃ b0, bstr s = b0 := ⟨_, rfl⟩
  have HB0 := Lib.hid hb0
  rw [hb0]
  clear hb0 hs
  go_enter Tryz.func334, Tryz.ntmps334
  go_wp2
  go_loopw [0, 3] (fun x n wr => ∃ (pos f k : Nat) (b : ByteArray), x = .string b ∧ n = .int .i64 (k : Int) ∧ Hid (b = bstr (s.drop pos)) ∧ pos ≤ s.length ∧ s.length + 1 ≤ pos + f ∧ k ≤ 16 ∧ Hid (B w wr) ∧ Hid (cutR (runesGo (bstr s) f pos k) = z)) (fun x _ _ => strSz x)
  case atStart => exact ⟨0, s.length + 1, 0, b0, rfl, rfl, Lib.hid HB0.out.symm, by omega, by omega, by omega, Below.refl _ _, Lib.hid HE.out.symm⟩
  case round =>
    obtain ⟨pos, f, k, b, rfl, rfl, HBB, hp, hf, hk, HW, HZ⟩ := hrel
    obtain ⟨m, hm⟩ : ∃ m, b.size = m := ⟨_, rfl⟩
    have HMS := Lib.hid (show m = s.length - pos from by rw [← hm, HBB.out, bstr_size, List.length_drop])
    have hm4 : (m : Int) ≤ 4194304 := by have := HMS.out; have := HL.out; omega
    by_cases hlt : pos < s.length
    · obtain ⟨f, rfl⟩ : ∃ g, f = g + 1 := ⟨f - 1, by omega⟩
      have hst := runes_step s f pos k hlt
      have HC := Lib.hid (fun w' => (show Calls Tryz.prog 336 #[.string b] w' (R1Post w' (s.drop pos)) from by rw [HBB.out]; exact rRune1_c w' _ (by rw [List.length_drop]; omega) (by rw [List.length_drop]; have := HL.out; omega)))
      unfold R1Post at HC
      have hle := r1_le (s.drop pos)
      rw [List.length_drop] at hle
      generalize r1 (s.drop pos) = r at *
      obtain ⟨v, n⟩ := r
      simp only at hst hle HC
      have HST := Lib.hid hst
      have hnm : (n : Int) ≤ m := by have := HMS.out; omega
      have hk4 : (k : Int) ≤ 4194304 := by omega
      have hm0 : 0 < m := by have := HMS.out; omega
      have HLE := Lib.hid hle
      clear hst hle
      by_cases hbad : RunesBad v n k
      · have HR := Lib.hid (show z = 0 from by rw [← HZ.out, HST.out.1 hbad])
        clear HST
        unfold RunesBad at hbad
        rcases hbad with h | h | ⟨h, h'⟩ | h | h | h
        · subst h
          go_wp2_with (first
          | (go_at_call 336; (with_reducible refine callsM (HC.out _) ?_); rintro e w1 ⟨rfl, hB1⟩; have HB1 := Lib.hid hB1; clear hB1))
          all_goals
            go_ret
            refine ⟨?_, B.trans HW.out HB1.out⟩
            rw [HR.out]; rfl
        · have g1 : (v : Int) < 33 := by omega
          clear h
          go_wp2_with (first
          | (go_at_call 336; (with_reducible refine callsM (HC.out _) ?_); rintro e w1 ⟨rfl, hB1⟩; have HB1 := Lib.hid hB1; clear hB1))
          all_goals
            go_ret
            refine ⟨?_, B.trans HW.out HB1.out⟩
            rw [HR.out]; rfl
        · have g1 : (127 : Int) ≤ v := by omega
          have g2 : (v : Int) < 160 := by omega
          clear h h'
          go_wp2_with (first
          | (go_at_call 336; (with_reducible refine callsM (HC.out _) ?_); rintro e w1 ⟨rfl, hB1⟩; have HB1 := Lib.hid hB1; clear hB1))
          all_goals
            go_ret
            refine ⟨?_, B.trans HW.out HB1.out⟩
            rw [HR.out]; rfl
        · subst h
          go_wp2_with (first
          | (go_at_call 336; (with_reducible refine callsM (HC.out _) ?_); rintro e w1 ⟨rfl, hB1⟩; have HB1 := Lib.hid hB1; clear hB1))
          all_goals
            go_ret
            refine ⟨?_, B.trans HW.out HB1.out⟩
            rw [HR.out]; rfl
        · subst h
          go_wp2_with (first
          | (go_at_call 336; (with_reducible refine callsM (HC.out _) ?_); rintro e w1 ⟨rfl, hB1⟩; have HB1 := Lib.hid hB1; clear hB1))
          all_goals
            go_ret
            refine ⟨?_, B.trans HW.out HB1.out⟩
            rw [HR.out]; rfl
        · have g1 : (16 : Int) ≤ k := by omega
          clear h
          go_wp2_with (first
          | (go_at_call 336; (with_reducible refine callsM (HC.out _) ?_); rintro e w1 ⟨rfl, hB1⟩; have HB1 := Lib.hid hB1; clear hB1))
          all_goals
            go_ret
            refine ⟨?_, B.trans HW.out HB1.out⟩
            rw [HR.out]; rfl
      · have HGO := Lib.hid (HST.out.2 hbad)
        clear HST
        unfold RunesBad at hbad
        have g1 : ((n : Int) == 0) = false := by simp; omega
        have g2 : ¬ (v : Int) < 33 := by omega
        have g3 : ((v : Int) == 47) = false := by simp; omega
        have g4 : ((v : Int) == 65533) = false := by simp; omega
        have g5 : ¬ (16 : Int) ≤ k := by omega
        have HN0 := Lib.hid (show 1 ≤ n from by omega)
        have hv : (v < 127) ∨ (127 ≤ v ∧ 160 ≤ v) := by omega
        clear hbad
        rcases hv with hv | ⟨hv, hv2⟩
        · have g6 : ¬ (127 : Int) ≤ v := by omega
          clear hv
          go_wp2_with (first
          | (go_at_call 336; (with_reducible refine callsM (HC.out _) ?_); rintro e w1 ⟨rfl, hB1⟩; have HB1 := Lib.hid hB1; clear hB1))
          go_roundw
          case rel =>
            refine ⟨pos + n, f, k + 1, b.extract n m, rfl, by go_num, ?_, by have := HLE.out; omega, by have := HN0.out; omega, by have := HN0.out; omega, B.trans HW.out HB1.out, ?_⟩
            · show _ = _
              have h1 : m = (s.drop pos).length := by rw [HMS.out, List.length_drop]
              rw [HBB.out, extAt, h1, List.take_length, List.drop_drop]
            · show _ = _
              rw [← HZ.out, HGO.out]
          case measure =>
            have h1 := HN0.out
            simp only [strSz, ByteArray.size_extract]
            omega
        · have g6 : (127 : Int) ≤ v := by omega
          have g7 : ¬ (v : Int) < 160 := by omega
          clear hv hv2
          go_wp2_with (first
          | (go_at_call 336; (with_reducible refine callsM (HC.out _) ?_); rintro e w1 ⟨rfl, hB1⟩; have HB1 := Lib.hid hB1; clear hB1))
          go_roundw
          case rel =>
            refine ⟨pos + n, f, k + 1, b.extract n m, rfl, by go_num, ?_, by have := HLE.out; omega, by have := HN0.out; omega, by have := HN0.out; omega, B.trans HW.out HB1.out, ?_⟩
            · show _ = _
              have h1 : m = (s.drop pos).length := by rw [HMS.out, List.length_drop]
              rw [HBB.out, extAt, h1, List.take_length, List.drop_drop]
            · show _ = _
              rw [← HZ.out, HGO.out]
          case measure =>
            have h1 := HN0.out
            simp only [strSz, ByteArray.size_extract]
            omega
    · have hE := HZ.out
      rw [runesGo_end _ _ _ _ (by rw [bstr_size]; exact hlt)] at hE
      have hbig := runes_big (bstr s) f pos k
      rw [runesGo_end _ _ _ _ (by rw [bstr_size]; exact hlt)] at hbig
      have HE2 := Lib.hid (show z = if 16 < k then 0 else k from hE.symm)
      obtain rfl : m = 0 := by have := HMS.out; omega
      have HKZ := Lib.hid (show z = k from by rw [HE2.out, if_neg (by omega)])
      clear hE hbig HE2
      go_wp2_with fail
      go_ret
      exact ⟨by rw [HKZ.out]; rfl, HW.out⟩
theorem rName_c (w : World) (s : List UInt8) (hs : s.length ≤ 4194304) : Calls Tryz.prog 326 #[.string (bstr s)] w fun e w' => e = .returned (.bool (nameF s)) ∧ B w w' := by
  have HR := Lib.hid (rRunes_c w s hs)
  clear hs
  have HN := Lib.hid (show nameF s = decide (0 < runesF s) from rfl)
  generalize nameF s = z at *
  generalize runesF s = n at *
  go_enter Tryz.func326, Tryz.ntmps326
  go_wp2_with (first | (go_at_call 334; (with_reducible refine HR.out.mono ?_); rintro e w1 ⟨rfl, hb⟩; have HB := Lib.hid hb; clear hb))
  all_goals
    go_ret
    exact ⟨by rw [HN.out]; simp, HB.out⟩
end Go.Proofs.YteaggenihhaajaaGreat

/- The reference's operations, requests and batches over data: what may be, their bytes (printed by gen_ba.py). -/
namespace Go.Proofs.YteaggenihhaajaaGreat
open Go.RowKit
set_option linter.unusedVariables false
set_option maxRecDepth 20000

theorem rName_s [Wd] (s : List UInt8) (hs : s.length ≤ 4194304) : FnP Tryz.prog 326 [.str s] (.bool (nameF s)) :=
  FnS.old (v := .bool (nameF s)) (fun _ _ => .bool _) (by kernel_rfl) (fun w I vs hv => by
    obtain ⟨v, rfl, h⟩ := hv.one_inv
    cases h
    exact rName_c w s hs) rfl
theorem rPutNum_s [Wd] (bs : List UInt8) (n : Int) (hl : bs.length + 100 ≤ big) : FnP Tryz.prog 191 [.list 1 (bs.map cByte), .int .u64 (IntKind.u64.wrap n)] (.list 1 ((bs ++ encI n).map cByte)) :=
  fresh_s (by have := enc_10 (show (n % 18446744073709551616).toNat < 18446744073709551616 by omega); unfold encI; rw [List.length_append]; omega) (by kernel_rfl) (fun w I vs hv => by
    obtain ⟨v, u, rfl, h1, h2⟩ := hv.two_inv
    cases h2
    rw [← u64_enc]
    have hr := u64_range n
    have h := putNum71 (h1.bs (by omega)) (IntKind.u64.wrap n).toNat (by omega) (by omega)
    rw [show (((IntKind.u64.wrap n).toNat : Nat) : Int) = IntKind.u64.wrap n from by omega] at h
    exact h) rfl
theorem rPutBytes_s [Wd] (bs xs : List UInt8) (hx : xs.length ≤ 4194304) (hl : (bs ++ xs).length + 100 ≤ big) : FnP Tryz.prog 193 [.list 1 (bs.map cByte), .list 1 (xs.map cByte)] (.list 1 ((bs ++ byF xs).map cByte)) :=
  fresh_s (by have := enc_10 (show xs.length < 18446744073709551616 by omega); unfold byF; simp at hl ⊢; omega) (by kernel_rfl) (fun w I vs hv => by
    obtain ⟨v, u, rfl, h1, h2⟩ := hv.two_inv
    rw [← byF_eq]
    exact putBytes73 (h1.bs (by simp at hl; omega)) (h2.bs (by simp at hl; omega)) (by omega)) rfl
theorem rCheckSign_s [Wd] (s : SignD) : FnP Tryz.prog 243 [.agg (cSign s)] (.int .i64 (signE s)) := by
  refine mkS 21 [] Tryz.func243 rfl (by kernel_rfl) ?_
  repeat'
    (conv => arg 2; whnf)
    first
    | refine okAsk (by kernel_rfl) ?_
    | refine okBrT ?_
    | refine okBrF ?_
    | refine okBr (fun h => ?_) (fun h => ?_)
    | refine endInt (.inr rfl) rfl ?_
  all_goals simp_all [signE]
  all_goals omega
theorem rKey_s [Wd] (n : Int) : FnP Tryz.prog 294 [.int .i64 n] (.int .i64 (if n < 0 ∨ 8 ≤ n then -1 else 13 + n)) := by
  refine mkS 11 [] Tryz.func294 rfl (by kernel_rfl) ?_
  repeat'
    (conv => arg 2; whnf)
    first
    | refine okAsk (by kernel_rfl) ?_
    | refine okBrT ?_
    | refine okBrF ?_
    | refine okBr (fun h => ?_) (fun h => ?_)
    | refine okWrap (w64 (by simp at *; omega) (by simp at *; omega)) ?_
    | refine endInt (.inr rfl) rfl ?_
  all_goals simp_all
  all_goals omega
theorem rFields1_s [Wd]  : FnP Tryz.prog 325 [.int .i64 1] (.tup [.bool true, .bool false, .bool false, .bool false]) := by
  refine mkS 15 [] Tryz.func325 rfl (by kernel_rfl) ?_
  repeat'
    (conv => arg 2; whnf)
    first
    | refine okAsk (by kernel_rfl) ?_
    | refine okBrT ?_
    | refine okBrF ?_
    | refine okBr (fun h => ?_) (fun h => ?_)
    | refine endFn0 (.inr rfl) rfl (.refl _) rfl
    | (exfalso; simp_all; done)
theorem rFields2_s [Wd]  : FnP Tryz.prog 325 [.int .i64 2] (.tup [.bool true, .bool false, .bool false, .bool true]) := by
  refine mkS 15 [] Tryz.func325 rfl (by kernel_rfl) ?_
  repeat'
    (conv => arg 2; whnf)
    first
    | refine okAsk (by kernel_rfl) ?_
    | refine okBrT ?_
    | refine okBrF ?_
    | refine okBr (fun h => ?_) (fun h => ?_)
    | refine endFn0 (.inr rfl) rfl (.refl _) rfl
    | (exfalso; simp_all; done)
theorem rFields3_s [Wd]  : FnP Tryz.prog 325 [.int .i64 3] (.tup [.bool true, .bool true, .bool true, .bool false]) := by
  refine mkS 15 [] Tryz.func325 rfl (by kernel_rfl) ?_
  repeat'
    (conv => arg 2; whnf)
    first
    | refine okAsk (by kernel_rfl) ?_
    | refine okBrT ?_
    | refine okBrF ?_
    | refine okBr (fun h => ?_) (fun h => ?_)
    | refine endFn0 (.inr rfl) rfl (.refl _) rfl
    | (exfalso; simp_all; done)
theorem rFields4_s [Wd]  : FnP Tryz.prog 325 [.int .i64 4] (.tup [.bool true, .bool false, .bool true, .bool false]) := by
  refine mkS 15 [] Tryz.func325 rfl (by kernel_rfl) ?_
  repeat'
    (conv => arg 2; whnf)
    first
    | refine okAsk (by kernel_rfl) ?_
    | refine okBrT ?_
    | refine okBrF ?_
    | refine okBr (fun h => ?_) (fun h => ?_)
    | refine endFn0 (.inr rfl) rfl (.refl _) rfl
    | (exfalso; simp_all; done)
theorem rFieldsN_s [Wd] (k : Int) (h1 : ¬ k = 1) (h2 : ¬ k = 2) (h3 : ¬ k = 3) (h4 : ¬ k = 4) : FnP Tryz.prog 325 [.int .i64 k] (.tup [.bool false, .bool false, .bool false, .bool false]) := by
  refine mkS 15 [] Tryz.func325 rfl (by kernel_rfl) ?_
  repeat'
    (conv => arg 2; whnf)
    first
    | refine okAsk (by kernel_rfl) ?_
    | refine okBrT ?_
    | refine okBrF ?_
    | refine okBr (fun h => ?_) (fun h => ?_)
    | refine endFn0 (.inr rfl) rfl (.refl _) rfl
    | (exfalso; simp_all; done)
theorem longF_no {o : OpD} {q : Nat} (h : (o.records.take q).any (fun r => decide (64 < r.length)) = false) (hq : ¬ q < o.records.length) : longF o = false := by
  rw [List.take_of_length_le (by omega)] at h
  exact h
theorem any_go {α : Type} {f : α → Bool} {l : List α} {q : Nat} {x : α} (hx : l[q]? = some x) (h : f x = false) (he : (l.take q).any f = false) : (l.take (q + 1)).any f = false := by
  rw [List.take_add_one, List.any_append, he, hx]
  simp [h]
theorem rOpCheck0_s [Wd] (o : OpD) (ho : dOp.ok o) : FnP Tryz.prog 295 [.agg (cOp { o with kind := 0 })] (.int .i64 (opE { o with kind := 0 })) := by
  refine mkS 112 [] Tryz.func295 rfl (by kernel_rfl) ?_
  repeat'
    (conv => arg 2; whnf)
    first
    | refine okAsk (by kernel_rfl) ?_
    | refine okBrT ?_
    | refine okBrF ?_
    | refine okBr (fun h => ?_) (fun h => ?_)
    | refine okFn (rFieldsN_s 0 (by omega) (by omega) (by omega) (by omega)) rfl (Cos.refl _) ?_
    | refine okFn (rName_s o.topic ho.2.1) rfl (Cos.refl _) ?_
    | refine okFn (rName_s o.group ho.2.2.1) rfl (Cos.refl _) ?_
    | (refine endInt (.inr rfl) rfl ?_; simp_all [opE, kindOk, onlyF, sameOp]; done)
    | (refine endInt (.inr rfl) rfl ?_; simp_all [opE, kindOk, onlyF, sameOp]; intro hr; simp_all; done)
    | (refine endInt (.inr rfl) rfl ?_; simp_all [opE, kindOk, onlyF, sameOp]; omega)
    | (refine endInt (.inr rfl) rfl ?_; simp_all [opE, kindOk, onlyF, sameOp]; intros; omega)
    | (have e : o.records.length = 0 := (by simp at h; omega); have e := List.length_eq_zero_iff.1 e; refine endInt (.inr rfl) rfl ?_; simp_all [opE, kindOk, onlyF, sameOp]; done)
    | (exfalso; simp_all; done)
  have HL : o.records.length ≤ 4194304 := ho.2.2.2.2.1
  refine okLoop (α := Nat) (fun q => ⟨[(7, .int .i64 q), (1, .ptr 0 0)], [.cells 80 (cOp { o with kind := 0 })]⟩) (fun q => q ≤ o.records.length ∧ (o.records.take q).any (fun r => decide (64 < r.length)) = false) (fun q => o.records.length - q) 0 ⟨Nat.zero_le _, by simp⟩ (Sv.mk' [0] rfl ⟨⟨rfl, rfl⟩, trivial⟩ ⟨rfl, rfl, trivial⟩) ?_
  rintro q ⟨hq, he⟩
  repeat'
    (conv => arg 2; whnf)
    first
    | refine okAsk (by kernel_rfl) ?_
    | refine okBrT ?_
    | refine okBrF ?_
    | refine okBr (fun h => ?_) (fun h => ?_)
    | refine okNthMap (l := o.records) (by simp at h; omega) (fun x hx => ?_)
    | refine okWrap (w64 (by simp at h hq; omega) (by have := HL; simp at h hq; omega)) ?_
    | refine okAgain (q + 1) (Sv.mk' [0] rfl ⟨⟨rfl, rfl⟩, trivial⟩ ⟨rfl, rfl, trivial⟩) ⟨by have := (List.getElem?_eq_some_iff.1 hx).1; omega, any_go hx (by simp at h ⊢; omega) he⟩ (by have := (List.getElem?_eq_some_iff.1 hx).1; omega)
    | refine okOut ?_
    | refine okRet ?_
    | (have hL : longF o = true := List.any_eq_true.2 ⟨x, List.mem_of_getElem? hx, by simp at h ⊢; omega⟩; refine endInt (.inr rfl) rfl ?_; clear he; simp_all []; done)
    | (have hL : longF o = false := longF_no he (by simp at *; omega); refine endInt (.inr rfl) rfl ?_; clear he; simp_all [opE, kindOk, onlyF, sameOp, longF]; done)
    | (have hL : longF o = false := longF_no he (by simp at *; omega); refine endInt (.inr rfl) rfl ?_; clear he; simp_all [opE, kindOk, onlyF, sameOp, longF]; omega)
    | (have hL : longF o = false := longF_no he (by simp at *; omega); refine endInt (.inr rfl) rfl ?_; clear he; simp_all [opE, kindOk, onlyF, sameOp, longF]; exact ⟨fun e => by have := List.length_eq_zero_iff.2 e; omega, by omega⟩)
    | (exfalso; clear he; simp_all; done)
theorem rOpCheck1_s [Wd] (o : OpD) (ho : dOp.ok o) : FnP Tryz.prog 295 [.agg (cOp { o with kind := 1 })] (.int .i64 (opE { o with kind := 1 })) := by
  refine mkS 112 [] Tryz.func295 rfl (by kernel_rfl) ?_
  repeat'
    (conv => arg 2; whnf)
    first
    | refine okAsk (by kernel_rfl) ?_
    | refine okBrT ?_
    | refine okBrF ?_
    | refine okBr (fun h => ?_) (fun h => ?_)
    | refine okFn (rFields1_s) rfl (Cos.refl _) ?_
    | refine okFn (rName_s o.topic ho.2.1) rfl (Cos.refl _) ?_
    | refine okFn (rName_s o.group ho.2.2.1) rfl (Cos.refl _) ?_
    | (refine endInt (.inr rfl) rfl ?_; simp_all [opE, kindOk, onlyF, sameOp]; done)
    | (refine endInt (.inr rfl) rfl ?_; simp_all [opE, kindOk, onlyF, sameOp]; intro hr; simp_all; done)
    | (refine endInt (.inr rfl) rfl ?_; simp_all [opE, kindOk, onlyF, sameOp]; omega)
    | (refine endInt (.inr rfl) rfl ?_; simp_all [opE, kindOk, onlyF, sameOp]; intros; omega)
    | (have e : o.records.length = 0 := (by simp at h; omega); have e := List.length_eq_zero_iff.1 e; refine endInt (.inr rfl) rfl ?_; simp_all [opE, kindOk, onlyF, sameOp]; done)
    | (exfalso; simp_all; done)
  have HL : o.records.length ≤ 4194304 := ho.2.2.2.2.1
  refine okLoop (α := Nat) (fun q => ⟨[(7, .int .i64 q), (1, .ptr 0 0)], [.cells 80 (cOp { o with kind := 1 })]⟩) (fun q => q ≤ o.records.length ∧ (o.records.take q).any (fun r => decide (64 < r.length)) = false) (fun q => o.records.length - q) 0 ⟨Nat.zero_le _, by simp⟩ (Sv.mk' [0] rfl ⟨⟨rfl, rfl⟩, trivial⟩ ⟨rfl, rfl, trivial⟩) ?_
  rintro q ⟨hq, he⟩
  repeat'
    (conv => arg 2; whnf)
    first
    | refine okAsk (by kernel_rfl) ?_
    | refine okBrT ?_
    | refine okBrF ?_
    | refine okBr (fun h => ?_) (fun h => ?_)
    | refine okNthMap (l := o.records) (by simp at h; omega) (fun x hx => ?_)
    | refine okWrap (w64 (by simp at h hq; omega) (by have := HL; simp at h hq; omega)) ?_
    | refine okAgain (q + 1) (Sv.mk' [0] rfl ⟨⟨rfl, rfl⟩, trivial⟩ ⟨rfl, rfl, trivial⟩) ⟨by have := (List.getElem?_eq_some_iff.1 hx).1; omega, any_go hx (by simp at h ⊢; omega) he⟩ (by have := (List.getElem?_eq_some_iff.1 hx).1; omega)
    | refine okOut ?_
    | refine okRet ?_
    | (have hL : longF o = true := List.any_eq_true.2 ⟨x, List.mem_of_getElem? hx, by simp at h ⊢; omega⟩; refine endInt (.inr rfl) rfl ?_; clear he; simp_all []; done)
    | (have hL : longF o = false := longF_no he (by simp at *; omega); refine endInt (.inr rfl) rfl ?_; clear he; simp_all [opE, kindOk, onlyF, sameOp, longF]; done)
    | (have hL : longF o = false := longF_no he (by simp at *; omega); refine endInt (.inr rfl) rfl ?_; clear he; simp_all [opE, kindOk, onlyF, sameOp, longF]; omega)
    | (have hL : longF o = false := longF_no he (by simp at *; omega); refine endInt (.inr rfl) rfl ?_; clear he; simp_all [opE, kindOk, onlyF, sameOp, longF]; exact ⟨fun e => by have := List.length_eq_zero_iff.2 e; omega, by omega⟩)
    | (exfalso; clear he; simp_all; done)
theorem rOpCheck2_s [Wd] (o : OpD) (ho : dOp.ok o) : FnP Tryz.prog 295 [.agg (cOp { o with kind := 2 })] (.int .i64 (opE { o with kind := 2 })) := by
  refine mkS 112 [] Tryz.func295 rfl (by kernel_rfl) ?_
  repeat'
    (conv => arg 2; whnf)
    first
    | refine okAsk (by kernel_rfl) ?_
    | refine okBrT ?_
    | refine okBrF ?_
    | refine okBr (fun h => ?_) (fun h => ?_)
    | refine okFn (rFields2_s) rfl (Cos.refl _) ?_
    | refine okFn (rName_s o.topic ho.2.1) rfl (Cos.refl _) ?_
    | refine okFn (rName_s o.group ho.2.2.1) rfl (Cos.refl _) ?_
    | (refine endInt (.inr rfl) rfl ?_; simp_all [opE, kindOk, onlyF, sameOp]; done)
    | (refine endInt (.inr rfl) rfl ?_; simp_all [opE, kindOk, onlyF, sameOp]; intro hr; simp_all; done)
    | (refine endInt (.inr rfl) rfl ?_; simp_all [opE, kindOk, onlyF, sameOp]; omega)
    | (refine endInt (.inr rfl) rfl ?_; simp_all [opE, kindOk, onlyF, sameOp]; intros; omega)
    | (have e : o.records.length = 0 := (by simp at h; omega); have e := List.length_eq_zero_iff.1 e; refine endInt (.inr rfl) rfl ?_; simp_all [opE, kindOk, onlyF, sameOp]; done)
    | (exfalso; simp_all; done)
  have HL : o.records.length ≤ 4194304 := ho.2.2.2.2.1
  refine okLoop (α := Nat) (fun q => ⟨[(7, .int .i64 q), (1, .ptr 0 0)], [.cells 80 (cOp { o with kind := 2 })]⟩) (fun q => q ≤ o.records.length ∧ (o.records.take q).any (fun r => decide (64 < r.length)) = false) (fun q => o.records.length - q) 0 ⟨Nat.zero_le _, by simp⟩ (Sv.mk' [0] rfl ⟨⟨rfl, rfl⟩, trivial⟩ ⟨rfl, rfl, trivial⟩) ?_
  rintro q ⟨hq, he⟩
  repeat'
    (conv => arg 2; whnf)
    first
    | refine okAsk (by kernel_rfl) ?_
    | refine okBrT ?_
    | refine okBrF ?_
    | refine okBr (fun h => ?_) (fun h => ?_)
    | refine okNthMap (l := o.records) (by simp at h; omega) (fun x hx => ?_)
    | refine okWrap (w64 (by simp at h hq; omega) (by have := HL; simp at h hq; omega)) ?_
    | refine okAgain (q + 1) (Sv.mk' [0] rfl ⟨⟨rfl, rfl⟩, trivial⟩ ⟨rfl, rfl, trivial⟩) ⟨by have := (List.getElem?_eq_some_iff.1 hx).1; omega, any_go hx (by simp at h ⊢; omega) he⟩ (by have := (List.getElem?_eq_some_iff.1 hx).1; omega)
    | refine okOut ?_
    | refine okRet ?_
    | (have hL : longF o = true := List.any_eq_true.2 ⟨x, List.mem_of_getElem? hx, by simp at h ⊢; omega⟩; refine endInt (.inr rfl) rfl ?_; clear he; simp_all [opE, kindOk, onlyF, sameOp, longF]; done)
    | (have hL : longF o = false := longF_no he (by simp at *; omega); refine endInt (.inr rfl) rfl ?_; clear he; simp_all [opE, kindOk, onlyF, sameOp, longF]; done)
    | (have hL : longF o = false := longF_no he (by simp at *; omega); refine endInt (.inr rfl) rfl ?_; clear he; simp_all [opE, kindOk, onlyF, sameOp, longF]; omega)
    | (have hL : longF o = false := longF_no he (by simp at *; omega); refine endInt (.inr rfl) rfl ?_; clear he; simp_all [opE, kindOk, onlyF, sameOp, longF]; exact ⟨fun e => by have := List.length_eq_zero_iff.2 e; omega, by omega⟩)
    | (exfalso; clear he; simp_all; done)
theorem rOpCheck3_s [Wd] (o : OpD) (ho : dOp.ok o) : FnP Tryz.prog 295 [.agg (cOp { o with kind := 3 })] (.int .i64 (opE { o with kind := 3 })) := by
  refine mkS 112 [] Tryz.func295 rfl (by kernel_rfl) ?_
  repeat'
    (conv => arg 2; whnf)
    first
    | refine okAsk (by kernel_rfl) ?_
    | refine okBrT ?_
    | refine okBrF ?_
    | refine okBr (fun h => ?_) (fun h => ?_)
    | refine okFn (rFields3_s) rfl (Cos.refl _) ?_
    | refine okFn (rName_s o.topic ho.2.1) rfl (Cos.refl _) ?_
    | refine okFn (rName_s o.group ho.2.2.1) rfl (Cos.refl _) ?_
    | (refine endInt (.inr rfl) rfl ?_; simp_all [opE, kindOk, onlyF, sameOp]; done)
    | (refine endInt (.inr rfl) rfl ?_; simp_all [opE, kindOk, onlyF, sameOp]; intro hr; simp_all; done)
    | (refine endInt (.inr rfl) rfl ?_; simp_all [opE, kindOk, onlyF, sameOp]; omega)
    | (refine endInt (.inr rfl) rfl ?_; simp_all [opE, kindOk, onlyF, sameOp]; intros; omega)
    | (have e : o.records.length = 0 := (by simp at h; omega); have e := List.length_eq_zero_iff.1 e; refine endInt (.inr rfl) rfl ?_; simp_all [opE, kindOk, onlyF, sameOp]; done)
    | (exfalso; simp_all; done)
  have HL : o.records.length ≤ 4194304 := ho.2.2.2.2.1
  refine okLoop (α := Nat) (fun q => ⟨[(7, .int .i64 q), (1, .ptr 0 0)], [.cells 80 (cOp { o with kind := 3 })]⟩) (fun q => q ≤ o.records.length ∧ (o.records.take q).any (fun r => decide (64 < r.length)) = false) (fun q => o.records.length - q) 0 ⟨Nat.zero_le _, by simp⟩ (Sv.mk' [0] rfl ⟨⟨rfl, rfl⟩, trivial⟩ ⟨rfl, rfl, trivial⟩) ?_
  rintro q ⟨hq, he⟩
  repeat'
    (conv => arg 2; whnf)
    first
    | refine okAsk (by kernel_rfl) ?_
    | refine okBrT ?_
    | refine okBrF ?_
    | refine okBr (fun h => ?_) (fun h => ?_)
    | refine okNthMap (l := o.records) (by simp at h; omega) (fun x hx => ?_)
    | refine okWrap (w64 (by simp at h hq; omega) (by have := HL; simp at h hq; omega)) ?_
    | refine okAgain (q + 1) (Sv.mk' [0] rfl ⟨⟨rfl, rfl⟩, trivial⟩ ⟨rfl, rfl, trivial⟩) ⟨by have := (List.getElem?_eq_some_iff.1 hx).1; omega, any_go hx (by simp at h ⊢; omega) he⟩ (by have := (List.getElem?_eq_some_iff.1 hx).1; omega)
    | refine okOut ?_
    | refine okRet ?_
    | (have hL : longF o = true := List.any_eq_true.2 ⟨x, List.mem_of_getElem? hx, by simp at h ⊢; omega⟩; refine endInt (.inr rfl) rfl ?_; clear he; simp_all []; done)
    | (have hL : longF o = false := longF_no he (by simp at *; omega); refine endInt (.inr rfl) rfl ?_; clear he; simp_all [opE, kindOk, onlyF, sameOp, longF]; done)
    | (have hL : longF o = false := longF_no he (by simp at *; omega); refine endInt (.inr rfl) rfl ?_; clear he; simp_all [opE, kindOk, onlyF, sameOp, longF]; omega)
    | (have hL : longF o = false := longF_no he (by simp at *; omega); refine endInt (.inr rfl) rfl ?_; clear he; simp_all [opE, kindOk, onlyF, sameOp, longF]; exact ⟨fun e => by have := List.length_eq_zero_iff.2 e; omega, by omega⟩)
    | (exfalso; clear he; simp_all; done)
theorem rOpCheck4_s [Wd] (o : OpD) (ho : dOp.ok o) : FnP Tryz.prog 295 [.agg (cOp { o with kind := 4 })] (.int .i64 (opE { o with kind := 4 })) := by
  refine mkS 112 [] Tryz.func295 rfl (by kernel_rfl) ?_
  repeat'
    (conv => arg 2; whnf)
    first
    | refine okAsk (by kernel_rfl) ?_
    | refine okBrT ?_
    | refine okBrF ?_
    | refine okBr (fun h => ?_) (fun h => ?_)
    | refine okFn (rFields4_s) rfl (Cos.refl _) ?_
    | refine okFn (rName_s o.topic ho.2.1) rfl (Cos.refl _) ?_
    | refine okFn (rName_s o.group ho.2.2.1) rfl (Cos.refl _) ?_
    | (refine endInt (.inr rfl) rfl ?_; simp_all [opE, kindOk, onlyF, sameOp]; done)
    | (refine endInt (.inr rfl) rfl ?_; simp_all [opE, kindOk, onlyF, sameOp]; intro hr; simp_all; done)
    | (refine endInt (.inr rfl) rfl ?_; simp_all [opE, kindOk, onlyF, sameOp]; omega)
    | (refine endInt (.inr rfl) rfl ?_; simp_all [opE, kindOk, onlyF, sameOp]; intros; omega)
    | (have e : o.records.length = 0 := (by simp at h; omega); have e := List.length_eq_zero_iff.1 e; refine endInt (.inr rfl) rfl ?_; simp_all [opE, kindOk, onlyF, sameOp]; done)
    | (exfalso; simp_all; done)
  have HL : o.records.length ≤ 4194304 := ho.2.2.2.2.1
  refine okLoop (α := Nat) (fun q => ⟨[(7, .int .i64 q), (1, .ptr 0 0)], [.cells 80 (cOp { o with kind := 4 })]⟩) (fun q => q ≤ o.records.length ∧ (o.records.take q).any (fun r => decide (64 < r.length)) = false) (fun q => o.records.length - q) 0 ⟨Nat.zero_le _, by simp⟩ (Sv.mk' [0] rfl ⟨⟨rfl, rfl⟩, trivial⟩ ⟨rfl, rfl, trivial⟩) ?_
  rintro q ⟨hq, he⟩
  repeat'
    (conv => arg 2; whnf)
    first
    | refine okAsk (by kernel_rfl) ?_
    | refine okBrT ?_
    | refine okBrF ?_
    | refine okBr (fun h => ?_) (fun h => ?_)
    | refine okNthMap (l := o.records) (by simp at h; omega) (fun x hx => ?_)
    | refine okWrap (w64 (by simp at h hq; omega) (by have := HL; simp at h hq; omega)) ?_
    | refine okAgain (q + 1) (Sv.mk' [0] rfl ⟨⟨rfl, rfl⟩, trivial⟩ ⟨rfl, rfl, trivial⟩) ⟨by have := (List.getElem?_eq_some_iff.1 hx).1; omega, any_go hx (by simp at h ⊢; omega) he⟩ (by have := (List.getElem?_eq_some_iff.1 hx).1; omega)
    | refine okOut ?_
    | refine okRet ?_
    | (have hL : longF o = true := List.any_eq_true.2 ⟨x, List.mem_of_getElem? hx, by simp at h ⊢; omega⟩; refine endInt (.inr rfl) rfl ?_; clear he; simp_all []; done)
    | (have hL : longF o = false := longF_no he (by simp at *; omega); refine endInt (.inr rfl) rfl ?_; clear he; simp_all [opE, kindOk, onlyF, sameOp, longF]; done)
    | (have hL : longF o = false := longF_no he (by simp at *; omega); refine endInt (.inr rfl) rfl ?_; clear he; simp_all [opE, kindOk, onlyF, sameOp, longF]; omega)
    | (have hL : longF o = false := longF_no he (by simp at *; omega); refine endInt (.inr rfl) rfl ?_; clear he; simp_all [opE, kindOk, onlyF, sameOp, longF]; exact ⟨fun e => by have := List.length_eq_zero_iff.2 e; omega, by omega⟩)
    | (exfalso; clear he; simp_all; done)
theorem rOpCheck9_s [Wd] (o : OpD) (ho : dOp.ok o) (k : Int) (hk : k < 0 ∨ 4 < k) : FnP Tryz.prog 295 [.agg (cOp { o with kind := k })] (.int .i64 (opE { o with kind := k })) := by
  have h60 : opE { o with kind := k } = 60 := by
    unfold opE
    rw [if_pos (.inl (by simp [kindOk]; omega))]
  refine mkS 112 [] Tryz.func295 rfl (by kernel_rfl) ?_
  repeat'
    (conv => arg 2; whnf)
    first
    | refine okAsk (by kernel_rfl) ?_
    | refine okBrT ?_
    | refine okBrF ?_
    | refine okBr (fun h => ?_) (fun h => ?_)
    | refine endInt (.inr rfl) rfl h60.symm
    | (exfalso; simp at *; omega)
    | refine okFn (rFieldsN_s k (by omega) (by omega) (by omega) (by omega)) rfl (Cos.refl _) ?_
    | refine okFn (rName_s o.topic ho.2.1) rfl (Cos.refl _) ?_
    | refine okFn (rName_s o.group ho.2.2.1) rfl (Cos.refl _) ?_
end Go.Proofs.YteaggenihhaajaaGreat

/- The reference's bytes of operations, requests, signatures and batches, over data (printed by gen_bb.py). -/
namespace Go.Proofs.YteaggenihhaajaaGreat
open Go.RowKit
set_option linter.unusedVariables false
set_option maxRecDepth 20000

theorem flat_at {α : Type} {f : α → List UInt8} {l : List α} {q : Nat} {x : α} (h : l[q]? = some x) : (l.take (q + 1)).flatMap f = (l.take q).flatMap f ++ f x := by
  rw [List.take_add_one, h, List.flatMap_append]; simp
theorem byF_l (b : List UInt8) (h : b.length ≤ 4194304) : (byF b).length ≤ b.length + 10 := by
  have := encLe10 b.length (by omega)
  unfold byF
  rw [List.length_append]; omega
theorem opKind {o : OpD} {k : Int} (h : o.kind = k) : { o with kind := k } = o := by subst h; rfl
/-- bullaref06.Check -/
theorem rOpCheck_s [Wd] (o : OpD) (ho : dOp.ok o) : FnP Tryz.prog 295 [.agg (cOp o)] (.int .i64 (opE o)) := by
  by_cases k0 : o.kind = 0
  · have h := rOpCheck0_s o ho; rw [opKind k0] at h; exact h
  by_cases k1 : o.kind = 1
  · have h := rOpCheck1_s o ho; rw [opKind k1] at h; exact h
  by_cases k2 : o.kind = 2
  · have h := rOpCheck2_s o ho; rw [opKind k2] at h; exact h
  by_cases k3 : o.kind = 3
  · have h := rOpCheck3_s o ho; rw [opKind k3] at h; exact h
  by_cases k4 : o.kind = 4
  · have h := rOpCheck4_s o ho; rw [opKind k4] at h; exact h
  have h := rOpCheck9_s o ho o.kind (by omega)
  exact h
/-- an operation's bytes, if it may be -/
def opP (o : OpD) : List UInt8 := if opE o = 0 then opB o else []
theorem rOpPutNo_s [Wd] (bs : List UInt8) (o : OpD) (ho : dOp.ok o) (h0 : ¬ opE o = 0) : FnP Tryz.prog 296 [.list 1 (bs.map cByte), .agg (cOp o)] (.list 1 ((bs ++ opP o).map cByte)) := by
  refine mkS 67 [] Tryz.func296 rfl (by kernel_rfl) ?_
  repeat'
    (conv => arg 2; whnf)
    first
    | refine okAsk (by kernel_rfl) ?_
    | refine okBrT ?_
    | refine okBrF ?_
    | refine okBr (fun h => ?_) (fun h => ?_)
    | refine okFn (rOpCheck_s o ho) rfl (Cos.refl _) ?_
    | (refine endBy (.inr rfl) rfl ?_; simp [opP, h0]; done)
    | (exfalso; simp_all; done)
theorem rOpPut0_s [Wd] (bs : List UInt8) (o : OpD) (ho : dOp.ok { o with kind := 0 }) (h0 : opE { o with kind := 0 } = 0) (hl : bs.length + 200000000 ≤ big) : FnP Tryz.prog 296 [.list 1 (bs.map cByte), .agg (cOp { o with kind := 0 })] (.list 1 ((bs ++ opP { o with kind := 0 }).map cByte)) := by
  have p1 := encI_l10 0
  have p2 := byF_l o.topic ho.2.1
  have p3 := byF_l o.group ho.2.2.1
  have p4 := encI_l10 o.offset
  have p5 := encI_l10 (o.records.length : Int)
  have t1 : o.topic.length ≤ 4194304 := ho.2.1
  have t2 : o.group.length ≤ 4194304 := ho.2.2.1
  have z := opE0 h0
  have HL : o.records.length ≤ 4194304 := ho.2.2.2.2.1
  have e0 : encI 0 = enc 0 := encI_nat (by omega) (by omega)
  have e1 : encI o.offset = enc o.offset.toNat := encI_nat z.2.2.1 (by have := z.2.2.2; simp only at this; omega)
  have e2 : encI (o.records.length : Int) = enc o.records.length := encI_nat (by omega) (by omega)
  refine mkS 67 [] Tryz.func296 rfl (by kernel_rfl) ?_
  repeat'
    (conv => arg 2; whnf)
    first
    | refine okAsk (by kernel_rfl) ?_
    | refine okBrT ?_
    | refine okBrF ?_
    | refine okBr (fun h => ?_) (fun h => ?_)
    | refine okAsk (show o.topic.length ≤ 140737488355328 by omega) ?_
    | refine okAsk (show o.group.length ≤ 140737488355328 by omega) ?_
    | refine okFn (rOpCheck_s { o with kind := 0 } ho) rfl (Cos.refl _) ?_
    | refine okFn (rFieldsN_s 0 (by omega) (by omega) (by omega) (by omega)) rfl (Cos.refl _) ?_
    | refine okRaw ?_
    | refine okFn (rPutNum_s _ (0) (by (try simp only [List.length_append, List.length_nil]); omega)) rfl (Cos.refl _) ?_
    | refine okFn (rPutNum_s _ (o.offset) (by (try simp only [List.length_append, List.length_nil]); omega)) rfl (Cos.refl _) ?_
    | refine okFn (rPutNum_s _ ((o.records.length : Int)) (by (try simp only [List.length_append, List.length_nil]); omega)) rfl (Cos.refl _) ?_
    | refine okFn (rPutNum_s _ ((o.records.map cRec).length : Int) (by (try simp only [List.length_append, List.length_nil]); omega)) rfl (Cos.refl _) ?_
    | refine okFn (rPutBytes_s _ o.topic (t1) (by (try simp only [List.length_append]); omega)) rfl (Cos.refl _) ?_
    | refine okFn (rPutBytes_s _ o.group (t2) (by (try simp only [List.length_append]); omega)) rfl (Cos.refl _) ?_
    | (refine endBy (.inr rfl) rfl ?_; rw [opP, if_pos h0]; simp [opB, e0]; done)
    | (exfalso; simp [h0] at h; done)
theorem rOpPut1_s [Wd] (bs : List UInt8) (o : OpD) (ho : dOp.ok { o with kind := 1 }) (h0 : opE { o with kind := 1 } = 0) (hl : bs.length + 200000000 ≤ big) : FnP Tryz.prog 296 [.list 1 (bs.map cByte), .agg (cOp { o with kind := 1 })] (.list 1 ((bs ++ opP { o with kind := 1 }).map cByte)) := by
  have p1 := encI_l10 1
  have p2 := byF_l o.topic ho.2.1
  have p3 := byF_l o.group ho.2.2.1
  have p4 := encI_l10 o.offset
  have p5 := encI_l10 (o.records.length : Int)
  have t1 : o.topic.length ≤ 4194304 := ho.2.1
  have t2 : o.group.length ≤ 4194304 := ho.2.2.1
  have z := opE0 h0
  have HL : o.records.length ≤ 4194304 := ho.2.2.2.2.1
  have e0 : encI 1 = enc 1 := encI_nat (by omega) (by omega)
  have e1 : encI o.offset = enc o.offset.toNat := encI_nat z.2.2.1 (by have := z.2.2.2; simp only at this; omega)
  have e2 : encI (o.records.length : Int) = enc o.records.length := encI_nat (by omega) (by omega)
  refine mkS 67 [] Tryz.func296 rfl (by kernel_rfl) ?_
  repeat'
    (conv => arg 2; whnf)
    first
    | refine okAsk (by kernel_rfl) ?_
    | refine okBrT ?_
    | refine okBrF ?_
    | refine okBr (fun h => ?_) (fun h => ?_)
    | refine okAsk (show o.topic.length ≤ 140737488355328 by omega) ?_
    | refine okAsk (show o.group.length ≤ 140737488355328 by omega) ?_
    | refine okFn (rOpCheck_s { o with kind := 1 } ho) rfl (Cos.refl _) ?_
    | refine okFn (rFields1_s) rfl (Cos.refl _) ?_
    | refine okRaw ?_
    | refine okFn (rPutNum_s _ (1) (by (try simp only [List.length_append, List.length_nil]); omega)) rfl (Cos.refl _) ?_
    | refine okFn (rPutNum_s _ (o.offset) (by (try simp only [List.length_append, List.length_nil]); omega)) rfl (Cos.refl _) ?_
    | refine okFn (rPutNum_s _ ((o.records.length : Int)) (by (try simp only [List.length_append, List.length_nil]); omega)) rfl (Cos.refl _) ?_
    | refine okFn (rPutNum_s _ ((o.records.map cRec).length : Int) (by (try simp only [List.length_append, List.length_nil]); omega)) rfl (Cos.refl _) ?_
    | refine okFn (rPutBytes_s _ o.topic (t1) (by (try simp only [List.length_append]); omega)) rfl (Cos.refl _) ?_
    | refine okFn (rPutBytes_s _ o.group (t2) (by (try simp only [List.length_append]); omega)) rfl (Cos.refl _) ?_
    | (refine endBy (.inr rfl) rfl ?_; rw [opP, if_pos h0]; simp [opB, e0, List.append_assoc]; done)
    | (exfalso; simp [h0] at h; done)
theorem rOpPut2_s [Wd] (bs : List UInt8) (o : OpD) (ho : dOp.ok { o with kind := 2 }) (h0 : opE { o with kind := 2 } = 0) (hl : bs.length + 200000000 ≤ big) : FnP Tryz.prog 296 [.list 1 (bs.map cByte), .agg (cOp { o with kind := 2 })] (.list 1 ((bs ++ opP { o with kind := 2 }).map cByte)) := by
  have p1 := encI_l10 2
  have p2 := byF_l o.topic ho.2.1
  have p3 := byF_l o.group ho.2.2.1
  have p4 := encI_l10 o.offset
  have p5 := encI_l10 (o.records.length : Int)
  have t1 : o.topic.length ≤ 4194304 := ho.2.1
  have t2 : o.group.length ≤ 4194304 := ho.2.2.1
  have z := opE0 h0
  have HL : o.records.length ≤ 4194304 := ho.2.2.2.2.1
  have e0 : encI 2 = enc 2 := encI_nat (by omega) (by omega)
  have e1 : encI o.offset = enc o.offset.toNat := encI_nat z.2.2.1 (by have := z.2.2.2; simp only at this; omega)
  have e2 : encI (o.records.length : Int) = enc o.records.length := encI_nat (by omega) (by omega)
  refine mkS 67 [] Tryz.func296 rfl (by kernel_rfl) ?_
  repeat'
    (conv => arg 2; whnf)
    first
    | refine okAsk (by kernel_rfl) ?_
    | refine okBrT ?_
    | refine okBrF ?_
    | refine okBr (fun h => ?_) (fun h => ?_)
    | refine okAsk (show o.topic.length ≤ 140737488355328 by omega) ?_
    | refine okAsk (show o.group.length ≤ 140737488355328 by omega) ?_
    | refine okFn (rOpCheck_s { o with kind := 2 } ho) rfl (Cos.refl _) ?_
    | refine okFn (rFields2_s) rfl (Cos.refl _) ?_
    | refine okRaw ?_
    | refine okFn (rPutNum_s _ (2) (by (try simp only [List.length_append, List.length_nil]); omega)) rfl (Cos.refl _) ?_
    | refine okFn (rPutNum_s _ (o.offset) (by (try simp only [List.length_append, List.length_nil]); omega)) rfl (Cos.refl _) ?_
    | refine okFn (rPutNum_s _ ((o.records.length : Int)) (by (try simp only [List.length_append, List.length_nil]); omega)) rfl (Cos.refl _) ?_
    | refine okFn (rPutNum_s _ ((o.records.map cRec).length : Int) (by (try simp only [List.length_append]); omega)) rfl (Cos.refl _) ?_
    | refine okFn (rPutBytes_s _ o.topic (t1) (by (try simp only [List.length_append]); omega)) rfl (Cos.refl _) ?_
    | refine okFn (rPutBytes_s _ o.group (t2) (by (try simp only [List.length_append]); omega)) rfl (Cos.refl _) ?_
    | (refine endBy (.inr rfl) rfl ?_; rw [opP, if_pos h0]; simp [opB, List.append_assoc]; done)
    | (exfalso; simp [h0] at h; done)
  refine okLoop (α := Nat × List UInt8) (fun a => ⟨[(9, .int .i64 a.1), (3, .ptr 0 0), (0, .list 1 (a.2.map cByte))], [.cells 80 (cOp { o with kind := 2 })]⟩) (fun a => a.1 ≤ o.records.length ∧ a.2 = bs ++ encI 2 ++ byF o.topic ++ encI ((o.records.map cRec).length : Int) ++ (o.records.take a.1).flatMap (byF)) (fun a => o.records.length - a.1) (0, bs ++ encI 2 ++ byF o.topic ++ encI ((o.records.map cRec).length : Int)) ⟨Nat.zero_le _, by simp⟩ (Sv.mk' [0] rfl ⟨⟨rfl, rfl⟩, trivial⟩ ⟨rfl, rfl, rfl, trivial⟩) ?_
  rintro ⟨q, b2⟩ ⟨hq, he⟩
  replace hq : q ≤ o.records.length := hq
  replace he : b2 = bs ++ encI 2 ++ byF o.topic ++ encI ((o.records.map cRec).length : Int) ++ (o.records.take q).flatMap (byF) := he
  have hrl : o.records.length ≤ 4 := by
    have := opB_short h0
    apply Classical.byContradiction
    intro hc
    simp [opE] at h0
    omega
  have p6 := flat_len (f := byF) (K := 4194314) (o.records.take q) (fun r hr => by have h1 : r.length ≤ 4194304 := ho.2.2.2.2.2 r (List.mem_of_mem_take hr); have := byF_l r h1; omega)
  have p7 : (o.records.take q).length * 4194314 ≤ 4 * 4194314 := Nat.mul_le_mul_right _ (by rw [List.length_take]; omega)
  have p8 := encI_l10 ((o.records.map cRec).length : Int)
  have hb2 : b2.length + 100000000 ≤ big := by rw [he]; simp only [List.length_append]; omega
  repeat'
    (conv => arg 2; whnf)
    first
    | refine okAsk (by kernel_rfl) ?_
    | refine okBrT ?_
    | refine okBrF ?_
    | refine okBr (fun h => ?_) (fun h => ?_)
    | refine okNthMap (l := o.records) (by simp at h; omega) (fun x hx => ?_)
    | refine okNthAt hx ?_
    | refine okFn (rPutBytes_s b2 x (ho.2.2.2.2.2 x (List.mem_of_getElem? hx)) (by have h1 : x.length ≤ 4194304 := ho.2.2.2.2.2 x (List.mem_of_getElem? hx); rw [List.length_append]; omega)) rfl (Cos.refl _) ?_
    | refine okWrap (w64 (by simp at h hq; omega) (by have := HL; simp at h hq; omega)) ?_
    | refine okAgain (q + 1, b2 ++ byF x) (Sv.mk' [0] rfl ⟨⟨rfl, rfl⟩, trivial⟩ ⟨rfl, rfl, rfl, trivial⟩) ⟨by have := (List.getElem?_eq_some_iff.1 hx).1; show q + 1 ≤ o.records.length; omega, by show b2 ++ byF x = _; rw [flat_at hx, ← List.append_assoc, ← he]⟩ (by have := (List.getElem?_eq_some_iff.1 hx).1; show o.records.length - (q + 1) < o.records.length - q; omega)
    | refine okOut ?_
    | refine okRet ?_
    | (refine endBy (.inr rfl) rfl ?_; rw [he, show o.records.take q = o.records from List.take_of_length_le (by simp at h; omega), opP, if_pos h0]; simp [opB, e0, e2, List.append_assoc]; done)
theorem rOpPut3_s [Wd] (bs : List UInt8) (o : OpD) (ho : dOp.ok { o with kind := 3 }) (h0 : opE { o with kind := 3 } = 0) (hl : bs.length + 200000000 ≤ big) : FnP Tryz.prog 296 [.list 1 (bs.map cByte), .agg (cOp { o with kind := 3 })] (.list 1 ((bs ++ opP { o with kind := 3 }).map cByte)) := by
  have p1 := encI_l10 3
  have p2 := byF_l o.topic ho.2.1
  have p3 := byF_l o.group ho.2.2.1
  have p4 := encI_l10 o.offset
  have p5 := encI_l10 (o.records.length : Int)
  have t1 : o.topic.length ≤ 4194304 := ho.2.1
  have t2 : o.group.length ≤ 4194304 := ho.2.2.1
  have z := opE0 h0
  have HL : o.records.length ≤ 4194304 := ho.2.2.2.2.1
  have e0 : encI 3 = enc 3 := encI_nat (by omega) (by omega)
  have e1 : encI o.offset = enc o.offset.toNat := encI_nat z.2.2.1 (by have := z.2.2.2; simp only at this; omega)
  have e2 : encI (o.records.length : Int) = enc o.records.length := encI_nat (by omega) (by omega)
  refine mkS 67 [] Tryz.func296 rfl (by kernel_rfl) ?_
  repeat'
    (conv => arg 2; whnf)
    first
    | refine okAsk (by kernel_rfl) ?_
    | refine okBrT ?_
    | refine okBrF ?_
    | refine okBr (fun h => ?_) (fun h => ?_)
    | refine okAsk (show o.topic.length ≤ 140737488355328 by omega) ?_
    | refine okAsk (show o.group.length ≤ 140737488355328 by omega) ?_
    | refine okFn (rOpCheck_s { o with kind := 3 } ho) rfl (Cos.refl _) ?_
    | refine okFn (rFields3_s) rfl (Cos.refl _) ?_
    | refine okRaw ?_
    | refine okFn (rPutNum_s _ (3) (by (try simp only [List.length_append, List.length_nil]); omega)) rfl (Cos.refl _) ?_
    | refine okFn (rPutNum_s _ (o.offset) (by (try simp only [List.length_append]); omega)) rfl (Cos.refl _) ?_
    | refine okFn (rPutNum_s _ ((o.records.length : Int)) (by (try simp only [List.length_append, List.length_nil]); omega)) rfl (Cos.refl _) ?_
    | refine okFn (rPutNum_s _ ((o.records.map cRec).length : Int) (by (try simp only [List.length_append, List.length_nil]); omega)) rfl (Cos.refl _) ?_
    | refine okFn (rPutBytes_s _ o.topic (t1) (by (try simp only [List.length_append]); omega)) rfl (Cos.refl _) ?_
    | refine okFn (rPutBytes_s _ o.group (t2) (by (try simp only [List.length_append]); omega)) rfl (Cos.refl _) ?_
    | (refine endBy (.inr rfl) rfl ?_; rw [opP, if_pos h0]; simp [opB, e0, e1, List.append_assoc]; done)
    | (exfalso; simp [h0] at h; done)
theorem rOpPut4_s [Wd] (bs : List UInt8) (o : OpD) (ho : dOp.ok { o with kind := 4 }) (h0 : opE { o with kind := 4 } = 0) (hl : bs.length + 200000000 ≤ big) : FnP Tryz.prog 296 [.list 1 (bs.map cByte), .agg (cOp { o with kind := 4 })] (.list 1 ((bs ++ opP { o with kind := 4 }).map cByte)) := by
  have p1 := encI_l10 4
  have p2 := byF_l o.topic ho.2.1
  have p3 := byF_l o.group ho.2.2.1
  have p4 := encI_l10 o.offset
  have p5 := encI_l10 (o.records.length : Int)
  have t1 : o.topic.length ≤ 4194304 := ho.2.1
  have t2 : o.group.length ≤ 4194304 := ho.2.2.1
  have z := opE0 h0
  have HL : o.records.length ≤ 4194304 := ho.2.2.2.2.1
  have e0 : encI 4 = enc 4 := encI_nat (by omega) (by omega)
  have e1 : encI o.offset = enc o.offset.toNat := encI_nat z.2.2.1 (by have := z.2.2.2; simp only at this; omega)
  have e2 : encI (o.records.length : Int) = enc o.records.length := encI_nat (by omega) (by omega)
  refine mkS 67 [] Tryz.func296 rfl (by kernel_rfl) ?_
  repeat'
    (conv => arg 2; whnf)
    first
    | refine okAsk (by kernel_rfl) ?_
    | refine okBrT ?_
    | refine okBrF ?_
    | refine okBr (fun h => ?_) (fun h => ?_)
    | refine okAsk (show o.topic.length ≤ 140737488355328 by omega) ?_
    | refine okAsk (show o.group.length ≤ 140737488355328 by omega) ?_
    | refine okFn (rOpCheck_s { o with kind := 4 } ho) rfl (Cos.refl _) ?_
    | refine okFn (rFields4_s) rfl (Cos.refl _) ?_
    | refine okRaw ?_
    | refine okFn (rPutNum_s _ (4) (by (try simp only [List.length_append, List.length_nil]); omega)) rfl (Cos.refl _) ?_
    | refine okFn (rPutNum_s _ (o.offset) (by (try simp only [List.length_append]); omega)) rfl (Cos.refl _) ?_
    | refine okFn (rPutNum_s _ ((o.records.length : Int)) (by (try simp only [List.length_append, List.length_nil]); omega)) rfl (Cos.refl _) ?_
    | refine okFn (rPutNum_s _ ((o.records.map cRec).length : Int) (by (try simp only [List.length_append, List.length_nil]); omega)) rfl (Cos.refl _) ?_
    | refine okFn (rPutBytes_s _ o.topic (t1) (by (try simp only [List.length_append]); omega)) rfl (Cos.refl _) ?_
    | refine okFn (rPutBytes_s _ o.group (t2) (by (try simp only [List.length_append]); omega)) rfl (Cos.refl _) ?_
    | (refine endBy (.inr rfl) rfl ?_; rw [opP, if_pos h0]; simp [opB, e0, e1, List.append_assoc]; done)
    | (exfalso; simp [h0] at h; done)
theorem rOpPut_s [Wd] (bs : List UInt8) (o : OpD) (ho : dOp.ok o) (hl : bs.length + 200000000 ≤ big) : FnP Tryz.prog 296 [.list 1 (bs.map cByte), .agg (cOp o)] (.list 1 ((bs ++ opP o).map cByte)) := by
  by_cases h0 : opE o = 0
  · have hk := (opE0 h0).1
    by_cases k0 : o.kind = 0
    · have h := rOpPut0_s bs o (by rw [opKind k0]; exact ho) (by rw [opKind k0]; exact h0) hl; rw [opKind k0] at h; exact h
    by_cases k1 : o.kind = 1
    · have h := rOpPut1_s bs o (by rw [opKind k1]; exact ho) (by rw [opKind k1]; exact h0) hl; rw [opKind k1] at h; exact h
    by_cases k2 : o.kind = 2
    · have h := rOpPut2_s bs o (by rw [opKind k2]; exact ho) (by rw [opKind k2]; exact h0) hl; rw [opKind k2] at h; exact h
    by_cases k3 : o.kind = 3
    · have h := rOpPut3_s bs o (by rw [opKind k3]; exact ho) (by rw [opKind k3]; exact h0) hl; rw [opKind k3] at h; exact h
    by_cases k4 : o.kind = 4
    · have h := rOpPut4_s bs o (by rw [opKind k4]; exact ho) (by rw [opKind k4]; exact h0) hl; rw [opKind k4] at h; exact h
    omega
  · exact rOpPutNo_s bs o ho h0
end Go.Proofs.YteaggenihhaajaaGreat

/- The reference's requests, signatures, batches, over data: what may be, their bytes (printed by gen_bc.py). -/
namespace Go.Proofs.YteaggenihhaajaaGreat
open Go.RowKit
set_option linter.unusedVariables false
set_option maxRecDepth 20000

theorem rKeyB_s [Wd] (n : Int) (h : n < 0 ∨ 8 ≤ n) : FnP Tryz.prog 294 [.int .i64 n] (.int .i64 (-1)) := by
  have := rKey_s n
  rwa [if_pos h] at this
theorem rKeyG_s [Wd] (n : Int) (h : ¬ (n < 0 ∨ 8 ≤ n)) : FnP Tryz.prog 294 [.int .i64 n] (.int .i64 (13 + n)) := by
  have := rKey_s n
  rwa [if_neg h] at this
theorem rCheckReq_s [Wd] (x : RequestD) (hx : dRequest.ok x) : FnP Tryz.prog 247 [.agg (cRequest x)] (.int .i64 (reqE x)) := by
  by_cases hk : x.client < 0 ∨ 8 ≤ x.client
  · have e : reqE x = 80 := by unfold reqE; rw [if_pos (by omega)]
    refine mkS 20 [] Tryz.func247 rfl (by kernel_rfl) ?_
    repeat'
      (conv => arg 2; whnf)
      first
      | refine okAsk (by kernel_rfl) ?_
      | refine okBrT ?_
      | refine okBrF ?_
      | refine okBr (fun h => ?_) (fun h => ?_)
      | refine okFn (rKeyB_s x.client hk) rfl (Cos.refl _) ?_
      | refine okFn (rKeyG_s x.client hk) rfl (Cos.refl _) ?_
      | refine okFn (rOpCheck_s x.op hx.2.2) rfl (Cos.refl _) ?_
      | refine endInt (.inr rfl) rfl e.symm
      | (exfalso; simp at *; done)
      | (exfalso; simp at *; omega)
  · refine mkS 20 [] Tryz.func247 rfl (by kernel_rfl) ?_
    repeat'
      (conv => arg 2; whnf)
      first
      | refine okAsk (by kernel_rfl) ?_
      | refine okBrT ?_
      | refine okBrF ?_
      | refine okBr (fun h => ?_) (fun h => ?_)
      | refine okFn (rKeyB_s x.client hk) rfl (Cos.refl _) ?_
      | refine okFn (rKeyG_s x.client hk) rfl (Cos.refl _) ?_
      | refine okFn (rOpCheck_s x.op hx.2.2) rfl (Cos.refl _) ?_
      | (refine endInt (.inr rfl) rfl ?_; unfold reqE; rw [if_pos (by simp at *; omega)]; done)
      | (refine endInt (.inr rfl) rfl ?_; unfold reqE; rw [if_neg (by simp at *; omega)]; done)
      | (exfalso; simp at *; omega)
theorem reqZ {x : RequestD} (h : reqE x = 0) : 0 ≤ x.client ∧ x.client ≤ 7 ∧ 1 ≤ x.time ∧ x.time ≤ 9007199254740992 ∧ opE x.op = 0 := by
  unfold reqE at h
  split at h
  · cases h
  · refine ⟨by omega, by omega, by omega, by omega, h⟩
theorem rReqBytes_s [Wd] (x : RequestD) (hx : dRequest.ok x) (h0 : reqE x = 0) : FnP Tryz.prog 248 [.agg (cRequest x)] (.tup [.list 1 ((reqB x).map cByte), .int .i64 0]) := by
  have z := reqZ h0
  have p1 := encI_l10 x.client
  have p2 := encI_l10 x.time
  have e1 : encI x.client = enc x.client.toNat := encI_nat z.1 (by omega)
  have e2 : encI x.time = enc x.time.toNat := encI_nat (by omega) (by omega)
  have hb : 300000000 ≤ big := by simp [big]
  refine mkS 24 [] Tryz.func248 rfl (by kernel_rfl) ?_
  repeat'
    (conv => arg 2; whnf)
    first
    | refine okAsk (by kernel_rfl) ?_
    | refine okBrT ?_
    | refine okBrF ?_
    | refine okBr (fun h => ?_) (fun h => ?_)
    | refine okFn (rCheckReq_s x hx) rfl (Cos.refl _) ?_
    | refine okRaw ?_
    | refine okFn (rPutNum_s [] (x.client) (by simp [big])) rfl (Cos.cons (Co.nil _) (.refl _)) ?_
    | refine okFn (rPutNum_s _ x.time (by (try simp only [List.length_append, List.length_nil]); omega)) rfl (Cos.refl _) ?_
    | refine okFn (rOpPut_s _ x.op hx.2.2 (by (try simp only [List.length_append, List.length_nil]); omega)) rfl (Cos.refl _) ?_
    | (refine endBy2 (.inr rfl) rfl ?_ rfl; simp [reqB, opP, z, e1, e2, List.append_assoc]; done)
    | (exfalso; simp [h0] at h; done)
theorem rPutSign_s [Wd] (bs : List UInt8) (s : SignD) (hl : bs.length + 200 ≤ big) : FnP Tryz.prog 204 [.list 1 (bs.map cByte), .agg (cSign s)] (.list 1 ((bs ++ signP s).map cByte)) := by
  have p1 := encI_l10 s.key
  by_cases h0 : signE s = 0
  · have z := signE0 h0
    have e1 : encI s.key = enc s.key.toNat := encI_nat z.1.1 (by omega)
    have e2 : encI s.digest = enc s.digest.toNat := encI_nat (by omega) (by omega)
    refine mkS 18 [(3, ⟨[(0, false), (1, false), (2, false), (3, false), (5, false), (6, false), (7, false), (4, true), (8, true), (9, false)], []⟩)] Tryz.func204 rfl (by kernel_rfl) ?_
    repeat'
      (conv => arg 2; whnf)
      first
      | refine okAsk (by kernel_rfl) ?_
      | refine okBrT ?_
      | refine okBrF ?_
      | refine okBr (fun h => ?_) (fun h => ?_)
      | refine okFn (rCheckSign_s s) rfl (Cos.refl _) ?_
      | refine okRaw ?_
      | refine okFn (rPutNum_s _ (s.key) (by (try simp only [List.length_append, List.length_nil]); omega)) rfl (Cos.refl _) ?_
      | refine okFn (rPutNum_s _ (s.digest) (by (try simp only [List.length_append]); omega)) rfl (Cos.refl _) ?_
      | (refine endBy (.inr rfl) rfl ?_; rw [signP, if_pos h0]; simp [signB, e1, e2]; done)
      | (exfalso; simp [h0] at h; done)
  · refine mkS 18 [(3, ⟨[(0, false), (1, false), (2, false), (3, false), (5, false), (6, false), (7, false), (4, true), (8, true), (9, false)], []⟩)] Tryz.func204 rfl (by kernel_rfl) ?_
    repeat'
      (conv => arg 2; whnf)
      first
      | refine okAsk (by kernel_rfl) ?_
      | refine okBrT ?_
      | refine okBrF ?_
      | refine okBr (fun h => ?_) (fun h => ?_)
      | refine okFn (rCheckSign_s s) rfl (Cos.refl _) ?_
      | refine okRaw ?_
      | (refine endBy (.inr rfl) rfl ?_; simp [signP, h0]; done)
      | (exfalso; simp [h0] at h; done)
theorem resI2 {a : Int} (h : 0 ≤ a ∧ a ≤ 9223372036854775807) : encI (if 0 < a then a else 0) = enc (max a 0).toNat := by
  rw [show (if 0 < a then a else 0) = a from by split <;> omega, encI_nat h.1 (by omega), Int.max_eq_left h.1]
theorem rPutResult_s [Wd] (bs : List UInt8) (x : ResultD) (he : 0 ≤ x.err ∧ x.err ≤ 9223372036854775807) (ho : 0 ≤ x.offset ∧ x.offset ≤ 9223372036854775807) (hl : bs.length + 200 ≤ big) : FnP Tryz.prog 252 [.list 1 (bs.map cByte), .agg (cResult x)] (.list 1 ((bs ++ resultB x).map cByte)) := by
  have p1 := encI_l10 (if 0 < x.err then x.err else 0)
  refine mkS 16 [(1, ⟨[(0, false), (1, false), (2, false), (3, false), (4, false), (6, false), (7, false), (8, false), (9, false), (5, true), (10, true), (11, false)], []⟩)] Tryz.func252 rfl (by kernel_rfl) ?_
  repeat'
    (conv => arg 2; whnf)
    first
    | refine okAsk (by kernel_rfl) ?_
    | refine okBrT ?_
    | refine okBrF ?_
    | refine okBr (fun h => ?_) (fun h => ?_)
    | refine okRaw ?_
    | refine okFn (rPutNum_s _ _ (by (try simp only [List.length_append]); omega)) rfl (Cos.refl _) ?_
    | (refine endBy (.inr rfl) rfl ?_; rw [resI2 he, resI2 ho, List.append_assoc]; rfl)
theorem parts_app : ∀ a b : List SignedD, partsE (a ++ b) = orE (partsE a) (partsE b)
  | [], b => by simp [partsE, z_orE]
  | x :: a, b => by simp only [List.cons_append, partsE, parts_app a b, orE_assoc]
theorem parts_at {l : List SignedD} {q : Nat} {x : SignedD} (hx : l[q]? = some x) (he : partsE (l.take q) = 0) : partsE l = orE (reqE x.request) (orE (signE x.sign) (partsE (l.drop (q + 1)))) := by
  have hlt := (List.getElem?_eq_some_iff.1 hx).1
  have e : l = l.take q ++ x :: l.drop (q + 1) := by
    conv => lhs; rw [← List.take_append_drop q l]
    rw [List.drop_eq_getElem_cons hlt, (List.getElem?_eq_some_iff.1 hx).2]
  rw [e, parts_app, he, z_orE, ← e]
  rfl
theorem parts_go {l : List SignedD} {q : Nat} {x : SignedD} (hx : l[q]? = some x) (he : partsE (l.take q) = 0) (h1 : reqE x.request = 0) (h2 : signE x.sign = 0) : partsE (l.take (q + 1)) = 0 := by
  rw [List.take_add_one, hx, parts_app, he]
  simp [partsE, h1, h2, orE]
theorem parts_no {l : List SignedD} (hl : ¬ 4 < l.length) (h : ¬ partsE l = 0) : batchE l = partsE l := by
  unfold batchE orE
  rw [if_neg hl, if_neg h]
def twF (l : List SignedD) (i k : Nat) : Bool := match l[i]?, l[k]? with | some a, some b => twin a b | _, _ => false
theorem twins_eq (l : List SignedD) : twinsF l = (List.range l.length).any fun i => (List.range i).any fun k => twF l i k := rfl
theorem range_go {f : Nat → Bool} {k : Nat} (h : (List.range k).any f = false) (h1 : f k = false) : (List.range (k + 1)).any f = false := by
  rw [List.range_succ, List.any_append, h]
  simp [h1]
theorem twin_yes {l : List SignedD} {i k : Nat} (hi : i < l.length) (hk : k < i) (h : twF l i k = true) : twinsF l = true := by
  rw [twins_eq, List.any_eq_true]
  exact ⟨i, List.mem_range.2 hi, List.any_eq_true.2 ⟨k, List.mem_range.2 hk, h⟩⟩
theorem tw_at {l : List SignedD} {i k : Nat} {x y : SignedD} (hx : l[i]? = some x) (hy : l[k]? = some y) : twF l i k = ((x.request.client == y.request.client) && (x.request.time == y.request.time)) := by
  unfold twF
  rw [hx, hy]
  rfl
theorem rCheckBatch_s [Wd] (l : List SignedD) (hl : (dL dSigned).ok l) : FnP Tryz.prog 200 [.list 9 (l.map cSigned)] (.int .i64 (batchE l)) := by
  have HL : l.length ≤ 4194304 := hl.1
  refine mkS 74 [] Tryz.func200 rfl (by kernel_rfl) ?_
  repeat'
    (conv => arg 2; whnf)
    first
    | refine okAsk (by kernel_rfl) ?_
    | refine okBrT ?_
    | refine okBrF ?_
    | refine okBr (fun h => ?_) (fun h => ?_)
    | (refine endInt (.inr rfl) rfl ?_; unfold batchE; rw [if_pos (by simp at h; omega)]; done)
  have h4 : ¬ 4 < l.length := by simp at h; omega
  clear h
  refine okLoop (α := Nat) (fun q => ⟨[(3, .int .i64 q), (0, .list 9 (l.map cSigned))], []⟩) (fun q => q ≤ l.length ∧ partsE (l.take q) = 0) (fun q => l.length - q) 0 ⟨Nat.zero_le _, rfl⟩ (Sv.mk' [] rfl trivial ⟨rfl, rfl, trivial⟩) ?_
  rintro q ⟨hq, he⟩
  repeat'
    (conv => arg 2; whnf)
    first
    | refine okAsk (by kernel_rfl) ?_
    | refine okBrT ?_
    | refine okBrF ?_
    | refine okBr (fun h => ?_) (fun h => ?_)
    | refine okNthMap (l := l) (by simp at h; omega) (fun x hx => ?_)
    | refine okNthAt hx ?_
    | refine okFn (rCheckReq_s x.request (hl.2 x (List.mem_of_getElem? hx)).1) rfl (Cos.refl _) ?_
    | refine okFn (rCheckSign_s x.sign) rfl (Cos.refl _) ?_
    | refine okWrap (w64 (by omega) (by have := (List.getElem?_eq_some_iff.1 hx).1; omega)) ?_
    | refine okAgain (q + 1) (Sv.mk' [] rfl trivial ⟨rfl, rfl, trivial⟩) ⟨by have := (List.getElem?_eq_some_iff.1 hx).1; omega, parts_go hx he (by simp_all) (by simp_all)⟩ (by have := (List.getElem?_eq_some_iff.1 hx).1; omega)
    | refine okOut ?_
    | refine okRet ?_
    | (have hp := parts_at hx he; refine endInt (.inr rfl) rfl ?_; have h1 : ¬ reqE x.request = 0 := (by simpa using h); rw [parts_no h4 (by rw [hp, orE, if_neg h1]; exact h1), hp, orE, if_neg h1])
    | (have hp := parts_at hx he; refine endInt (.inr rfl) rfl ?_; have h1 : ¬ signE x.sign = 0 := (by simpa using h); have h2 : reqE x.request = 0 := (by simp_all); rw [parts_no h4 (by rw [hp, h2, z_orE, orE, if_neg h1]; exact h1), hp, h2, z_orE, orE, if_neg h1])
  have hp : partsE l = 0 := by rw [List.take_of_length_le (by simp at h; omega)] at he; exact he
  clear he hq h
  refine okLoop (α := Nat) (fun i => ⟨[(6, .int .i64 i), (0, .list 9 (l.map cSigned))], []⟩) (fun i => i ≤ l.length ∧ ((List.range i).any fun i => (List.range i).any fun k => twF l i k) = false) (fun i => l.length - i) 0 ⟨Nat.zero_le _, rfl⟩ (Sv.mk' [] rfl trivial ⟨rfl, rfl, trivial⟩) ?_
  rintro i ⟨hi, he⟩
  repeat'
    (conv => arg 2; whnf)
    first
    | refine okAsk (by kernel_rfl) ?_
    | refine okBrT ?_
    | refine okBrF ?_
    | refine okBr (fun h => ?_) (fun h => ?_)
    | refine okOut ?_
    | (have hw : twinsF l = false := (by rw [twins_eq, show l.length = i from by simp at h; omega]; exact he); refine endInt (.inr rfl) rfl ?_; unfold batchE; rw [if_neg h4, hp, z_orE, hw]; rfl)
  have hil : i < l.length := by simp at h; omega
  clear h
  have hx : l[i]? = some l[i] := List.getElem?_eq_getElem hil
  generalize l[i] = x at hx
  refine okLoop (α := Nat) (fun k => ⟨[(7, .int .i64 k), (6, .int .i64 i), (0, .list 9 (l.map cSigned))], []⟩) (fun k => k ≤ i ∧ ((List.range k).any fun k => twF l i k) = false) (fun k => i - k) 0 ⟨Nat.zero_le _, rfl⟩ (Sv.mk' [] rfl trivial ⟨rfl, rfl, rfl, trivial⟩) ?_
  rintro k ⟨hk, hke⟩
  repeat'
    (conv => arg 2; whnf)
    first
    | refine okAsk (by kernel_rfl) ?_
    | refine okBrT ?_
    | refine okBrF ?_
    | refine okBr (fun h => ?_) (fun h => ?_)
    | refine okNthAt hx ?_
    | refine okNthMap (l := l) (by simp at h; omega) (fun y hy => ?_)
    | refine okNthAt hy ?_
    | refine okWrap (e := (k : Int) + 1) (w64 (by omega) (by omega)) ?_
    | refine okWrap (e := (i : Int) + 1) (w64 (by omega) (by omega)) ?_
    | refine okAgain (k + 1) (Sv.mk' [] rfl trivial ⟨rfl, rfl, rfl, trivial⟩) ⟨by have hki : k < i := (by simp_all); omega, range_go hke (by rw [tw_at hx hy]; simp_all)⟩ (by have hki : k < i := (by simp_all); omega)
    | refine okAgain (i + 1) (Sv.mk' [] rfl trivial ⟨rfl, rfl, trivial⟩) ⟨by omega, range_go he (by have hik : k = i := (by simp at h; omega); subst hik; exact hke)⟩ (by omega)
    | refine okOut ?_
    | refine okRet ?_
    | (have hw : twinsF l = true := twin_yes hil (k := k) (by simp_all) (by rw [tw_at hx hy]; simp_all); refine endInt (.inr rfl) rfl ?_; unfold batchE; rw [if_neg h4, hp, z_orE, hw]; rfl)
    | (exfalso; simp_all; done)
end Go.Proofs.YteaggenihhaajaaGreat

/- bullaref08.PutBatch; bullaref10: what is wrong with a message, over data (printed by gen_bd.py). -/
namespace Go.Proofs.YteaggenihhaajaaGreat
open Go.RowKit
set_option linter.unusedVariables false
set_option maxRecDepth 20000

theorem flatMap_congr' {α β : Type} {f g : α → List β} : ∀ {l : List α}, (∀ s ∈ l, f s = g s) → l.flatMap f = l.flatMap g
  | [], _ => rfl
  | x :: l, h => by
    rw [List.flatMap_cons, List.flatMap_cons, h x (by simp), flatMap_congr' (fun s hs => h s (by simp [hs]))]
theorem rPutBatchN_s [Wd] (bs : List UInt8) (l : List SignedD) (hl : (dL dSigned).ok l) (h0 : ¬ batchE l = 0) : FnP Tryz.prog 201 [.list 1 (bs.map cByte), .list 9 (l.map cSigned)] (.list 1 ((bs ++ batchP l).map cByte)) := by
  refine mkS 42 [(8, ⟨[(0, false), (1, false), (3, false), (4, false), (5, false), (6, false), (7, false), (2, true), (8, true), (9, false)], []⟩)] Tryz.func201 rfl (by kernel_rfl) ?_
  repeat'
    (conv => arg 2; whnf)
    first
    | refine okAsk (by kernel_rfl) ?_
    | refine okBrT ?_
    | refine okBrF ?_
    | refine okBr (fun h => ?_) (fun h => ?_)
    | refine okFn (rCheckBatch_s l hl) rfl (Cos.refl _) ?_
    | (refine endBy (.inr rfl) rfl ?_; simp [batchP, h0]; done)
    | (exfalso; simp [h0] at h; done)
theorem rPutBatchY_s [Wd] (bs : List UInt8) (l : List SignedD) (hl : (dL dSigned).ok l) (h0 : batchE l = 0) (hb : bs.length + 300000000 ≤ big) : FnP Tryz.prog 201 [.list 1 (bs.map cByte), .list 9 (l.map cSigned)] (.list 1 ((bs ++ batchP l).map cByte)) := by
  have z := batchE0 h0
  have z1 := z.1
  have HL : l.length ≤ 4194304 := hl.1
  have p1 := encI_l10 ((l.map cSigned).length : Int)
  have e1 : encI ((l.map cSigned).length : Int) = enc l.length := by rw [List.length_map, encI_nat (by omega) (by omega)]; rfl
  refine mkS 42 [(8, ⟨[(0, false), (1, false), (3, false), (4, false), (5, false), (6, false), (7, false), (2, true), (8, true), (9, false)], []⟩)] Tryz.func201 rfl (by kernel_rfl) ?_
  repeat'
    (conv => arg 2; whnf)
    first
    | refine okAsk (by kernel_rfl) ?_
    | refine okBrT ?_
    | refine okBrF ?_
    | refine okBr (fun h => ?_) (fun h => ?_)
    | refine okFn (rCheckBatch_s l hl) rfl (Cos.refl _) ?_
    | refine okRaw ?_
    | refine okFn (rPutNum_s _ (((l.map cSigned).length : Int)) (by (try simp only [List.length_append, List.length_nil]); omega)) rfl (Cos.refl _) ?_
    | (exfalso; simp [h0] at h; done)
  refine okLoop (α := Nat × List UInt8) (fun a => ⟨[(5, .int .i64 a.1), (1, .list 9 (l.map cSigned)), (0, .list 1 (a.2.map cByte))], []⟩) (fun a => a.1 ≤ l.length ∧ a.2 = bs ++ encI ((l.map cSigned).length : Int) ++ (l.take a.1).flatMap (fun s : SignedD => byF (reqB s.request) ++ signP s.sign)) (fun a => l.length - a.1) (0, bs ++ encI ((l.map cSigned).length : Int)) ⟨Nat.zero_le _, by simp⟩ (Sv.mk' [] rfl trivial ⟨rfl, rfl, rfl, trivial⟩) ?_
  rintro ⟨q, b2⟩ ⟨hq, he⟩
  replace hq : q ≤ l.length := hq
  replace he : b2 = bs ++ encI ((l.map cSigned).length : Int) ++ (l.take q).flatMap (fun s : SignedD => byF (reqB s.request) ++ signP s.sign) := he
  have p6 := flat_len (f := fun s : SignedD => byF (reqB s.request) ++ signP s.sign) (K := 1050) (l.take q) (fun s hs => by
    have k := reqB_short (z.2 s (List.mem_of_mem_take hs)).1
    have := byF_l (reqB s.request) (by omega)
    have := signP_l20 s.sign
    rw [List.length_append]; omega)
  have p7 : (l.take q).length * 1050 ≤ 4 * 1050 := Nat.mul_le_mul_right _ (by rw [List.length_take]; omega)
  have hb2 : b2.length + 200000000 ≤ big := by rw [he]; simp only [List.length_append]; omega
  repeat'
    (conv => arg 2; whnf)
    first
    | refine okAsk (by kernel_rfl) ?_
    | refine okBrT ?_
    | refine okBrF ?_
    | refine okBr (fun h => ?_) (fun h => ?_)
    | refine okNthAt hx ?_
    | refine okNthMap (l := l) (by simp at h; omega) (fun x hx => ?_)
    | refine okFn (rReqBytes_s x.request (hl.2 x (List.mem_of_getElem? hx)).1 (z.2 x (List.mem_of_getElem? hx)).1) rfl (Cos.refl _) ?_
    | refine okFn (rPutBytes_s b2 (reqB x.request) (by have := reqB_short (z.2 x (List.mem_of_getElem? hx)).1; omega) (by have := reqB_short (z.2 x (List.mem_of_getElem? hx)).1; rw [List.length_append]; omega)) rfl (Cos.refl _) ?_
    | refine okFn (rPutSign_s _ x.sign (by have := reqB_short (z.2 x (List.mem_of_getElem? hx)).1; have := byF_l (reqB x.request) (by omega); rw [List.length_append]; omega)) rfl (Cos.refl _) ?_
    | refine okWrap (w64 (by simp at h hq; omega) (by have := HL; simp at h hq; omega)) ?_
    | refine okAgain (q + 1, b2 ++ byF (reqB x.request) ++ signP x.sign) (Sv.mk' [] rfl trivial ⟨rfl, rfl, rfl, trivial⟩) ⟨by have := (List.getElem?_eq_some_iff.1 hx).1; show q + 1 ≤ l.length; omega, by show b2 ++ byF (reqB x.request) ++ signP x.sign = _; rw [flat_at hx, ← List.append_assoc, ← he]; simp⟩ (by have := (List.getElem?_eq_some_iff.1 hx).1; show l.length - (q + 1) < l.length - q; omega)
    | refine okOut ?_
    | refine okRet ?_
    | (refine endBy (.inr rfl) rfl ?_; rw [he, show l.take q = l from List.take_of_length_le (by simp at h; omega), batchP, if_pos h0, batchB, e1, List.append_assoc]; refine congrArg (fun y => bs ++ (enc l.length ++ y)) ?_; refine flatMap_congr' (fun s hs => ?_); simp [signedB, signP, (z.2 s hs).2])
theorem rPutBatch_s [Wd] (bs : List UInt8) (l : List SignedD) (hl : (dL dSigned).ok l) (hb : bs.length + 300000000 ≤ big) : FnP Tryz.prog 201 [.list 1 (bs.map cByte), .list 9 (l.map cSigned)] (.list 1 ((bs ++ batchP l).map cByte)) := by
  by_cases h0 : batchE l = 0
  · exact rPutBatchY_s bs l hl h0 hb
  · exact rPutBatchN_s bs l hl h0
theorem xIn_s [Wd] (n a b : Int) : FnP Tryz.prog 298 [.int .i64 n, .int .i64 a, .int .i64 b] (.int .i64 (rangeE n a b)) := by
  refine mkS 15 [] Tryz.func298 rfl (by kernel_rfl) ?_
  repeat'
    (conv => arg 2; whnf)
    first
    | refine okAsk (by kernel_rfl) ?_
    | refine okBrT ?_
    | refine okBrF ?_
    | refine okBr (fun h => ?_) (fun h => ?_)
    | (refine endInt (.inr rfl) rfl ?_; simp_all [rangeE]; done)
    | (refine endInt (.inr rfl) rfl ?_; simp_all [rangeE]; omega)
    | (exfalso; simp at *; omega)
theorem xNum_s [Wd] (n : Int) : FnP Tryz.prog 288 [.int .i64 n] (.int .i64 (numE n)) := by
  refine mkS 5 [] Tryz.func288 rfl (by kernel_rfl) ?_
  repeat'
    (conv => arg 2; whnf)
    first
    | refine okAsk (by kernel_rfl) ?_
    | refine okBrT ?_
    | refine okBrF ?_
    | refine okBr (fun h => ?_) (fun h => ?_)
    | refine okFn (xIn_s _ _ _) rfl (Cos.refl _) ?_
    | refine okWrap (w64 (by omega) (by omega)) ?_
    | refine endInt (.inr rfl) rfl rfl
theorem xPos_s [Wd] (n : Int) : FnP Tryz.prog 291 [.int .i64 n] (.int .i64 (posE n)) := by
  refine mkS 5 [] Tryz.func291 rfl (by kernel_rfl) ?_
  repeat'
    (conv => arg 2; whnf)
    first
    | refine okAsk (by kernel_rfl) ?_
    | refine okBrT ?_
    | refine okBrF ?_
    | refine okBr (fun h => ?_) (fun h => ?_)
    | refine okFn (xIn_s _ _ _) rfl (Cos.refl _) ?_
    | refine okWrap (w64 (by omega) (by omega)) ?_
    | refine endInt (.inr rfl) rfl rfl
theorem xBroker_s [Wd] (n : Int) : FnP Tryz.prog 292 [.int .i64 n] (.int .i64 (brokE n)) := by
  refine mkS 5 [] Tryz.func292 rfl (by kernel_rfl) ?_
  repeat'
    (conv => arg 2; whnf)
    first
    | refine okAsk (by kernel_rfl) ?_
    | refine okBrT ?_
    | refine okBrF ?_
    | refine okBr (fun h => ?_) (fun h => ?_)
    | refine okFn (xIn_s _ _ _) rfl (Cos.refl _) ?_
    | refine okWrap (w64 (by omega) (by omega)) ?_
    | refine endInt (.inr rfl) rfl rfl
theorem list_id_at {l : List Int} {q : Nat} {x : Int} (hx : l[q]? = some x) (he : listE id (l.take q) = 0) : listE id l = orE x (listE id (l.drop (q + 1))) := by
  have hlt := (List.getElem?_eq_some_iff.1 hx).1
  have e : l = l.take q ++ x :: l.drop (q + 1) := by
    conv => lhs; rw [← List.take_append_drop q l]
    rw [List.drop_eq_getElem_cons hlt, (List.getElem?_eq_some_iff.1 hx).2]
  have ap : ∀ a b : List Int, listE id (a ++ b) = orE (listE id a) (listE id b) := fun a b => by
    induction a with
    | nil => simp [listE, z_orE]
    | cons y r ih => simp only [List.cons_append, listE, ih, orE_assoc]
  rw [e, ap, he, z_orE, ← e]
  rfl
theorem xFirst_s [Wd] (l : List Int) (hl : l.length ≤ 4194304) : FnP Tryz.prog 244 [.list 1 (l.map cNum)] (.int .i64 (listE id l)) := by
  refine mkS 19 [] Tryz.func244 rfl (by kernel_rfl) ?_
  repeat'
    (conv => arg 2; whnf)
    first
    | refine okAsk (by kernel_rfl) ?_
  refine okLoop (α := Nat) (fun q => ⟨[(3, .int .i64 q), (0, .list 1 (l.map cNum))], []⟩) (fun q => q ≤ l.length ∧ listE id (l.take q) = 0) (fun q => l.length - q) 0 ⟨Nat.zero_le _, rfl⟩ (Sv.mk' [] rfl trivial ⟨rfl, rfl, trivial⟩) ?_
  rintro q ⟨hq, he⟩
  repeat'
    (conv => arg 2; whnf)
    first
    | refine okAsk (by kernel_rfl) ?_
    | refine okBrT ?_
    | refine okBrF ?_
    | refine okBr (fun h => ?_) (fun h => ?_)
    | refine okNthAt hx ?_
    | refine okNthMap (l := l) (by simp at h; omega) (fun x hx => ?_)
    | refine okWrap (w64 (by omega) (by have := (List.getElem?_eq_some_iff.1 hx).1; omega)) ?_
    | refine okAgain (q + 1) (Sv.mk' [] rfl trivial ⟨rfl, rfl, trivial⟩) ⟨by have := (List.getElem?_eq_some_iff.1 hx).1; omega, by rw [listE_at id hx, he, z_orE]; simpa using h⟩ (by have := (List.getElem?_eq_some_iff.1 hx).1; omega)
    | refine okOut ?_
    | refine okRet ?_
    | (have hp := list_id_at hx he; refine endInt (.inr rfl) rfl ?_; rw [hp, orE, if_neg (by simpa using h)])
    | (refine endInt (.inr rfl) rfl ?_; rw [List.take_of_length_le (by simp at h; omega)] at he; exact he.symm)
end Go.Proofs.YteaggenihhaajaaGreat

/- bullaref10's checks of certificates, changes, proofs, new views, over data (printed by gen_be.py). -/
namespace Go.Proofs.YteaggenihhaajaaGreat
open Go.RowKit
set_option linter.unusedVariables false
set_option maxRecDepth 20000

theorem listE_no {α : Type} {f : α → Int} {l : List α} {q : Nat} {x : α} (hx : l[q]? = some x) (he : listE f (l.take q) = 0) (hne : ¬ f x = 0) : listE f l = f x := by
  have hlt := (List.getElem?_eq_some_iff.1 hx).1
  have e : l = l.take q ++ x :: l.drop (q + 1) := by
    conv => lhs; rw [← List.take_append_drop q l]
    rw [List.drop_eq_getElem_cons hlt, (List.getElem?_eq_some_iff.1 hx).2]
  have ap : ∀ a b : List α, listE f (a ++ b) = orE (listE f a) (listE f b) := fun a b => by
    induction a with
    | nil => simp [listE, z_orE]
    | cons y r ih => simp only [List.cons_append, listE, ih, orE_assoc]
  rw [e, ap, he, z_orE, listE, orE, if_neg hne]
theorem listE_all {α : Type} {f : α → Int} {l : List α} {q : Nat} (hq : ¬ q < l.length) (he : listE f (l.take q) = 0) : listE f l = 0 := by
  rwa [List.take_of_length_le (by omega)] at he
theorem many_eq (n : Nat) (m : Int) : manyE n m = if m < (n : Int) then 100 else 0 := by
  unfold manyE rangeE
  split <;> split <;> first | rfl | omega
theorem xName_s [Wd] (s : List UInt8) (hs : s.length ≤ 4194304) : FnP Tryz.prog 300 [.str s] (.int .i64 (nameE s)) := by
  refine mkS 6 [] Tryz.func300 rfl (by kernel_rfl) ?_
  repeat'
    (conv => arg 2; whnf)
    first
    | refine okAsk (by kernel_rfl) ?_
    | refine okBrT ?_
    | refine okBrF ?_
    | refine okBr (fun h => ?_) (fun h => ?_)
    | refine okFn (rName_s s hs) rfl (Cos.refl _) ?_
    | (refine endInt (.inr rfl) rfl ?_; simp_all [nameE]; done)
theorem signs_sh (l : List SignD) : signsE l = orE (if (13 : Int) < l.length then 100 else 0) (listE signE l) := by rw [signsE, many_eq]
theorem cert_sh (c : CertD) : certE c = orE (listE id [numE c.seq, numE c.digest]) (orE (if (decide (c.seq = 0) != decide (c.digest = 0)) || (decide (c.seq = 0) && decide (0 < c.signs.length)) then 100 else 0) (signsE c.signs)) := by
  simp [certE, listE, orE_assoc, orE_z]
theorem prep_sh (p : PreparedD) : prepE p = listE id [numE p.view, posE p.seq, posE p.digest, signE p.firstS, signsE p.signs, batchE p.batch] := by
  simp [prepE, listE, orE_z]
def bodyE (c : ChangeD) : Int := orE (listE id [posE c.view, brokE c.src, certE c.cert]) (orE (if (8 : Int) < c.above.length then 100 else 0) (listE prepE c.above))
theorem chg_sh (c : ChangeD) : chgE c = listE id [bodyE c, signE c.sign] := by
  simp [chgE, bodyE, listE, orE_assoc, orE_z, many_eq]
theorem entry_sh (x : EntryD) : entryE x = listE id [numE x.view, posE x.seq, batchE x.batch, signE x.sign] := by
  simp [entryE, listE, orE_z]
theorem head_sh (h : HeaderD) : headE h = listE id [posE h.seq, numE h.prev, numE h.batch, numE h.root, numE h.state] := by
  simp [headE, listE, orE_z]
theorem proof_sh (p : ProofD) : proofE p = orE (listE id [nameE p.topic, numE p.offset, rangeE (p.record.length : Int) 0 64, rangeE (p.headers.length : Int) 0 64]) (orE (listE headE p.headers) (orE (listE id [numE p.index, rangeE p.count 0 16]) (orE (rangeE p.index 0 (p.count - 1)) (orE (manyE p.path.length 8) (orE (listE numE p.path) (certE p.cert)))))) := by
  simp [proofE, listE, orE_assoc, orE_z, manyE]
theorem new_sh (m : MsgD) : orE (newE m) (signE m.sign) = orE (listE id [brokE m.src, posE m.view, rangeE (m.changes.length : Int) 0 13]) (orE (listE chgE m.changes) (orE (manyE m.entries.length 8) (orE (listE entryE m.entries) (signE m.sign)))) := by
  simp [newE, listE, orE_assoc, orE_z, manyE]
theorem xSigns_s [Wd] (l : List SignD) (HL : l.length ≤ 4194304) : FnP Tryz.prog 289 [.list 2 (l.map cSign)] (.int .i64 (signsE l)) := by
  refine mkS 22 [] Tryz.func289 rfl (by kernel_rfl) ?_
  repeat'
    (conv => arg 2; whnf)
    first
    | refine okAsk (by kernel_rfl) ?_
    | refine okBrT ?_
    | refine okBrF ?_
    | refine okBr (fun h => ?_) (fun h => ?_)
    | (refine endInt (.inr rfl) rfl ?_; rw [signs_sh]; simp_all [orE]; done)
    | (refine endInt (.inr rfl) rfl ?_; rw [signs_sh]; simp_all [orE]; omega)
  refine okLoop (α := Nat) (fun q => ⟨[(3, .int .i64 q), (0, .list 2 (l.map cSign))], []⟩) (fun q => q ≤ l.length ∧ listE signE (l.take q) = 0) (fun q => l.length - q) 0 ⟨Nat.zero_le _, rfl⟩ (Sv.mk' [] rfl trivial ⟨rfl, rfl, trivial⟩) ?_
  rintro q ⟨hq, he⟩
  repeat'
    (conv => arg 2; whnf)
    first
    | refine okAsk (by kernel_rfl) ?_
    | refine okBrT ?_
    | refine okBrF ?_
    | refine okBr (fun h => ?_) (fun h => ?_)
    | refine okNthAt hx ?_
    | refine okNthMap (l := l) (by simp at h; omega) (fun x hx => ?_)
    | refine okFn (rCheckSign_s x) rfl (Cos.refl _) ?_
    | refine okWrap (w64 (by omega) (by have := (List.getElem?_eq_some_iff.1 hx).1; omega)) ?_
    | refine okAgain (q + 1) (Sv.mk' [] rfl trivial ⟨rfl, rfl, trivial⟩) ⟨by have := (List.getElem?_eq_some_iff.1 hx).1; omega, by rw [listE_at signE hx, he, z_orE]; simpa using h⟩ (by have := (List.getElem?_eq_some_iff.1 hx).1; omega)
    | refine okOut ?_
    | refine okRet ?_
    | (have hne : ¬ signE x = 0 := (by simpa using h); have hp0 := listE_no hx he hne; refine endInt (.inr rfl) rfl ?_; clear he hq hx; rw [signs_sh]; simp_all [orE]; done)
    | (have hp0 := listE_all (f := signE) (l := l) (by simp at h; omega) he; refine endInt (.inr rfl) rfl ?_; clear he hq h; rw [signs_sh]; simp_all [orE]; done)
    | (have hp0 := listE_all (f := signE) (l := l) (by simp at h; omega) he; refine endInt (.inr rfl) rfl ?_; clear he hq; rw [signs_sh]; simp_all [orE]; omega)
theorem xCert_s [Wd] (c : CertD) (hc : dCert.ok c) : FnP Tryz.prog 241 [.agg (cCert c)] (.int .i64 (certE c)) := by
  by_cases h0 : listE id [numE c.seq, numE c.digest] = 0
  · have z : 0 ≤ c.seq ∧ 0 ≤ c.digest := by
      simp only [listE, id, orE_zero] at h0
      exact ⟨(rangeE0 h0.1).1, (rangeE0 h0.2.1).1⟩
    refine mkS 42 [(1, ⟨[(0, false), (1, false), (3, false), (4, false), (2, true), (5, true), (6, true), (7, true), (8, false)], []⟩)] Tryz.func241 rfl (by kernel_rfl) ?_
    repeat'
      (conv => arg 2; whnf)
      first
      | refine okAsk (by kernel_rfl) ?_
      | refine okBrT ?_
      | refine okBrF ?_
      | refine okBr (fun h => ?_) (fun h => ?_)
      | refine okFn (xNum_s _) rfl (Cos.refl _) ?_
      | refine okFn (xFirst_s [numE c.seq, numE c.digest] (by simp)) rfl (Cos.refl _) ?_
      | refine okFn (xSigns_s c.signs hc.2.2.1) rfl (Cos.refl _) ?_
      | (exfalso; simp [h0] at h; done)
      | (refine endInt (.inr rfl) rfl ?_; rw [cert_sh, h0, z_orE]; by_cases h1 : c.seq = 0 <;> by_cases h2 : c.digest = 0 <;> by_cases h3 : 0 < c.signs.length <;> simp_all [orE]; done)
      | (refine endInt (.inr rfl) rfl ?_; rw [cert_sh, h0, z_orE]; by_cases h1 : c.seq = 0 <;> by_cases h2 : c.digest = 0 <;> by_cases h3 : 0 < c.signs.length <;> simp_all [orE] <;> omega)
      | (exfalso; simp_all; omega)
  · refine mkS 42 [(1, ⟨[(0, false), (1, false), (3, false), (4, false), (2, true), (5, true), (6, true), (7, true), (8, false)], []⟩)] Tryz.func241 rfl (by kernel_rfl) ?_
    repeat'
      (conv => arg 2; whnf)
      first
      | refine okAsk (by kernel_rfl) ?_
      | refine okBrT ?_
      | refine okBrF ?_
      | refine okBr (fun h => ?_) (fun h => ?_)
      | refine okFn (xNum_s _) rfl (Cos.refl _) ?_
      | refine okFn (xFirst_s [numE c.seq, numE c.digest] (by simp)) rfl (Cos.refl _) ?_
      | refine okFn (xSigns_s c.signs hc.2.2.1) rfl (Cos.refl _) ?_
      | (exfalso; simp [h0] at h; done)
      | (refine endInt (.inr rfl) rfl ?_; rw [cert_sh]; simp_all [orE]; done)
theorem xPrepared_s [Wd] (p : PreparedD) (hp : dPrepared.ok p) : FnP Tryz.prog 293 [.agg (cPrepared p)] (.int .i64 (prepE p)) := by
  refine mkS 23 [(1, ⟨[(0, false), (1, false), (3, false), (4, false), (6, false), (7, false), (9, false), (10, false), (12, false), (13, false), (15, false), (16, false), (2, true), (5, true), (8, true), (11, true), (14, true), (17, true), (18, true), (19, true), (20, false)], []⟩)] Tryz.func293 rfl (by kernel_rfl) ?_
  repeat'
    (conv => arg 2; whnf)
    first
    | refine okAsk (by kernel_rfl) ?_
    | refine okBrT ?_
    | refine okBrF ?_
    | refine okBr (fun h => ?_) (fun h => ?_)
    | refine okFn (xNum_s _) rfl (Cos.refl _) ?_
    | refine okFn (xPos_s _) rfl (Cos.refl _) ?_
    | refine okFn (rCheckSign_s p.firstS) rfl (Cos.refl _) ?_
    | refine okFn (xSigns_s p.signs hp.2.2.2.2.1.1) rfl (Cos.refl _) ?_
    | refine okFn (rCheckBatch_s p.batch hp.2.2.2.2.2) rfl (Cos.refl _) ?_
    | refine okFn (xFirst_s [numE p.view, posE p.seq, posE p.digest, signE p.firstS, signsE p.signs, batchE p.batch] (by simp)) rfl (Cos.refl _) ?_
    | refine endInt (.inr rfl) rfl (prep_sh p).symm
theorem xBody_s [Wd] (c : ChangeD) (hc : dChange.ok c) : FnP Tryz.prog 245 [.agg (cChange c)] (.int .i64 (bodyE c)) := by
  have HL : c.above.length ≤ 4194304 := hc.2.2.2.1.1
  refine mkS 40 [(1, ⟨[(0, false), (1, false), (3, false), (4, false), (6, false), (7, false), (2, true), (5, true), (8, true), (9, true), (10, true), (11, false)], []⟩)] Tryz.func245 rfl (by kernel_rfl) ?_
  repeat'
    (conv => arg 2; whnf)
    first
    | refine okAsk (by kernel_rfl) ?_
    | refine okBrT ?_
    | refine okBrF ?_
    | refine okBr (fun h => ?_) (fun h => ?_)
    | refine okFn (xPos_s _) rfl (Cos.refl _) ?_
    | refine okFn (xBroker_s _) rfl (Cos.refl _) ?_
    | refine okFn (xCert_s c.cert hc.2.2.1) rfl (Cos.refl _) ?_
    | refine okFn (xFirst_s [posE c.view, brokE c.src, certE c.cert] (by simp)) rfl (Cos.refl _) ?_
    | (refine endInt (.inr rfl) rfl ?_; rw [bodyE]; simp_all [orE]; done)
    | (refine endInt (.inr rfl) rfl ?_; rw [bodyE]; simp_all [orE]; omega)
  refine okLoop (α := Nat) (fun q => ⟨[(4, .int .i64 q), (1, .ptr 0 0)], [.cells 77 (cChange c)]⟩) (fun q => q ≤ c.above.length ∧ listE prepE (c.above.take q) = 0) (fun q => c.above.length - q) 0 ⟨Nat.zero_le _, rfl⟩ (Sv.mk' [0] rfl ⟨⟨rfl, rfl⟩, trivial⟩ ⟨rfl, rfl, trivial⟩) ?_
  rintro q ⟨hq, he⟩
  repeat'
    (conv => arg 2; whnf)
    first
    | refine okAsk (by kernel_rfl) ?_
    | refine okBrT ?_
    | refine okBrF ?_
    | refine okBr (fun h => ?_) (fun h => ?_)
    | refine okNthAt hx ?_
    | refine okNthMap (l := c.above) (by simp at h; omega) (fun x hx => ?_)
    | refine okFn (xPrepared_s x (hc.2.2.2.1.2 x (List.mem_of_getElem? hx))) rfl (Cos.refl _) ?_
    | refine okWrap (w64 (by omega) (by have := (List.getElem?_eq_some_iff.1 hx).1; omega)) ?_
    | refine okAgain (q + 1) (Sv.mk' [0] rfl ⟨⟨rfl, rfl⟩, trivial⟩ ⟨rfl, rfl, trivial⟩) ⟨by have := (List.getElem?_eq_some_iff.1 hx).1; omega, by rw [listE_at prepE hx, he, z_orE]; simpa using h⟩ (by have := (List.getElem?_eq_some_iff.1 hx).1; omega)
    | refine okOut ?_
    | refine okRet ?_
    | (have hne : ¬ prepE x = 0 := (by simpa using h); have hp0 := listE_no hx he hne; refine endInt (.inr rfl) rfl ?_; clear he hq hx; rw [bodyE]; simp_all [orE]; done)
    | (have hp0 := listE_all (f := prepE) (l := c.above) (by simp at h; omega) he; refine endInt (.inr rfl) rfl ?_; clear he hq h; rw [bodyE]; simp_all [orE]; done)
    | (have hp0 := listE_all (f := prepE) (l := c.above) (by simp at h; omega) he; refine endInt (.inr rfl) rfl ?_; clear he hq; rw [bodyE]; simp_all [orE]; omega)
theorem xChange_s [Wd] (c : ChangeD) (hc : dChange.ok c) : FnP Tryz.prog 197 [.agg (cChange c)] (.int .i64 (chgE c)) := by
  refine mkS 10 [(1, ⟨[(0, false), (2, false), (3, false), (1, true), (4, true), (5, true), (6, true), (7, false)], []⟩)] Tryz.func197 rfl (by kernel_rfl) ?_
  repeat'
    (conv => arg 2; whnf)
    first
    | refine okAsk (by kernel_rfl) ?_
    | refine okBrT ?_
    | refine okBrF ?_
    | refine okBr (fun h => ?_) (fun h => ?_)
    | refine okFn (xBody_s c hc) rfl (Cos.refl _) ?_
    | refine okFn (rCheckSign_s c.sign) rfl (Cos.refl _) ?_
    | refine okFn (xFirst_s [bodyE c, signE c.sign] (by simp)) rfl (Cos.refl _) ?_
    | refine endInt (.inr rfl) rfl (chg_sh c).symm
theorem xEntry_s [Wd] (x : EntryD) (hx : dEntry.ok x) : FnP Tryz.prog 327 [.agg (cEntry x)] (.int .i64 (entryE x)) := by
  refine mkS 17 [(1, ⟨[(0, false), (1, false), (3, false), (4, false), (6, false), (7, false), (9, false), (10, false), (2, true), (5, true), (8, true), (11, true), (12, true), (13, true), (14, false)], []⟩)] Tryz.func327 rfl (by kernel_rfl) ?_
  repeat'
    (conv => arg 2; whnf)
    first
    | refine okAsk (by kernel_rfl) ?_
    | refine okBrT ?_
    | refine okBrF ?_
    | refine okBr (fun h => ?_) (fun h => ?_)
    | refine okFn (xNum_s _) rfl (Cos.refl _) ?_
    | refine okFn (xPos_s _) rfl (Cos.refl _) ?_
    | refine okFn (rCheckBatch_s x.batch hx.2.2.1) rfl (Cos.refl _) ?_
    | refine okFn (rCheckSign_s x.sign) rfl (Cos.refl _) ?_
    | refine okFn (xFirst_s [numE x.view, posE x.seq, batchE x.batch, signE x.sign] (by simp)) rfl (Cos.refl _) ?_
    | refine endInt (.inr rfl) rfl (entry_sh x).symm
theorem xHeader_s [Wd] (h : HeaderD) : FnP Tryz.prog 328 [.agg (cHeader h)] (.int .i64 (headE h)) := by
  refine mkS 20 [(1, ⟨[(0, false), (1, false), (3, false), (4, false), (6, false), (7, false), (9, false), (10, false), (12, false), (13, false), (2, true), (5, true), (8, true), (11, true), (14, true), (15, true), (16, true), (17, false)], []⟩)] Tryz.func328 rfl (by kernel_rfl) ?_
  repeat'
    (conv => arg 2; whnf)
    first
    | refine okAsk (by kernel_rfl) ?_
    | refine okBrT ?_
    | refine okBrF ?_
    | refine okBr (fun h => ?_) (fun h => ?_)
    | refine okFn (xNum_s _) rfl (Cos.refl _) ?_
    | refine okFn (xPos_s _) rfl (Cos.refl _) ?_
    | refine okFn (xFirst_s [posE h.seq, numE h.prev, numE h.batch, numE h.root, numE h.state] (by simp)) rfl (Cos.refl _) ?_
    | refine endInt (.inr rfl) rfl (head_sh h).symm
theorem xProof_s [Wd] (p : ProofD) (hp : dProof.ok p) : FnP Tryz.prog 301 [.agg (cProof p)] (.int .i64 (proofE p)) := by
  have HL : p.headers.length ≤ 4194304 := hp.2.2.2.1.1
  have HL2 : p.path.length ≤ 4194304 := hp.2.2.2.2.2.2.1.1
  refine mkS 85 [(1, ⟨[(0, false), (1, false), (3, false), (4, false), (6, false), (7, false), (8, false), (10, false), (11, false), (12, false), (2, true), (5, true), (9, true), (13, true), (14, true), (15, true), (16, false)], []⟩), (10, ⟨[(0, false), (1, false), (3, false), (4, false), (2, true), (5, true), (6, true), (7, true), (8, false)], []⟩)] Tryz.func301 rfl (by kernel_rfl) ?_
  repeat'
    (conv => arg 2; whnf)
    first
    | refine okAsk (by kernel_rfl) ?_
    | refine okBrT ?_
    | refine okBrF ?_
    | refine okBr (fun h => ?_) (fun h => ?_)
    | refine okFn (xName_s p.topic hp.1) rfl (Cos.refl _) ?_
    | refine okFn (xNum_s _) rfl (Cos.refl _) ?_
    | refine okFn (xIn_s _ _ _) rfl (Cos.refl _) ?_
    | refine okFn (xFirst_s [nameE p.topic, numE p.offset, rangeE ((p.record.map cByte).length : Int) 0 64, rangeE ((p.headers.map cHeader).length : Int) 0 64] (by simp)) rfl (Cos.refl _) ?_
    | (refine endInt (.inr rfl) rfl ?_; rw [proof_sh]; simp only [List.length_map] at *; simp_all [orE]; done)
  refine okLoop (α := Nat) (fun q => ⟨[(4, .int .i64 q), (1, .ptr 0 0)], [.cells 120 (cProof p)]⟩) (fun q => q ≤ p.headers.length ∧ listE headE (p.headers.take q) = 0) (fun q => p.headers.length - q) 0 ⟨Nat.zero_le _, rfl⟩ (Sv.mk' [0] rfl ⟨⟨rfl, rfl⟩, trivial⟩ ⟨rfl, rfl, trivial⟩) ?_
  rintro q ⟨hq, he⟩
  repeat'
    (conv => arg 2; whnf)
    first
    | refine okAsk (by kernel_rfl) ?_
    | refine okBrT ?_
    | refine okBrF ?_
    | refine okBr (fun h => ?_) (fun h => ?_)
    | refine okNthAt hx ?_
    | refine okNthMap (l := p.headers) (by simp at h; omega) (fun x hx => ?_)
    | refine okFn (xHeader_s x) rfl (Cos.refl _) ?_
    | refine okWrap (w64 (by omega) (by have := (List.getElem?_eq_some_iff.1 hx).1; omega)) ?_
    | refine okAgain (q + 1) (Sv.mk' [0] rfl ⟨⟨rfl, rfl⟩, trivial⟩ ⟨rfl, rfl, trivial⟩) ⟨by have := (List.getElem?_eq_some_iff.1 hx).1; omega, by rw [listE_at headE hx, he, z_orE]; simpa using h⟩ (by have := (List.getElem?_eq_some_iff.1 hx).1; omega)
    | refine okOut ?_
    | refine okRet ?_
    | (have hne : ¬ headE x = 0 := (by simpa using h); have hp0 := listE_no hx he hne; refine endInt (.inr rfl) rfl ?_; clear he hq hx; rw [proof_sh]; simp only [List.length_map] at *; simp_all [orE]; done)
  have hp0 : listE headE p.headers = 0 := listE_all (by simp at h; omega) he
  clear he hq h
  by_cases h1 : listE id [numE p.index, rangeE p.count 0 16] = 0
  rotate_left
  · repeat'
      (conv => arg 2; whnf)
      first
      | refine okAsk (by kernel_rfl) ?_
      | refine okBrT ?_
      | refine okBrF ?_
      | refine okBr (fun h => ?_) (fun h => ?_)
      | refine okFn (xNum_s _) rfl (Cos.refl _) ?_
      | refine okFn (xIn_s _ _ _) rfl (Cos.refl _) ?_
      | refine okFn (xFirst_s [numE p.index, rangeE p.count 0 16] (by simp)) rfl (Cos.refl _) ?_
      | (refine endInt (.inr rfl) rfl ?_; rw [proof_sh]; simp only [List.length_map] at *; simp_all [orE]; done)
      | (exfalso; simp [] at h; done)
    all_goals (exfalso; simp_all; done)
  have z : 0 ≤ p.index := by
    simp only [listE, id, orE_zero] at h1
    exact (rangeE0 h1.1).1
  have hr : rangeE p.index 0 (p.count - 1) = if p.count ≤ p.index then 100 else 0 := by
    unfold rangeE
    split <;> split <;> first | rfl | omega
  repeat'
    (conv => arg 2; whnf)
    first
    | refine okAsk (by kernel_rfl) ?_
    | refine okBrT ?_
    | refine okBrF ?_
    | refine okBr (fun h => ?_) (fun h => ?_)
    | refine okFn (xNum_s _) rfl (Cos.refl _) ?_
    | refine okFn (xIn_s _ _ _) rfl (Cos.refl _) ?_
    | refine okFn (xFirst_s [numE p.index, rangeE p.count 0 16] (by simp)) rfl (Cos.refl _) ?_
    | (refine endInt (.inr rfl) rfl ?_; rw [proof_sh]; simp only [List.length_map] at *; simp_all [orE, many_eq]; done)
    | (refine endInt (.inr rfl) rfl ?_; rw [proof_sh]; simp only [List.length_map] at *; simp_all [orE, many_eq]; intros; omega)
    | (exfalso; simp [] at h; done)
  have h8 : ¬ p.count ≤ p.index ∧ ¬ 8 < p.path.length := by simp_all; omega
  rw [if_neg h8.1] at hr
  refine okLoop (α := Nat) (fun q => ⟨[(7, .int .i64 q), (1, .ptr 0 0)], [.cells 120 (cProof p)]⟩) (fun q => q ≤ p.path.length ∧ listE numE (p.path.take q) = 0) (fun q => p.path.length - q) 0 ⟨Nat.zero_le _, rfl⟩ (Sv.mk' [0] rfl ⟨⟨rfl, rfl⟩, trivial⟩ ⟨rfl, rfl, trivial⟩) ?_
  rintro q ⟨hq, he⟩
  repeat'
    (conv => arg 2; whnf)
    first
    | refine okAsk (by kernel_rfl) ?_
    | refine okBrT ?_
    | refine okBrF ?_
    | refine okBr (fun h => ?_) (fun h => ?_)
    | refine okNthAt hx ?_
    | refine okNthMap (l := p.path) (by simp at h; omega) (fun x hx => ?_)
    | refine okFn (xNum_s _) rfl (Cos.refl _) ?_
    | refine okFn (xCert_s p.cert hp.2.2.2.2.2.2.2) rfl (Cos.refl _) ?_
    | refine okWrap (w64 (by omega) (by have := (List.getElem?_eq_some_iff.1 hx).1; omega)) ?_
    | refine okAgain (q + 1) (Sv.mk' [0] rfl ⟨⟨rfl, rfl⟩, trivial⟩ ⟨rfl, rfl, trivial⟩) ⟨by have := (List.getElem?_eq_some_iff.1 hx).1; omega, by rw [listE_at numE hx, he, z_orE]; simpa using h⟩ (by have := (List.getElem?_eq_some_iff.1 hx).1; omega)
    | refine okOut ?_
    | refine okRet ?_
    | (have hne : ¬ numE x = 0 := (by simpa using h); have hp1 := listE_no hx he hne; refine endInt (.inr rfl) rfl ?_; clear he hq hx; rw [proof_sh]; simp only [List.length_map] at *; simp_all [orE, many_eq]; done)
    | (have hp1 := listE_all (f := numE) (l := p.path) (by simp at h; omega) he; refine endInt (.inr rfl) rfl ?_; clear he hq h; rw [proof_sh]; simp only [List.length_map] at *; simp_all [orE, many_eq]; done)
    | (have hp1 := listE_all (f := numE) (l := p.path) (by simp at h; omega) he; refine endInt (.inr rfl) rfl ?_; clear he hq; rw [proof_sh]; simp only [List.length_map] at *; simp_all [orE, many_eq]; omega)
theorem xNew_s [Wd] (m : MsgD) (hm : dMsg.ok m) : FnP Tryz.prog 299 [.agg (cMsg m)] (.int .i64 (orE (newE m) (signE m.sign))) := by
  have HL : m.changes.length ≤ 4194304 := hm.2.2.2.2.2.2.2.2.2.2.1.1
  have HL2 : m.entries.length ≤ 4194304 := hm.2.2.2.2.2.2.2.2.2.2.2.1.1
  refine mkS 62 [(1, ⟨[(0, false), (1, false), (3, false), (4, false), (6, false), (7, false), (8, false), (2, true), (5, true), (9, true), (10, true), (11, true), (12, false)], []⟩)] Tryz.func299 rfl (by kernel_rfl) ?_
  repeat'
    (conv => arg 2; whnf)
    first
    | refine okAsk (by kernel_rfl) ?_
    | refine okBrT ?_
    | refine okBrF ?_
    | refine okBr (fun h => ?_) (fun h => ?_)
    | refine okFn (xBroker_s _) rfl (Cos.refl _) ?_
    | refine okFn (xPos_s _) rfl (Cos.refl _) ?_
    | refine okFn (xIn_s _ _ _) rfl (Cos.refl _) ?_
    | refine okFn (xFirst_s [brokE m.src, posE m.view, rangeE ((m.changes.map cChange).length : Int) 0 13] (by simp)) rfl (Cos.refl _) ?_
    | (refine endInt (.inr rfl) rfl ?_; rw [new_sh]; simp only [List.length_map] at *; simp_all [orE]; done)
  refine okLoop (α := Nat) (fun q => ⟨[(4, .int .i64 q), (1, .ptr 0 0)], [.cells 122 (cMsg m)]⟩) (fun q => q ≤ m.changes.length ∧ listE chgE (m.changes.take q) = 0) (fun q => m.changes.length - q) 0 ⟨Nat.zero_le _, rfl⟩ (Sv.mk' [0] rfl ⟨⟨rfl, rfl⟩, trivial⟩ ⟨rfl, rfl, trivial⟩) ?_
  rintro q ⟨hq, he⟩
  repeat'
    (conv => arg 2; whnf)
    first
    | refine okAsk (by kernel_rfl) ?_
    | refine okBrT ?_
    | refine okBrF ?_
    | refine okBr (fun h => ?_) (fun h => ?_)
    | refine okNthAt hx ?_
    | refine okNthMap (l := m.changes) (by simp at h; omega) (fun x hx => ?_)
    | refine okFn (xChange_s x (hm.2.2.2.2.2.2.2.2.2.2.1.2 x (List.mem_of_getElem? hx))) rfl (Cos.refl _) ?_
    | refine okWrap (w64 (by omega) (by have := (List.getElem?_eq_some_iff.1 hx).1; omega)) ?_
    | refine okAgain (q + 1) (Sv.mk' [0] rfl ⟨⟨rfl, rfl⟩, trivial⟩ ⟨rfl, rfl, trivial⟩) ⟨by have := (List.getElem?_eq_some_iff.1 hx).1; omega, by rw [listE_at chgE hx, he, z_orE]; simpa using h⟩ (by have := (List.getElem?_eq_some_iff.1 hx).1; omega)
    | refine okOut ?_
    | refine okRet ?_
    | (have hne : ¬ chgE x = 0 := (by simpa using h); have hp0 := listE_no hx he hne; refine endInt (.inr rfl) rfl ?_; clear he hq hx; rw [new_sh]; simp only [List.length_map] at *; simp_all [orE]; done)
  all_goals
    rename_i hq2
    have hp0 : listE chgE m.changes = 0 := listE_all (by simp at hq2; omega) he
    clear he hq hq2
  · repeat'
      (conv => arg 2; whnf)
      first
      | refine okAsk (by kernel_rfl) ?_
      | refine okBrT ?_
      | refine okBrF ?_
      | refine okBr (fun h => ?_) (fun h => ?_)
      | (refine endInt (.inr rfl) rfl ?_; rw [new_sh]; simp only [List.length_map] at *; simp_all [orE, many_eq]; done)
      | (refine endInt (.inr rfl) rfl ?_; rw [new_sh]; simp only [List.length_map] at *; simp_all [orE, many_eq]; intros; omega)
  have h8 : ¬ (8 : Int) < (m.entries.length : Int) := by simp at h; omega
  clear h
  refine okLoop (α := Nat) (fun q => ⟨[(6, .int .i64 q), (1, .ptr 0 0)], [.cells 122 (cMsg m)]⟩) (fun q => q ≤ m.entries.length ∧ listE entryE (m.entries.take q) = 0) (fun q => m.entries.length - q) 0 ⟨Nat.zero_le _, rfl⟩ (Sv.mk' [0] rfl ⟨⟨rfl, rfl⟩, trivial⟩ ⟨rfl, rfl, trivial⟩) ?_
  rintro q ⟨hq, he⟩
  repeat'
    (conv => arg 2; whnf)
    first
    | refine okAsk (by kernel_rfl) ?_
    | refine okBrT ?_
    | refine okBrF ?_
    | refine okBr (fun h => ?_) (fun h => ?_)
    | refine okNthAt hx ?_
    | refine okNthMap (l := m.entries) (by simp at h; omega) (fun x hx => ?_)
    | refine okFn (xEntry_s x (hm.2.2.2.2.2.2.2.2.2.2.2.1.2 x (List.mem_of_getElem? hx))) rfl (Cos.refl _) ?_
    | refine okFn (rCheckSign_s m.sign) rfl (Cos.refl _) ?_
    | refine okWrap (w64 (by omega) (by have := (List.getElem?_eq_some_iff.1 hx).1; omega)) ?_
    | refine okAgain (q + 1) (Sv.mk' [0] rfl ⟨⟨rfl, rfl⟩, trivial⟩ ⟨rfl, rfl, trivial⟩) ⟨by have := (List.getElem?_eq_some_iff.1 hx).1; omega, by rw [listE_at entryE hx, he, z_orE]; simpa using h⟩ (by have := (List.getElem?_eq_some_iff.1 hx).1; omega)
    | refine okOut ?_
    | refine okRet ?_
    | (have hne : ¬ entryE x = 0 := (by simpa using h); have hp1 := listE_no hx he hne; refine endInt (.inr rfl) rfl ?_; clear he hq hx; rw [new_sh]; simp only [List.length_map] at *; simp_all [orE, many_eq]; done)
    | (have hp1 := listE_all (f := entryE) (l := m.entries) (by simp at h; omega) he; refine endInt (.inr rfl) rfl ?_; clear he hq h; rw [new_sh]; simp only [List.length_map] at *; simp_all [orE, many_eq]; done)
    | (have hp1 := listE_all (f := entryE) (l := m.entries) (by simp at h; omega) he; refine endInt (.inr rfl) rfl ?_; clear he hq; rw [new_sh]; simp only [List.length_map] at *; simp_all [orE, many_eq]; omega)
end Go.Proofs.YteaggenihhaajaaGreat

/- bullaref10: a message with the fields of its kind alone; what is wrong with a message (over data; printed by gen_bf.py). -/
namespace Go.Proofs.YteaggenihhaajaaGreat
open Go.RowKit
set_option linter.unusedVariables false
set_option maxRecDepth 20000

theorem msgKind {m : MsgD} {k : Int} (h : m.kind = k) : { m with kind := k } = m := by subst h; rfl
theorem xOnly1_s [Wd] (m : MsgD) : FnP Tryz.prog 250 [.agg (cMsg { m with kind := 1 })] (.agg (cMsg (bareF { m with kind := 1 }))) := by
  refine mkS 146 [] Tryz.func250 rfl (by kernel_rfl) ?_
  repeat'
    (conv => arg 2; whnf)
    first
    | refine okAsk (by kernel_rfl) ?_
    | refine okBrT ?_
    | refine okBrF ?_
    | refine okBr (fun h => ?_) (fun h => ?_)
    | refine endFn0 (.inr rfl) rfl (Cos.mkAgg ?_) rfl
    | (exfalso; simp_all; done)
  all_goals simp [bareF, signedK, cMsg, zMsg, zSign, zResult, zCert, zProof]
  all_goals (repeat' first | exact Cos.nil | exact Co.refl _ | exact Co.nil _ | refine Cos.cons ?_ ?_)
theorem xOnly2_s [Wd] (m : MsgD) : FnP Tryz.prog 250 [.agg (cMsg { m with kind := 2 })] (.agg (cMsg (bareF { m with kind := 2 }))) := by
  refine mkS 146 [] Tryz.func250 rfl (by kernel_rfl) ?_
  repeat'
    (conv => arg 2; whnf)
    first
    | refine okAsk (by kernel_rfl) ?_
    | refine okBrT ?_
    | refine okBrF ?_
    | refine okBr (fun h => ?_) (fun h => ?_)
    | refine endFn0 (.inr rfl) rfl (Cos.mkAgg ?_) rfl
    | (exfalso; simp_all; done)
  all_goals simp [bareF, signedK, cMsg, zMsg, zSign, zResult, zCert, zProof]
  all_goals (repeat' first | exact Cos.nil | exact Co.refl _ | exact Co.nil _ | refine Cos.cons ?_ ?_)
theorem xOnly3_s [Wd] (m : MsgD) : FnP Tryz.prog 250 [.agg (cMsg { m with kind := 3 })] (.agg (cMsg (bareF { m with kind := 3 }))) := by
  refine mkS 146 [] Tryz.func250 rfl (by kernel_rfl) ?_
  repeat'
    (conv => arg 2; whnf)
    first
    | refine okAsk (by kernel_rfl) ?_
    | refine okBrT ?_
    | refine okBrF ?_
    | refine okBr (fun h => ?_) (fun h => ?_)
    | refine endFn0 (.inr rfl) rfl (Cos.mkAgg ?_) rfl
    | (exfalso; simp_all; done)
  all_goals simp [bareF, signedK, cMsg, zMsg, zSign, zResult, zCert, zProof]
  all_goals (repeat' first | exact Cos.nil | exact Co.refl _ | exact Co.nil _ | refine Cos.cons ?_ ?_)
theorem xOnly4_s [Wd] (m : MsgD) : FnP Tryz.prog 250 [.agg (cMsg { m with kind := 4 })] (.agg (cMsg (bareF { m with kind := 4 }))) := by
  refine mkS 146 [] Tryz.func250 rfl (by kernel_rfl) ?_
  repeat'
    (conv => arg 2; whnf)
    first
    | refine okAsk (by kernel_rfl) ?_
    | refine okBrT ?_
    | refine okBrF ?_
    | refine okBr (fun h => ?_) (fun h => ?_)
    | refine endFn0 (.inr rfl) rfl (Cos.mkAgg ?_) rfl
    | (exfalso; simp_all; done)
  all_goals simp [bareF, signedK, cMsg, zMsg, zSign, zResult, zCert, zProof]
  all_goals (repeat' first | exact Cos.nil | exact Co.refl _ | exact Co.nil _ | refine Cos.cons ?_ ?_)
theorem xOnly5_s [Wd] (m : MsgD) : FnP Tryz.prog 250 [.agg (cMsg { m with kind := 5 })] (.agg (cMsg (bareF { m with kind := 5 }))) := by
  refine mkS 146 [] Tryz.func250 rfl (by kernel_rfl) ?_
  repeat'
    (conv => arg 2; whnf)
    first
    | refine okAsk (by kernel_rfl) ?_
    | refine okBrT ?_
    | refine okBrF ?_
    | refine okBr (fun h => ?_) (fun h => ?_)
    | refine endFn0 (.inr rfl) rfl (Cos.mkAgg ?_) rfl
    | (exfalso; simp_all; done)
  all_goals simp [bareF, signedK, cMsg, zMsg, zSign, zResult, zCert, zProof]
  all_goals (repeat' first | exact Cos.nil | exact Co.refl _ | exact Co.nil _ | refine Cos.cons ?_ ?_)
theorem xOnly6_s [Wd] (m : MsgD) : FnP Tryz.prog 250 [.agg (cMsg { m with kind := 6 })] (.agg (cMsg (bareF { m with kind := 6 }))) := by
  refine mkS 146 [] Tryz.func250 rfl (by kernel_rfl) ?_
  repeat'
    (conv => arg 2; whnf)
    first
    | refine okAsk (by kernel_rfl) ?_
    | refine okBrT ?_
    | refine okBrF ?_
    | refine okBr (fun h => ?_) (fun h => ?_)
    | refine endFn0 (.inr rfl) rfl (Cos.mkAgg ?_) rfl
    | (exfalso; simp_all; done)
  all_goals simp [bareF, signedK, cMsg, zMsg, zSign, zResult, zCert, zProof]
  all_goals (repeat' first | exact Cos.nil | exact Co.refl _ | exact Co.nil _ | refine Cos.cons ?_ ?_)
theorem xOnly7_s [Wd] (m : MsgD) : FnP Tryz.prog 250 [.agg (cMsg { m with kind := 7 })] (.agg (cMsg (bareF { m with kind := 7 }))) := by
  refine mkS 146 [] Tryz.func250 rfl (by kernel_rfl) ?_
  repeat'
    (conv => arg 2; whnf)
    first
    | refine okAsk (by kernel_rfl) ?_
    | refine okBrT ?_
    | refine okBrF ?_
    | refine okBr (fun h => ?_) (fun h => ?_)
    | refine endFn0 (.inr rfl) rfl (Cos.mkAgg ?_) rfl
    | (exfalso; simp_all; done)
  all_goals simp [bareF, signedK, cMsg, zMsg, zSign, zResult, zCert, zProof]
  all_goals (repeat' first | exact Cos.nil | exact Co.refl _ | exact Co.nil _ | refine Cos.cons ?_ ?_)
theorem xOnly8_s [Wd] (m : MsgD) : FnP Tryz.prog 250 [.agg (cMsg { m with kind := 8 })] (.agg (cMsg (bareF { m with kind := 8 }))) := by
  refine mkS 146 [] Tryz.func250 rfl (by kernel_rfl) ?_
  repeat'
    (conv => arg 2; whnf)
    first
    | refine okAsk (by kernel_rfl) ?_
    | refine okBrT ?_
    | refine okBrF ?_
    | refine okBr (fun h => ?_) (fun h => ?_)
    | refine endFn0 (.inr rfl) rfl (Cos.mkAgg ?_) rfl
    | (exfalso; simp_all; done)
  all_goals simp [bareF, signedK, cMsg, zMsg, zSign, zResult, zCert, zProof]
  all_goals (repeat' first | exact Cos.nil | exact Co.refl _ | exact Co.nil _ | refine Cos.cons ?_ ?_)
theorem xOnly9_s [Wd] (m : MsgD) : FnP Tryz.prog 250 [.agg (cMsg { m with kind := 9 })] (.agg (cMsg (bareF { m with kind := 9 }))) := by
  refine mkS 146 [] Tryz.func250 rfl (by kernel_rfl) ?_
  repeat'
    (conv => arg 2; whnf)
    first
    | refine okAsk (by kernel_rfl) ?_
    | refine okBrT ?_
    | refine okBrF ?_
    | refine okBr (fun h => ?_) (fun h => ?_)
    | refine endFn0 (.inr rfl) rfl (Cos.mkAgg ?_) rfl
    | (exfalso; simp_all; done)
  all_goals simp [bareF, signedK, cMsg, zMsg, zSign, zResult, zCert, zProof]
  all_goals (repeat' first | exact Cos.nil | exact Co.refl _ | exact Co.nil _ | refine Cos.cons ?_ ?_)
theorem xOnly10_s [Wd] (m : MsgD) : FnP Tryz.prog 250 [.agg (cMsg { m with kind := 10 })] (.agg (cMsg (bareF { m with kind := 10 }))) := by
  refine mkS 146 [] Tryz.func250 rfl (by kernel_rfl) ?_
  repeat'
    (conv => arg 2; whnf)
    first
    | refine okAsk (by kernel_rfl) ?_
    | refine okBrT ?_
    | refine okBrF ?_
    | refine okBr (fun h => ?_) (fun h => ?_)
    | refine endFn0 (.inr rfl) rfl (Cos.mkAgg ?_) rfl
    | (exfalso; simp_all; done)
  all_goals simp [bareF, signedK, cMsg, zMsg, zSign, zResult, zCert, zProof]
  all_goals (repeat' first | exact Cos.nil | exact Co.refl _ | exact Co.nil _ | refine Cos.cons ?_ ?_)
theorem xOnly11_s [Wd] (m : MsgD) : FnP Tryz.prog 250 [.agg (cMsg { m with kind := 11 })] (.agg (cMsg (bareF { m with kind := 11 }))) := by
  refine mkS 146 [] Tryz.func250 rfl (by kernel_rfl) ?_
  repeat'
    (conv => arg 2; whnf)
    first
    | refine okAsk (by kernel_rfl) ?_
    | refine okBrT ?_
    | refine okBrF ?_
    | refine okBr (fun h => ?_) (fun h => ?_)
    | refine endFn0 (.inr rfl) rfl (Cos.mkAgg ?_) rfl
    | (exfalso; simp_all; done)
  all_goals simp [bareF, signedK, cMsg, zMsg, zSign, zResult, zCert, zProof]
  all_goals (repeat' first | exact Cos.nil | exact Co.refl _ | exact Co.nil _ | refine Cos.cons ?_ ?_)
theorem xOnly12_s [Wd] (m : MsgD) : FnP Tryz.prog 250 [.agg (cMsg { m with kind := 12 })] (.agg (cMsg (bareF { m with kind := 12 }))) := by
  refine mkS 146 [] Tryz.func250 rfl (by kernel_rfl) ?_
  repeat'
    (conv => arg 2; whnf)
    first
    | refine okAsk (by kernel_rfl) ?_
    | refine okBrT ?_
    | refine okBrF ?_
    | refine okBr (fun h => ?_) (fun h => ?_)
    | refine endFn0 (.inr rfl) rfl (Cos.mkAgg ?_) rfl
    | (exfalso; simp_all; done)
  all_goals simp [bareF, signedK, cMsg, zMsg, zSign, zResult, zCert, zProof]
  all_goals (repeat' first | exact Cos.nil | exact Co.refl _ | exact Co.nil _ | refine Cos.cons ?_ ?_)
theorem xVote_s [Wd] (m : MsgD) (e : Int) : FnP Tryz.prog 297 [.agg (cMsg m), .int .i64 e] (.int .i64 (listE id [brokE m.src, numE m.view, posE m.seq, posE m.digest, e, signE m.sign])) := by
  refine mkS 23 [(1, ⟨[(0, false), (1, false), (3, false), (4, false), (6, false), (7, false), (9, false), (10, false), (12, false), (13, false), (14, false), (2, true), (5, true), (8, true), (11, true), (15, true), (16, true), (17, true), (18, false)], []⟩)] Tryz.func297 rfl (by kernel_rfl) ?_
  repeat'
    (conv => arg 2; whnf)
    first
    | refine okAsk (by kernel_rfl) ?_
    | refine okBrT ?_
    | refine okBrF ?_
    | refine okBr (fun h => ?_) (fun h => ?_)
    | refine okFn (xBroker_s _) rfl (Cos.refl _) ?_
    | refine okFn (xNum_s _) rfl (Cos.refl _) ?_
    | refine okFn (xPos_s _) rfl (Cos.refl _) ?_
    | refine okFn (rCheckSign_s m.sign) rfl (Cos.refl _) ?_
    | refine okFn (xFirst_s [brokE m.src, numE m.view, posE m.seq, posE m.digest, e, signE m.sign] (by simp)) rfl (Cos.refl _) ?_
    | refine endInt (.inr rfl) rfl rfl
theorem xParts1_s [Wd] (m : MsgD) (hm : dMsg.ok m) : FnP Tryz.prog 249 [.agg (cMsg { m with kind := 1 })] (.int .i64 (msgE { m with kind := 1 })) := by
  refine mkS 154 [(13, ⟨[(0, false), (1, false), (3, false), (4, false), (6, false), (7, false), (9, false), (10, false), (12, false), (13, false), (14, false), (16, false), (17, false), (18, false), (20, false), (2, true), (5, true), (8, true), (11, true), (15, true), (19, true), (21, true), (22, true), (23, false)], []⟩), (15, ⟨[(0, false), (1, false), (3, false), (4, false), (6, false), (7, false), (9, false), (2, true), (5, true), (8, true), (10, true), (11, true), (12, false)], []⟩), (28, ⟨[(0, false), (1, false), (3, false), (4, false), (6, false), (2, true), (5, true), (7, true), (8, true), (9, false)], []⟩), (30, ⟨[(0, false), (1, false), (3, false), (4, false), (6, false), (7, false), (8, false), (2, true), (5, true), (9, true), (10, true), (11, true), (12, false)], []⟩), (32, ⟨[(0, false), (1, false), (3, false), (4, false), (6, false), (7, false), (2, true), (5, true), (8, true), (9, true), (10, true), (11, false)], []⟩), (34, ⟨[(0, false), (1, false), (3, false), (4, false), (2, true), (5, true), (6, true), (7, true), (8, false)], []⟩)] Tryz.func249 rfl (by kernel_rfl) ?_
  repeat'
    (conv => arg 2; whnf)
    first
    | refine okAsk (by kernel_rfl) ?_
    | refine okBrT ?_
    | refine okBrF ?_
    | refine okBr (fun h => ?_) (fun h => ?_)
    | refine okFn (rCheckSign_s m.sign) rfl (Cos.refl _) ?_
    | refine okFn (rCheckBatch_s m.batch hm.2.2.2.2.2.2.2.2.1) rfl (Cos.refl _) ?_
    | (refine endInt (.inr rfl) rfl ?_; simp [msgE, kindE, signedK, orE_z]; done)
    | (refine endInt (.inr rfl) rfl ?_; simp_all [msgE, kindE, signedK, rangeE, orE]; done)
    | (refine endInt (.inr rfl) rfl ?_; simp_all [msgE, kindE, signedK, rangeE, orE]; omega)
    | (exfalso; simp_all; done)
theorem xParts2_s [Wd] (m : MsgD) (hm : dMsg.ok m) : FnP Tryz.prog 249 [.agg (cMsg { m with kind := 2 })] (.int .i64 (msgE { m with kind := 2 })) := by
  refine mkS 154 [(13, ⟨[(0, false), (1, false), (3, false), (4, false), (6, false), (7, false), (9, false), (10, false), (12, false), (13, false), (14, false), (16, false), (17, false), (18, false), (20, false), (2, true), (5, true), (8, true), (11, true), (15, true), (19, true), (21, true), (22, true), (23, false)], []⟩), (15, ⟨[(0, false), (1, false), (3, false), (4, false), (6, false), (7, false), (9, false), (2, true), (5, true), (8, true), (10, true), (11, true), (12, false)], []⟩), (28, ⟨[(0, false), (1, false), (3, false), (4, false), (6, false), (2, true), (5, true), (7, true), (8, true), (9, false)], []⟩), (30, ⟨[(0, false), (1, false), (3, false), (4, false), (6, false), (7, false), (8, false), (2, true), (5, true), (9, true), (10, true), (11, true), (12, false)], []⟩), (32, ⟨[(0, false), (1, false), (3, false), (4, false), (6, false), (7, false), (2, true), (5, true), (8, true), (9, true), (10, true), (11, false)], []⟩), (34, ⟨[(0, false), (1, false), (3, false), (4, false), (2, true), (5, true), (6, true), (7, true), (8, false)], []⟩)] Tryz.func249 rfl (by kernel_rfl) ?_
  repeat'
    (conv => arg 2; whnf)
    first
    | refine okAsk (by kernel_rfl) ?_
    | refine okBrT ?_
    | refine okBrF ?_
    | refine okBr (fun h => ?_) (fun h => ?_)
    | refine okFn (rCheckSign_s m.sign) rfl (Cos.refl _) ?_
    | refine okFn (rCheckBatch_s m.batch hm.2.2.2.2.2.2.2.2.1) rfl (Cos.refl _) ?_
    | refine okFn (xVote_s { m with kind := 2 } (batchE m.batch)) rfl (Cos.refl _) ?_
    | (refine endInt (.inr rfl) rfl ?_; simp [msgE, kindE, signedK, listE, orE_assoc, orE_z, voteE]; done)
    | (refine endInt (.inr rfl) rfl ?_; simp_all [msgE, kindE, signedK, listE, orE_assoc, orE_z, z_orE, voteE, rangeE, orE]; done)
    | (refine endInt (.inr rfl) rfl ?_; simp_all [msgE, kindE, signedK, listE, orE_assoc, orE_z, z_orE, voteE, rangeE, orE]; omega)
    | (exfalso; simp_all; done)
theorem xParts3_s [Wd] (m : MsgD) (hm : dMsg.ok m) : FnP Tryz.prog 249 [.agg (cMsg { m with kind := 3 })] (.int .i64 (msgE { m with kind := 3 })) := by
  refine mkS 154 [(13, ⟨[(0, false), (1, false), (3, false), (4, false), (6, false), (7, false), (9, false), (10, false), (12, false), (13, false), (14, false), (16, false), (17, false), (18, false), (20, false), (2, true), (5, true), (8, true), (11, true), (15, true), (19, true), (21, true), (22, true), (23, false)], []⟩), (15, ⟨[(0, false), (1, false), (3, false), (4, false), (6, false), (7, false), (9, false), (2, true), (5, true), (8, true), (10, true), (11, true), (12, false)], []⟩), (28, ⟨[(0, false), (1, false), (3, false), (4, false), (6, false), (2, true), (5, true), (7, true), (8, true), (9, false)], []⟩), (30, ⟨[(0, false), (1, false), (3, false), (4, false), (6, false), (7, false), (8, false), (2, true), (5, true), (9, true), (10, true), (11, true), (12, false)], []⟩), (32, ⟨[(0, false), (1, false), (3, false), (4, false), (6, false), (7, false), (2, true), (5, true), (8, true), (9, true), (10, true), (11, false)], []⟩), (34, ⟨[(0, false), (1, false), (3, false), (4, false), (2, true), (5, true), (6, true), (7, true), (8, false)], []⟩)] Tryz.func249 rfl (by kernel_rfl) ?_
  repeat'
    (conv => arg 2; whnf)
    first
    | refine okAsk (by kernel_rfl) ?_
    | refine okBrT ?_
    | refine okBrF ?_
    | refine okBr (fun h => ?_) (fun h => ?_)
    | refine okFn (rCheckSign_s m.sign) rfl (Cos.refl _) ?_
    | refine okFn (xVote_s { m with kind := 3 } 0) rfl (Cos.refl _) ?_
    | (refine endInt (.inr rfl) rfl ?_; simp [msgE, kindE, signedK, listE, orE_assoc, orE_z, z_orE, voteE]; done)
    | (refine endInt (.inr rfl) rfl ?_; simp_all [msgE, kindE, signedK, listE, orE_assoc, orE_z, z_orE, voteE, rangeE, orE]; done)
    | (refine endInt (.inr rfl) rfl ?_; simp_all [msgE, kindE, signedK, listE, orE_assoc, orE_z, z_orE, voteE, rangeE, orE]; omega)
    | (exfalso; simp_all; done)
theorem xParts4_s [Wd] (m : MsgD) (hm : dMsg.ok m) : FnP Tryz.prog 249 [.agg (cMsg { m with kind := 4 })] (.int .i64 (msgE { m with kind := 4 })) := by
  refine mkS 154 [(13, ⟨[(0, false), (1, false), (3, false), (4, false), (6, false), (7, false), (9, false), (10, false), (12, false), (13, false), (14, false), (16, false), (17, false), (18, false), (20, false), (2, true), (5, true), (8, true), (11, true), (15, true), (19, true), (21, true), (22, true), (23, false)], []⟩), (15, ⟨[(0, false), (1, false), (3, false), (4, false), (6, false), (7, false), (9, false), (2, true), (5, true), (8, true), (10, true), (11, true), (12, false)], []⟩), (28, ⟨[(0, false), (1, false), (3, false), (4, false), (6, false), (2, true), (5, true), (7, true), (8, true), (9, false)], []⟩), (30, ⟨[(0, false), (1, false), (3, false), (4, false), (6, false), (7, false), (8, false), (2, true), (5, true), (9, true), (10, true), (11, true), (12, false)], []⟩), (32, ⟨[(0, false), (1, false), (3, false), (4, false), (6, false), (7, false), (2, true), (5, true), (8, true), (9, true), (10, true), (11, false)], []⟩), (34, ⟨[(0, false), (1, false), (3, false), (4, false), (2, true), (5, true), (6, true), (7, true), (8, false)], []⟩)] Tryz.func249 rfl (by kernel_rfl) ?_
  repeat'
    (conv => arg 2; whnf)
    first
    | refine okAsk (by kernel_rfl) ?_
    | refine okBrT ?_
    | refine okBrF ?_
    | refine okBr (fun h => ?_) (fun h => ?_)
    | refine okFn (rCheckSign_s m.sign) rfl (Cos.refl _) ?_
    | refine okFn (xVote_s { m with kind := 4 } 0) rfl (Cos.refl _) ?_
    | (refine endInt (.inr rfl) rfl ?_; simp [msgE, kindE, signedK, listE, orE_assoc, orE_z, z_orE, voteE]; done)
    | (refine endInt (.inr rfl) rfl ?_; simp_all [msgE, kindE, signedK, listE, orE_assoc, orE_z, z_orE, voteE, rangeE, orE]; done)
    | (refine endInt (.inr rfl) rfl ?_; simp_all [msgE, kindE, signedK, listE, orE_assoc, orE_z, z_orE, voteE, rangeE, orE]; omega)
    | (exfalso; simp_all; done)
theorem xParts5_s [Wd] (m : MsgD) (hm : dMsg.ok m) : FnP Tryz.prog 249 [.agg (cMsg { m with kind := 5 })] (.int .i64 (msgE { m with kind := 5 })) := by
  refine mkS 154 [(13, ⟨[(0, false), (1, false), (3, false), (4, false), (6, false), (7, false), (9, false), (10, false), (12, false), (13, false), (14, false), (16, false), (17, false), (18, false), (20, false), (2, true), (5, true), (8, true), (11, true), (15, true), (19, true), (21, true), (22, true), (23, false)], []⟩), (15, ⟨[(0, false), (1, false), (3, false), (4, false), (6, false), (7, false), (9, false), (2, true), (5, true), (8, true), (10, true), (11, true), (12, false)], []⟩), (28, ⟨[(0, false), (1, false), (3, false), (4, false), (6, false), (2, true), (5, true), (7, true), (8, true), (9, false)], []⟩), (30, ⟨[(0, false), (1, false), (3, false), (4, false), (6, false), (7, false), (8, false), (2, true), (5, true), (9, true), (10, true), (11, true), (12, false)], []⟩), (32, ⟨[(0, false), (1, false), (3, false), (4, false), (6, false), (7, false), (2, true), (5, true), (8, true), (9, true), (10, true), (11, false)], []⟩), (34, ⟨[(0, false), (1, false), (3, false), (4, false), (2, true), (5, true), (6, true), (7, true), (8, false)], []⟩)] Tryz.func249 rfl (by kernel_rfl) ?_
  repeat'
    (conv => arg 2; whnf)
    first
    | refine okAsk (by kernel_rfl) ?_
    | refine okBrT ?_
    | refine okBrF ?_
    | refine okBr (fun h => ?_) (fun h => ?_)
    | refine okFn (rCheckSign_s m.sign) rfl (Cos.refl _) ?_
    | refine okFn (xBroker_s _) rfl (Cos.refl _) ?_
    | refine okFn (xNum_s _) rfl (Cos.refl _) ?_
    | refine okFn (xIn_s _ _ _) rfl (Cos.refl _) ?_
    | refine okFn (xFirst_s [brokE m.src, numE m.view, rangeE m.client 0 7, numE m.time, rangeE m.result.err 0 65536, numE m.result.offset, signE m.sign] (by simp)) rfl (Cos.refl _) ?_
    | (refine endInt (.inr rfl) rfl ?_; simp [msgE, kindE, signedK, listE, orE_assoc, orE_z]; done)
    | (refine endInt (.inr rfl) rfl ?_; simp_all [msgE, kindE, signedK, listE, orE_assoc, orE_z, z_orE, voteE, rangeE, orE]; done)
    | (refine endInt (.inr rfl) rfl ?_; simp_all [msgE, kindE, signedK, listE, orE_assoc, orE_z, z_orE, voteE, rangeE, orE]; omega)
    | (exfalso; simp_all; done)
theorem xParts6_s [Wd] (m : MsgD) (hm : dMsg.ok m) : FnP Tryz.prog 249 [.agg (cMsg { m with kind := 6 })] (.int .i64 (msgE { m with kind := 6 })) := by
  refine mkS 154 [(13, ⟨[(0, false), (1, false), (3, false), (4, false), (6, false), (7, false), (9, false), (10, false), (12, false), (13, false), (14, false), (16, false), (17, false), (18, false), (20, false), (2, true), (5, true), (8, true), (11, true), (15, true), (19, true), (21, true), (22, true), (23, false)], []⟩), (15, ⟨[(0, false), (1, false), (3, false), (4, false), (6, false), (7, false), (9, false), (2, true), (5, true), (8, true), (10, true), (11, true), (12, false)], []⟩), (28, ⟨[(0, false), (1, false), (3, false), (4, false), (6, false), (2, true), (5, true), (7, true), (8, true), (9, false)], []⟩), (30, ⟨[(0, false), (1, false), (3, false), (4, false), (6, false), (7, false), (8, false), (2, true), (5, true), (9, true), (10, true), (11, true), (12, false)], []⟩), (32, ⟨[(0, false), (1, false), (3, false), (4, false), (6, false), (7, false), (2, true), (5, true), (8, true), (9, true), (10, true), (11, false)], []⟩), (34, ⟨[(0, false), (1, false), (3, false), (4, false), (2, true), (5, true), (6, true), (7, true), (8, false)], []⟩)] Tryz.func249 rfl (by kernel_rfl) ?_
  repeat'
    (conv => arg 2; whnf)
    first
    | refine okAsk (by kernel_rfl) ?_
    | refine okBrT ?_
    | refine okBrF ?_
    | refine okBr (fun h => ?_) (fun h => ?_)
    | refine okFn (rCheckSign_s m.sign) rfl (Cos.refl _) ?_
    | refine okFn (xBroker_s _) rfl (Cos.refl _) ?_
    | refine okFn (xPos_s _) rfl (Cos.refl _) ?_
    | refine okFn (xFirst_s [brokE m.src, posE m.seq, posE m.digest, signE m.sign] (by simp)) rfl (Cos.refl _) ?_
    | (refine endInt (.inr rfl) rfl ?_; simp [msgE, kindE, signedK, listE, orE_assoc, orE_z]; done)
    | (refine endInt (.inr rfl) rfl ?_; simp_all [msgE, kindE, signedK, listE, orE_assoc, orE_z, z_orE, voteE, rangeE, orE]; done)
    | (refine endInt (.inr rfl) rfl ?_; simp_all [msgE, kindE, signedK, listE, orE_assoc, orE_z, z_orE, voteE, rangeE, orE]; omega)
    | (exfalso; simp_all; done)
theorem xParts8_s [Wd] (m : MsgD) (hm : dMsg.ok m) : FnP Tryz.prog 249 [.agg (cMsg { m with kind := 8 })] (.int .i64 (msgE { m with kind := 8 })) := by
  have hk : dMsg.ok { m with kind := 8 } := by
    rw [dMsg_ok] at hm ⊢
    exact ⟨(show -9223372036854775808 ≤ (8 : Int) ∧ (8 : Int) ≤ 9223372036854775807 by omega), hm.2⟩
  refine mkS 154 [(13, ⟨[(0, false), (1, false), (3, false), (4, false), (6, false), (7, false), (9, false), (10, false), (12, false), (13, false), (14, false), (16, false), (17, false), (18, false), (20, false), (2, true), (5, true), (8, true), (11, true), (15, true), (19, true), (21, true), (22, true), (23, false)], []⟩), (15, ⟨[(0, false), (1, false), (3, false), (4, false), (6, false), (7, false), (9, false), (2, true), (5, true), (8, true), (10, true), (11, true), (12, false)], []⟩), (28, ⟨[(0, false), (1, false), (3, false), (4, false), (6, false), (2, true), (5, true), (7, true), (8, true), (9, false)], []⟩), (30, ⟨[(0, false), (1, false), (3, false), (4, false), (6, false), (7, false), (8, false), (2, true), (5, true), (9, true), (10, true), (11, true), (12, false)], []⟩), (32, ⟨[(0, false), (1, false), (3, false), (4, false), (6, false), (7, false), (2, true), (5, true), (8, true), (9, true), (10, true), (11, false)], []⟩), (34, ⟨[(0, false), (1, false), (3, false), (4, false), (2, true), (5, true), (6, true), (7, true), (8, false)], []⟩)] Tryz.func249 rfl (by kernel_rfl) ?_
  repeat'
    (conv => arg 2; whnf)
    first
    | refine okAsk (by kernel_rfl) ?_
    | refine okBrT ?_
    | refine okBrF ?_
    | refine okBr (fun h => ?_) (fun h => ?_)
    | refine okFn (rCheckSign_s m.sign) rfl (Cos.refl _) ?_
    | refine okFn (xNew_s { m with kind := 8 } hk) rfl (Cos.refl _) ?_
    | (refine endInt (.inr rfl) rfl ?_; simp [msgE, kindE, signedK, orE_assoc, newE]; done)
    | (refine endInt (.inr rfl) rfl ?_; simp_all [msgE, kindE, signedK, listE, orE_assoc, orE_z, z_orE, voteE, rangeE, orE, newE]; done)
    | (refine endInt (.inr rfl) rfl ?_; simp_all [msgE, kindE, signedK, listE, orE_assoc, orE_z, z_orE, voteE, rangeE, orE, newE]; omega)
    | (exfalso; simp_all; done)
theorem xParts9_s [Wd] (m : MsgD) (hm : dMsg.ok m) : FnP Tryz.prog 249 [.agg (cMsg { m with kind := 9 })] (.int .i64 (msgE { m with kind := 9 })) := by
  refine mkS 154 [(13, ⟨[(0, false), (1, false), (3, false), (4, false), (6, false), (7, false), (9, false), (10, false), (12, false), (13, false), (14, false), (16, false), (17, false), (18, false), (20, false), (2, true), (5, true), (8, true), (11, true), (15, true), (19, true), (21, true), (22, true), (23, false)], []⟩), (15, ⟨[(0, false), (1, false), (3, false), (4, false), (6, false), (7, false), (9, false), (2, true), (5, true), (8, true), (10, true), (11, true), (12, false)], []⟩), (28, ⟨[(0, false), (1, false), (3, false), (4, false), (6, false), (2, true), (5, true), (7, true), (8, true), (9, false)], []⟩), (30, ⟨[(0, false), (1, false), (3, false), (4, false), (6, false), (7, false), (8, false), (2, true), (5, true), (9, true), (10, true), (11, true), (12, false)], []⟩), (32, ⟨[(0, false), (1, false), (3, false), (4, false), (6, false), (7, false), (2, true), (5, true), (8, true), (9, true), (10, true), (11, false)], []⟩), (34, ⟨[(0, false), (1, false), (3, false), (4, false), (2, true), (5, true), (6, true), (7, true), (8, false)], []⟩)] Tryz.func249 rfl (by kernel_rfl) ?_
  repeat'
    (conv => arg 2; whnf)
    first
    | refine okAsk (by kernel_rfl) ?_
    | refine okBrT ?_
    | refine okBrF ?_
    | refine okBr (fun h => ?_) (fun h => ?_)
    | refine okFn (rCheckSign_s m.sign) rfl (Cos.refl _) ?_
    | refine okFn (xBroker_s _) rfl (Cos.refl _) ?_
    | refine okFn (xNum_s _) rfl (Cos.refl _) ?_
    | refine okFn (xFirst_s [brokE m.src, numE m.seq, signE m.sign] (by simp)) rfl (Cos.refl _) ?_
    | (refine endInt (.inr rfl) rfl ?_; simp [msgE, kindE, signedK, listE, orE_assoc, orE_z]; done)
    | (refine endInt (.inr rfl) rfl ?_; simp_all [msgE, kindE, signedK, listE, orE_assoc, orE_z, z_orE, voteE, rangeE, orE]; done)
    | (refine endInt (.inr rfl) rfl ?_; simp_all [msgE, kindE, signedK, listE, orE_assoc, orE_z, z_orE, voteE, rangeE, orE]; omega)
    | (exfalso; simp_all; done)
theorem xParts10_s [Wd] (m : MsgD) (hm : dMsg.ok m) : FnP Tryz.prog 249 [.agg (cMsg { m with kind := 10 })] (.int .i64 (msgE { m with kind := 10 })) := by
  refine mkS 154 [(13, ⟨[(0, false), (1, false), (3, false), (4, false), (6, false), (7, false), (9, false), (10, false), (12, false), (13, false), (14, false), (16, false), (17, false), (18, false), (20, false), (2, true), (5, true), (8, true), (11, true), (15, true), (19, true), (21, true), (22, true), (23, false)], []⟩), (15, ⟨[(0, false), (1, false), (3, false), (4, false), (6, false), (7, false), (9, false), (2, true), (5, true), (8, true), (10, true), (11, true), (12, false)], []⟩), (28, ⟨[(0, false), (1, false), (3, false), (4, false), (6, false), (2, true), (5, true), (7, true), (8, true), (9, false)], []⟩), (30, ⟨[(0, false), (1, false), (3, false), (4, false), (6, false), (7, false), (8, false), (2, true), (5, true), (9, true), (10, true), (11, true), (12, false)], []⟩), (32, ⟨[(0, false), (1, false), (3, false), (4, false), (6, false), (7, false), (2, true), (5, true), (8, true), (9, true), (10, true), (11, false)], []⟩), (34, ⟨[(0, false), (1, false), (3, false), (4, false), (2, true), (5, true), (6, true), (7, true), (8, false)], []⟩)] Tryz.func249 rfl (by kernel_rfl) ?_
  repeat'
    (conv => arg 2; whnf)
    first
    | refine okAsk (by kernel_rfl) ?_
    | refine okBrT ?_
    | refine okBrF ?_
    | refine okBr (fun h => ?_) (fun h => ?_)
    | refine okFn (rCheckSign_s m.sign) rfl (Cos.refl _) ?_
    | refine okFn (xBroker_s _) rfl (Cos.refl _) ?_
    | refine okFn (xCert_s m.cert hm.2.2.2.2.2.2.2.2.2.1) rfl (Cos.refl _) ?_
    | refine okFn (xIn_s _ _ _) rfl (Cos.refl _) ?_
    | refine okFn (xFirst_s [brokE m.src, certE m.cert, rangeE ((m.state.map cByte).length : Int) 0 262144] (by simp)) rfl (Cos.refl _) ?_
    | (refine endInt (.inr rfl) rfl ?_; simp [msgE, kindE, signedK, listE, orE_z, manyE]; done)
    | (refine endInt (.inr rfl) rfl ?_; simp_all [msgE, kindE, signedK, listE, orE_assoc, orE_z, z_orE, voteE, rangeE, orE, manyE]; done)
    | (refine endInt (.inr rfl) rfl ?_; simp_all [msgE, kindE, signedK, listE, orE_assoc, orE_z, z_orE, voteE, rangeE, orE, manyE]; omega)
    | (exfalso; simp_all; done)
theorem xParts11_s [Wd] (m : MsgD) (hm : dMsg.ok m) : FnP Tryz.prog 249 [.agg (cMsg { m with kind := 11 })] (.int .i64 (msgE { m with kind := 11 })) := by
  refine mkS 154 [(13, ⟨[(0, false), (1, false), (3, false), (4, false), (6, false), (7, false), (9, false), (10, false), (12, false), (13, false), (14, false), (16, false), (17, false), (18, false), (20, false), (2, true), (5, true), (8, true), (11, true), (15, true), (19, true), (21, true), (22, true), (23, false)], []⟩), (15, ⟨[(0, false), (1, false), (3, false), (4, false), (6, false), (7, false), (9, false), (2, true), (5, true), (8, true), (10, true), (11, true), (12, false)], []⟩), (28, ⟨[(0, false), (1, false), (3, false), (4, false), (6, false), (2, true), (5, true), (7, true), (8, true), (9, false)], []⟩), (30, ⟨[(0, false), (1, false), (3, false), (4, false), (6, false), (7, false), (8, false), (2, true), (5, true), (9, true), (10, true), (11, true), (12, false)], []⟩), (32, ⟨[(0, false), (1, false), (3, false), (4, false), (6, false), (7, false), (2, true), (5, true), (8, true), (9, true), (10, true), (11, false)], []⟩), (34, ⟨[(0, false), (1, false), (3, false), (4, false), (2, true), (5, true), (6, true), (7, true), (8, false)], []⟩)] Tryz.func249 rfl (by kernel_rfl) ?_
  repeat'
    (conv => arg 2; whnf)
    first
    | refine okAsk (by kernel_rfl) ?_
    | refine okBrT ?_
    | refine okBrF ?_
    | refine okBr (fun h => ?_) (fun h => ?_)
    | refine okFn (rCheckSign_s m.sign) rfl (Cos.refl _) ?_
    | refine okFn (xIn_s _ _ _) rfl (Cos.refl _) ?_
    | refine okFn (xName_s m.topic hm.2.2.2.2.2.2.2.2.2.2.2.2.2.1) rfl (Cos.refl _) ?_
    | refine okFn (xNum_s _) rfl (Cos.refl _) ?_
    | refine okFn (xFirst_s [rangeE m.client 0 7, nameE m.topic, numE m.offset] (by simp)) rfl (Cos.refl _) ?_
    | (refine endInt (.inr rfl) rfl ?_; simp [msgE, kindE, signedK, listE, orE_z]; done)
    | (refine endInt (.inr rfl) rfl ?_; simp_all [msgE, kindE, signedK, listE, orE_assoc, orE_z, z_orE, voteE, rangeE, orE]; done)
    | (refine endInt (.inr rfl) rfl ?_; simp_all [msgE, kindE, signedK, listE, orE_assoc, orE_z, z_orE, voteE, rangeE, orE]; omega)
    | (exfalso; simp_all; done)
theorem xParts12_s [Wd] (m : MsgD) (hm : dMsg.ok m) : FnP Tryz.prog 249 [.agg (cMsg { m with kind := 12 })] (.int .i64 (msgE { m with kind := 12 })) := by
  refine mkS 154 [(13, ⟨[(0, false), (1, false), (3, false), (4, false), (6, false), (7, false), (9, false), (10, false), (12, false), (13, false), (14, false), (16, false), (17, false), (18, false), (20, false), (2, true), (5, true), (8, true), (11, true), (15, true), (19, true), (21, true), (22, true), (23, false)], []⟩), (15, ⟨[(0, false), (1, false), (3, false), (4, false), (6, false), (7, false), (9, false), (2, true), (5, true), (8, true), (10, true), (11, true), (12, false)], []⟩), (28, ⟨[(0, false), (1, false), (3, false), (4, false), (6, false), (2, true), (5, true), (7, true), (8, true), (9, false)], []⟩), (30, ⟨[(0, false), (1, false), (3, false), (4, false), (6, false), (7, false), (8, false), (2, true), (5, true), (9, true), (10, true), (11, true), (12, false)], []⟩), (32, ⟨[(0, false), (1, false), (3, false), (4, false), (6, false), (7, false), (2, true), (5, true), (8, true), (9, true), (10, true), (11, false)], []⟩), (34, ⟨[(0, false), (1, false), (3, false), (4, false), (2, true), (5, true), (6, true), (7, true), (8, false)], []⟩)] Tryz.func249 rfl (by kernel_rfl) ?_
  repeat'
    (conv => arg 2; whnf)
    first
    | refine okAsk (by kernel_rfl) ?_
    | refine okBrT ?_
    | refine okBrF ?_
    | refine okBr (fun h => ?_) (fun h => ?_)
    | refine okFn (rCheckSign_s m.sign) rfl (Cos.refl _) ?_
    | refine okFn (xBroker_s _) rfl (Cos.refl _) ?_
    | refine okFn (xProof_s m.proof hm.2.2.2.2.2.2.2.2.2.2.2.2.2.2.2.1) rfl (Cos.refl _) ?_
    | refine okFn (xFirst_s [brokE m.src, proofE m.proof] (by simp)) rfl (Cos.refl _) ?_
    | (refine endInt (.inr rfl) rfl ?_; simp [msgE, kindE, signedK, listE, orE_z]; done)
    | (refine endInt (.inr rfl) rfl ?_; simp_all [msgE, kindE, signedK, listE, orE_assoc, orE_z, z_orE, voteE, rangeE, orE]; done)
    | (refine endInt (.inr rfl) rfl ?_; simp_all [msgE, kindE, signedK, listE, orE_assoc, orE_z, z_orE, voteE, rangeE, orE]; omega)
    | (exfalso; simp_all; done)
theorem xParts7a_s [Wd] (m : MsgD) (hm : dMsg.ok m) (hc : ¬ m.changes.length = 1) : FnP Tryz.prog 249 [.agg (cMsg { m with kind := 7 })] (.int .i64 (msgE { m with kind := 7 })) := by
  refine mkS 154 [(13, ⟨[(0, false), (1, false), (3, false), (4, false), (6, false), (7, false), (9, false), (10, false), (12, false), (13, false), (14, false), (16, false), (17, false), (18, false), (20, false), (2, true), (5, true), (8, true), (11, true), (15, true), (19, true), (21, true), (22, true), (23, false)], []⟩), (15, ⟨[(0, false), (1, false), (3, false), (4, false), (6, false), (7, false), (9, false), (2, true), (5, true), (8, true), (10, true), (11, true), (12, false)], []⟩), (28, ⟨[(0, false), (1, false), (3, false), (4, false), (6, false), (2, true), (5, true), (7, true), (8, true), (9, false)], []⟩), (30, ⟨[(0, false), (1, false), (3, false), (4, false), (6, false), (7, false), (8, false), (2, true), (5, true), (9, true), (10, true), (11, true), (12, false)], []⟩), (32, ⟨[(0, false), (1, false), (3, false), (4, false), (6, false), (7, false), (2, true), (5, true), (8, true), (9, true), (10, true), (11, false)], []⟩), (34, ⟨[(0, false), (1, false), (3, false), (4, false), (2, true), (5, true), (6, true), (7, true), (8, false)], []⟩)] Tryz.func249 rfl (by kernel_rfl) ?_
  repeat'
    (conv => arg 2; whnf)
    first
    | refine okAsk (by kernel_rfl) ?_
    | refine okBrT ?_
    | refine okBrF ?_
    | refine okBr (fun h => ?_) (fun h => ?_)
    | refine okFn (rCheckSign_s m.sign) rfl (Cos.refl _) ?_
    | (refine endInt (.inr rfl) rfl ?_; have e : rangeE (m.changes.length : Int) 1 1 = 100 := (by unfold rangeE; rw [if_pos (by omega)]); simp [msgE, kindE, e, orE]; done)
    | (exfalso; simp at *; omega)
theorem xParts7b_s [Wd] (m : MsgD) (hm : dMsg.ok m) (c : ChangeD) (hc : m.changes = [c]) : FnP Tryz.prog 249 [.agg (cMsg { m with kind := 7 })] (.int .i64 (msgE { m with kind := 7 })) := by
  have hcc : dChange.ok c := hm.2.2.2.2.2.2.2.2.2.2.1.2 c (by show c ∈ m.changes; rw [hc]; simp)
  have sh : msgE { m with kind := 7 } = orE (chgE c) (if c.src ≠ m.src ∨ c.view ≠ m.view then 100 else 0) := by
    simp [msgE, kindE, signedK, orE_z, hc, listE, viewE, rangeE, z_orE]
  refine mkS 154 [(13, ⟨[(0, false), (1, false), (3, false), (4, false), (6, false), (7, false), (9, false), (10, false), (12, false), (13, false), (14, false), (16, false), (17, false), (18, false), (20, false), (2, true), (5, true), (8, true), (11, true), (15, true), (19, true), (21, true), (22, true), (23, false)], []⟩), (15, ⟨[(0, false), (1, false), (3, false), (4, false), (6, false), (7, false), (9, false), (2, true), (5, true), (8, true), (10, true), (11, true), (12, false)], []⟩), (28, ⟨[(0, false), (1, false), (3, false), (4, false), (6, false), (2, true), (5, true), (7, true), (8, true), (9, false)], []⟩), (30, ⟨[(0, false), (1, false), (3, false), (4, false), (6, false), (7, false), (8, false), (2, true), (5, true), (9, true), (10, true), (11, true), (12, false)], []⟩), (32, ⟨[(0, false), (1, false), (3, false), (4, false), (6, false), (7, false), (2, true), (5, true), (8, true), (9, true), (10, true), (11, false)], []⟩), (34, ⟨[(0, false), (1, false), (3, false), (4, false), (2, true), (5, true), (6, true), (7, true), (8, false)], []⟩)] Tryz.func249 rfl (by kernel_rfl) ?_
  repeat'
    (conv => arg 2; whnf)
    first
    | refine okAsk (by kernel_rfl) ?_
    | refine okBrT ?_
    | refine okBrF ?_
    | refine okBr (fun h => ?_) (fun h => ?_)
    | refine okFn (rCheckSign_s m.sign) rfl (Cos.refl _) ?_
    | refine okNth (cChange c) (by decide) (by simp [hc]) ?_
    | refine okFn (xChange_s c hcc) rfl (Cos.refl _) ?_
    | (refine endInt (.inr rfl) rfl ?_; rw [sh]; simp_all [orE]; done)
    | (refine endInt (.inr rfl) rfl ?_; rw [sh]; simp_all [orE]; omega)
    | (exfalso; simp [hc] at h; done)
    | (exfalso; simp_all; done)
theorem xParts7_s [Wd] (m : MsgD) (hm : dMsg.ok m) : FnP Tryz.prog 249 [.agg (cMsg { m with kind := 7 })] (.int .i64 (msgE { m with kind := 7 })) := by
  by_cases hc : m.changes.length = 1
  · obtain ⟨c, hc⟩ := one_of hc
    exact xParts7b_s m hm c hc
  · exact xParts7a_s m hm hc
theorem xPartsN_s [Wd] (m : MsgD) (hm : dMsg.ok m) (hk : m.kind < 1 ∨ 12 < m.kind) : FnP Tryz.prog 249 [.agg (cMsg m)] (.int .i64 (msgE m)) := by
  have e : msgE m = 100 := by
    have h : kindE m = 100 := by
      unfold kindE
      rw [if_neg (by omega), if_neg (by omega), if_neg (by omega), if_neg (by omega), if_neg (by omega), if_neg (by omega), if_neg (by omega), if_neg (by omega), if_neg (by omega), if_neg (by omega), if_neg (by omega), if_neg (by omega)]
    unfold msgE
    rw [h]
    rfl
  refine mkS 154 [(13, ⟨[(0, false), (1, false), (3, false), (4, false), (6, false), (7, false), (9, false), (10, false), (12, false), (13, false), (14, false), (16, false), (17, false), (18, false), (20, false), (2, true), (5, true), (8, true), (11, true), (15, true), (19, true), (21, true), (22, true), (23, false)], []⟩), (15, ⟨[(0, false), (1, false), (3, false), (4, false), (6, false), (7, false), (9, false), (2, true), (5, true), (8, true), (10, true), (11, true), (12, false)], []⟩), (28, ⟨[(0, false), (1, false), (3, false), (4, false), (6, false), (2, true), (5, true), (7, true), (8, true), (9, false)], []⟩), (30, ⟨[(0, false), (1, false), (3, false), (4, false), (6, false), (7, false), (8, false), (2, true), (5, true), (9, true), (10, true), (11, true), (12, false)], []⟩), (32, ⟨[(0, false), (1, false), (3, false), (4, false), (6, false), (7, false), (2, true), (5, true), (8, true), (9, true), (10, true), (11, false)], []⟩), (34, ⟨[(0, false), (1, false), (3, false), (4, false), (2, true), (5, true), (6, true), (7, true), (8, false)], []⟩)] Tryz.func249 rfl (by kernel_rfl) ?_
  repeat'
    (conv => arg 2; whnf)
    first
    | refine okAsk (by kernel_rfl) ?_
    | refine okBrT ?_
    | refine okBrF ?_
    | refine okBr (fun h => ?_) (fun h => ?_)
    | refine okFn (rCheckSign_s m.sign) rfl (Cos.refl _) ?_
    | refine endInt (.inr rfl) rfl e.symm
    | (exfalso; simp at h; omega)
    | (exfalso; simp at *; omega)
theorem xParts_s [Wd] (m : MsgD) (hm : dMsg.ok m) : FnP Tryz.prog 249 [.agg (cMsg m)] (.int .i64 (msgE m)) := by
  by_cases k1 : m.kind = 1
  · have h := xParts1_s m hm; rw [msgKind k1] at h; exact h
  by_cases k2 : m.kind = 2
  · have h := xParts2_s m hm; rw [msgKind k2] at h; exact h
  by_cases k3 : m.kind = 3
  · have h := xParts3_s m hm; rw [msgKind k3] at h; exact h
  by_cases k4 : m.kind = 4
  · have h := xParts4_s m hm; rw [msgKind k4] at h; exact h
  by_cases k5 : m.kind = 5
  · have h := xParts5_s m hm; rw [msgKind k5] at h; exact h
  by_cases k6 : m.kind = 6
  · have h := xParts6_s m hm; rw [msgKind k6] at h; exact h
  by_cases k7 : m.kind = 7
  · have h := xParts7_s m hm; rw [msgKind k7] at h; exact h
  by_cases k8 : m.kind = 8
  · have h := xParts8_s m hm; rw [msgKind k8] at h; exact h
  by_cases k9 : m.kind = 9
  · have h := xParts9_s m hm; rw [msgKind k9] at h; exact h
  by_cases k10 : m.kind = 10
  · have h := xParts10_s m hm; rw [msgKind k10] at h; exact h
  by_cases k11 : m.kind = 11
  · have h := xParts11_s m hm; rw [msgKind k11] at h; exact h
  by_cases k12 : m.kind = 12
  · have h := xParts12_s m hm; rw [msgKind k12] at h; exact h
  exact xPartsN_s m hm (by omega)
theorem xOnly_s [Wd] (m : MsgD) (hk : 1 ≤ m.kind ∧ m.kind ≤ 12) : FnP Tryz.prog 250 [.agg (cMsg m)] (.agg (cMsg (bareF m))) := by
  by_cases k1 : m.kind = 1
  · have h := xOnly1_s m; rw [msgKind k1] at h; exact h
  by_cases k2 : m.kind = 2
  · have h := xOnly2_s m; rw [msgKind k2] at h; exact h
  by_cases k3 : m.kind = 3
  · have h := xOnly3_s m; rw [msgKind k3] at h; exact h
  by_cases k4 : m.kind = 4
  · have h := xOnly4_s m; rw [msgKind k4] at h; exact h
  by_cases k5 : m.kind = 5
  · have h := xOnly5_s m; rw [msgKind k5] at h; exact h
  by_cases k6 : m.kind = 6
  · have h := xOnly6_s m; rw [msgKind k6] at h; exact h
  by_cases k7 : m.kind = 7
  · have h := xOnly7_s m; rw [msgKind k7] at h; exact h
  by_cases k8 : m.kind = 8
  · have h := xOnly8_s m; rw [msgKind k8] at h; exact h
  by_cases k9 : m.kind = 9
  · have h := xOnly9_s m; rw [msgKind k9] at h; exact h
  by_cases k10 : m.kind = 10
  · have h := xOnly10_s m; rw [msgKind k10] at h; exact h
  by_cases k11 : m.kind = 11
  · have h := xOnly11_s m; rw [msgKind k11] at h; exact h
  by_cases k12 : m.kind = 12
  · have h := xOnly12_s m; rw [msgKind k12] at h; exact h
  omega
theorem xCheck_s [Wd] (m : MsgD) (hm : dMsg.ok m) : FnP Tryz.prog 202 [.agg (cMsg m)] (.int .i64 (checkE m)) := by
  by_cases h0 : msgE m = 0
  · have hk : 1 ≤ m.kind ∧ m.kind ≤ 12 := kind_range (msgE_kind h0)
    refine mkS 14 [] Tryz.func202 rfl (by kernel_rfl) ?_
    repeat'
      (conv => arg 2; whnf)
      first
      | refine okAsk (by kernel_rfl) ?_
      | refine okBrT ?_
      | refine okBrF ?_
      | refine okBr (fun h => ?_) (fun h => ?_)
      | refine okFn (xParts_s m hm) rfl (Cos.refl _) ?_
      | refine okFn (xOnly_s m hk) rfl (Cos.refl _) ?_
      | refine okFn (rMsg_s m (bareF m) hm (bare_ok hm)) rfl (Cos.refl _) ?_
      | (refine endInt (.inr rfl) rfl ?_; rw [checkE_b]; simp_all; done)
      | (exfalso; simp [h0] at h; done)
  · refine mkS 14 [] Tryz.func202 rfl (by kernel_rfl) ?_
    repeat'
      (conv => arg 2; whnf)
      first
      | refine okAsk (by kernel_rfl) ?_
      | refine okBrT ?_
      | refine okBrF ?_
      | refine okBr (fun h => ?_) (fun h => ?_)
      | refine okFn (xParts_s m hm) rfl (Cos.refl _) ?_
      | (refine endInt (.inr rfl) rfl ?_; rw [checkE_b]; simp_all; done)
      | (exfalso; simp [h0] at h; done)
end Go.Proofs.YteaggenihhaajaaGreat
