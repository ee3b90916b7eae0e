/- Lemmas and contracts, part 10. -/
import Derived.Test.YteaggenihhaajaaGreatZk9
import Derived.Lib.OthersKept
/- Names: op.Runes and op.Name are the plain 'runesF', 'nameF'. -/
namespace Go.Proofs.YteaggenihhaajaaGreat
open Go.RowKit Go.Deep
set_option linter.unusedVariables false

theorem width_pos (s : ByteArray) (pos : Nat) (h : pos < s.size) : 1 ≤ (Utf8.decode s pos).2 := by
  by_cases ha : (s[pos]'h).toNat < 128
  · rw [decode_ascii s pos h ha]
    exact Nat.le_refl _
  · exact (decode_high s pos h (by omega)).2
theorem runesGo_end (s : ByteArray) (k pos n : Nat) (h : ¬ pos < s.size) : runesGo s k pos n = some n := by
  cases k with
  | zero => rfl
  | succ k => simp [runesGo, h]
theorem bstr_size (s : List UInt8) : (bstr s).size = s.length := by simp [bstr, ByteArray.size]
set_option maxRecDepth 100000 in
set_option maxHeartbeats 4000000 in
theorem runes_c (w : World) (s : List UInt8) (hs : s.length ≤ 4194304) : Calls Tryz.prog 333 #[.string (bstr s)] w fun e w' => e = .returned (.int .i64 (runesF s : Int)) ∧ B w w' := by
  have HE := Lib.hid (show runesF s = (match runesGo (bstr s) (s.length + 1) 0 0 with | none => 0 | some n => if 16 < n then 0 else n) from rfl)
  have HZ := Lib.hid (bstr_size s)
  have HL := Lib.hid hs
  generalize hb : bstr s = b at *
  generalize runesF s = z at *
  clear hb hs
  go_enter Tryz.func333, Tryz.ntmps333
  go_wp2
  go_loopw [3, 5] (fun n _ wr => ∃ (pos fuel k : Nat), n = .int .i64 (k : Int) ∧ wr.heap[w.heap.size]? = some (.stringIter b pos) ∧ Hid (B w wr) ∧ Hid (runesGo b fuel pos k = runesGo b (s.length + 1) 0 0) ∧ b.size + 1 ≤ pos + fuel ∧ k ≤ pos ∧ k ≤ 4194304) (fun _ _ wr => b.size - wr.iterPos w.heap.size)
  case atStart =>
    refine ⟨0, s.length + 1, 0, rfl, ?_, B.alloc' _ _, rfl, by rw [HZ.out]; omega, Nat.le_refl _, by omega⟩
    exact World.iter_heap w b 0
  case round =>
    obtain ⟨pos, fuel, k, rfl, hit, HB, HG, hfu, hkp, hk⟩ := hrel
    have hsz : w.heap.size < wr.heap.size := (Array.getElem?_eq_some_iff.1 hit).1
    by_cases hp : pos < b.size
    · have hnx : ∀ ty, (Instr.next (.pointer (some ⟨w.heap.size, 0, none⟩)) true ty).run Tryz.prog wr = _ := fun ty => Lib.run_next_any_at wr w.heap.size b pos ty hit hp
      have hwd := width_pos b pos hp
      have hd1 := decode_le b pos
      have hit2 := Lib.iterAt_heap wr w.heap.size b pos (pos + (Utf8.decode b pos).2) hit
      have hbw2 := Lib.hid (show B w _ from Lib.below_iterAt HB.out (k := w.heap.size) (by omega) b (pos + (Utf8.decode b pos).2))
      obtain ⟨f, rfl⟩ : ∃ f, fuel = f + 1 := ⟨fuel - 1, by omega⟩
      have HD := Lib.hid (show runesGo b (f + 1) pos k = if badR (Utf8.decode b pos).1 then none else runesGo b f (pos + (Utf8.decode b pos).2) (k + 1) from by simp [runesGo, hp])
      have hkb : k + 1 ≤ 4194304 := by have := HL.out; have := HZ.out; omega
      generalize (Utf8.decode b pos).1 = r at *
      have hc : (r < 33) ∨ (33 ≤ r ∧ 127 ≤ r ∧ r ≤ 159) ∨ (33 ≤ r ∧ r < 127 ∧ r = 47) ∨ (33 ≤ r ∧ 127 ≤ r ∧ 159 < r ∧ r = 65533) ∨ (33 ≤ r ∧ r < 127 ∧ r ≠ 47) ∨ (33 ≤ r ∧ 127 ≤ r ∧ 159 < r ∧ r ≠ 65533) := by omega
      by_cases hbad : badR r = true
      · have HN := Lib.hid (show z = 0 from by rw [HE.out, ← HG.out, HD.out, if_pos hbad])
        have hc2 : (r < 33) ∨ (33 ≤ r ∧ 127 ≤ r ∧ r ≤ 159) ∨ (r = 47) ∨ (r = 65533) := by
          simp only [badR, Bool.or_eq_true, Bool.and_eq_true, decide_eq_true_eq] at hbad; omega
        clear hc hbad
        rcases hc2 with h1 | ⟨h1, h2, h3⟩ | h1 | h1
        · have g1 : (r : Int) < 33 := by omega
          clear h1
          go_wp2
          go_ret
          exact ⟨by rw [HN.out]; rfl, hbw2.out⟩
        · have g1 : ¬ (r : Int) < 33 := by omega
          have g2 : (127 : Int) ≤ r := by omega
          have g3 : (r : Int) ≤ 159 := by omega
          clear h1 h2 h3
          go_wp2
          go_ret
          exact ⟨by rw [HN.out]; rfl, hbw2.out⟩
        all_goals
          subst h1
          go_wp2
          go_ret
          exact ⟨by rw [HN.out]; rfl, hbw2.out⟩
      · have HR := Lib.hid (show runesGo b f (pos + (Utf8.decode b pos).2) (k + 1) = runesGo b (s.length + 1) 0 0 from by rw [← HG.out, HD.out, if_neg hbad])
        have hc2 : (33 ≤ r ∧ r < 127 ∧ r ≠ 47) ∨ (33 ≤ r ∧ 127 ≤ r ∧ 159 < r ∧ r ≠ 65533) := by
          simp only [badR, Bool.or_eq_true, Bool.and_eq_true, decide_eq_true_eq] at hbad; omega
        clear hc hbad
        rcases hc2 with ⟨h1, h2, h3⟩ | ⟨h1, h2, h3, h4⟩
        · have g1 : ¬ (r : Int) < 33 := by omega
          have g2 : ¬ (127 : Int) ≤ r := by omega
          have g3 : ((r : Int) == 47) = false := by simp; omega
          have g4 : ((r : Int) == 65533) = false := by simp; omega
          clear h1 h2 h3
          go_wp2
          go_roundw
          case rel => exact ⟨pos + (Utf8.decode b pos).2, f, k + 1, by go_num, hit2, hbw2.out, HR.out, by omega, by omega, hkb⟩
          case measure => simp only [World.iterPos, hit2, hit]; omega
        · have g1 : ¬ (r : Int) < 33 := by omega
          have g2 : (127 : Int) ≤ r := by omega
          have g5 : ¬ (r : Int) ≤ 159 := by omega
          have g3 : ((r : Int) == 47) = false := by simp; omega
          have g4 : ((r : Int) == 65533) = false := by simp; omega
          clear h1 h2 h3 h4
          go_wp2
          go_roundw
          case rel => exact ⟨pos + (Utf8.decode b pos).2, f, k + 1, by go_num, hit2, hbw2.out, HR.out, by omega, by omega, hkb⟩
          case measure => simp only [World.iterPos, hit2, hit]; omega
    · have hnx : ∀ ty, (Instr.next (.pointer (some ⟨w.heap.size, 0, none⟩)) true ty).run Tryz.prog wr = _ := fun ty => Lib.run_next_end_at wr w.heap.size b pos ty hit hp
      have HN := Lib.hid (show z = if 16 < k then 0 else k from by rw [HE.out, ← HG.out, runesGo_end b fuel pos k hp])
      by_cases h16 : 16 < k
      · have g1 : (16 : Int) < k := by omega
        rw [if_pos h16] at HN
        clear h16
        go_wp2
        go_ret
        exact ⟨by rw [HN.out]; rfl, HB.out⟩
      · have g1 : ¬ (16 : Int) < k := by omega
        rw [if_neg h16] at HN
        clear h16
        go_wp2
        go_ret
        exact ⟨by simp [HN.out], HB.out⟩
theorem name_c (w : World) (s : List UInt8) (hs : s.length ≤ 4194304) : Calls Tryz.prog 320 #[.string (bstr s)] w fun e w' => e = .returned (.bool (nameF s)) ∧ B w w' := by
  have HR := Lib.hid (runes_c w s hs)
  clear hs
  have HN := Lib.hid (show nameF s = decide (0 < runesF s) from rfl)
  generalize nameF s = z at *
  generalize runesF s = n at *
  by_cases h : 0 < n
  · have g : (0 : Int) < n := by omega
    rw [decide_eq_true h] at HN
    clear h
    go_enter Tryz.func320, Tryz.ntmps320
    go_wp2_with (first | (go_at_call 333; (with_reducible refine HR.out.mono ?_); rintro e w1 ⟨rfl, hb⟩; have HB := Lib.hid hb; clear hb))
    go_ret
    exact ⟨by simp [HN.out]; omega, HB.out⟩
  · have g : ¬ (0 : Int) < n := by omega
    rw [decide_eq_false h] at HN
    clear h
    go_enter Tryz.func320, Tryz.ntmps320
    go_wp2_with (first | (go_at_call 333; (with_reducible refine HR.out.mono ?_); rintro e w1 ⟨rfl, hb⟩; have HB := Lib.hid hb; clear hb))
    go_ret
    exact ⟨by simp [HN.out]; omega, HB.out⟩
end Go.Proofs.YteaggenihhaajaaGreat
