/- Num of the reference's reader. -/
import Derived.Test.YthgpkbhilkdckaaCk
namespace Go.Proofs.Ythgpkbhilkdckaa
open Go.RowKit
set_option linter.unusedVariables false

theorem refStep (acc q y bv : Nat) (hq : q ≤ 9) (ha : acc < 128 ^ q) (hb : bv = 128 ^ q) : ∃ e1 s b2 : Nat, IntKind.u64.wrap ((y : Int) % 128 * (bv : Int)) = (e1 : Int) ∧ IntKind.u64.wrap ((acc : Int) + (e1 : Int)) = (s : Int) ∧ IntKind.u64.wrap ((bv : Int) * 128) = (b2 : Int) ∧
    ((q < 9 ∨ y ≤ 1) → s = acc + y % 128 * 128 ^ q) ∧ (q < 9 → b2 = 128 ^ (q + 1)) := by
  have hp9 : 128 ^ q ≤ 9223372036854775808 := Nat.le_trans (Nat.pow_le_pow_right (by omega) hq) (by decide)
  have wrapN : ∀ k : Nat, IntKind.u64.wrap (k : Int) = ((k % 18446744073709551616 : Nat) : Int) := fun k => by simp [IntKind.wrap, IntKind.signed, IntKind.bits]
  refine ⟨y % 128 * bv % 18446744073709551616, (acc + y % 128 * bv % 18446744073709551616) % 18446744073709551616, bv * 128 % 18446744073709551616, ?_, ?_, ?_, ?_, ?_⟩
  · rw [show (y : Int) % 128 * (bv : Int) = ((y % 128 * bv : Nat) : Int) by push_cast; rfl]; exact wrapN _
  · rw [← Int.natCast_add]; exact wrapN _
  · rw [show (bv : Int) * 128 = ((bv * 128 : Nat) : Int) by push_cast; rfl]; exact wrapN _
  · intro h
    subst hb
    have hlt : acc + y % 128 * 128 ^ q < 18446744073709551616 := by
      rcases h with h | h
      · have h8 : 128 ^ q ≤ 72057594037927936 := Nat.le_trans (Nat.pow_le_pow_right (by omega) (show q ≤ 8 by omega)) (by decide)
        have := Nat.mul_le_mul (show y % 128 ≤ 127 by omega) h8
        omega
      · have := Nat.mul_le_mul (show y % 128 ≤ 1 by omega) hp9
        omega
    rw [Nat.mod_eq_of_lt (show y % 128 * 128 ^ q < 18446744073709551616 by omega), Nat.mod_eq_of_lt hlt]
  · intro h
    subst hb
    have h8 : 128 ^ q ≤ 72057594037927936 := Nat.le_trans (Nat.pow_le_pow_right (by omega) (show q ≤ 8 by omega)) (by decide)
    rw [Nat.mod_eq_of_lt (by omega), Nat.pow_succ]
section
variable {W w : World} {p : Nat} {bs : List UInt8} {e : Int} {L : List Asn}
def NumPostR (W : World) (p : Nat) (L : List Asn) (r : Nat × List UInt8 × Int) (e' : Ending) (w' : World) : Prop :=
  e' = .returned (.int .u64 (r.1 : Int)) ∧ St W w' (aRr W p r.2.1 r.2.2 :: L)
theorem St.rrE (h : St W w (aRr W p bs e :: L)) : w.cell? ⟨p, 1, none⟩ = some (.int .i64 e) := by
  obtain ⟨A, c, c0, c1, _⟩ := h.rr; exact c1
set_option maxRecDepth 20000 in
set_option maxHeartbeats 1000000 in
theorem St.num117_stuck (h : St W w (aRr W p bs e :: L)) (he : e ≠ 0) (most : Nat) : Calls Try.prog 117 #[.pointer (some ⟨p, 0, none⟩), .int .u64 (most : Int)] w (NumPostR W p L (numS bs e most)) := by
  obtain ⟨A, c, c0, c1, f, hb, he'⟩ := h.rr
  obtain rfl := he' he
  have hf := h.fail121 10
  rw [show failB [] e 10 = [] by simp [failB], show failE e 10 = e by simp [failE, he]] at hf
  have HF := Lib.hid hf
  have q1 : (e != 0) = true := by simp [he]
  have E := Lib.hid (fun w' (hS : St W w' (aRr W p [] e :: L)) => show NumPostR W p L (numS [] e most) (.returned (.int .u64 0)) w' from ⟨by simp [numS, he], by simpa [numS, he] using hS⟩)
  clear hb he he' hf f h
  go_enter Try.func117, Try.ntmps117
  go_wp2_with fail
  go_loop [5, 6, 7] (fun n b i => i = .int .i64 0) (fun _ _ i => 0)
  case atStart => exact rfl
  case round =>
    subst hrel
    go_wp2_with (first | (go_at_call 121; (with_reducible refine HF.out.mono ?_); rintro e' w1 ⟨rfl, hS⟩; have HS := Lib.hid hS; have d1 := hS.rrE; clear hS))
    go_ret
    exact E.out _ HS.out
set_option maxRecDepth 20000 in
set_option maxHeartbeats 4000000 in
theorem St.num117_ok (h : St W w (aRr W p bs 0 :: L)) (most : Nat) : Calls Try.prog 117 #[.pointer (some ⟨p, 0, none⟩), .int .u64 (most : Int)] w (NumPostR W p L (numGo most 0 0 bs)) := by
  have HH := Lib.hid h
  obtain ⟨A, c, c0, c1, f, hb, he⟩ := h.rr
  have H3 := Lib.hid hb
  have f0 := f 0
  have hbl : (bs.length : Int) ≤ 140737488355328 := by have := hb.len; unfold big at this; omega
  obtain ⟨A', cap', hv, _, _, hF⟩ := (hb.later h.b).form
  injection hv with e1 _ e2
  subst e1 e2
  have HF := Lib.hid hF
  have fail := fun (k : Int) (r : Nat × List UInt8 × Int) (hr : r = (0, [], k)) (hk : k ≠ 0) => (St.fail121 h k).mono (R' := fun e' w' => e' = .returned (.tuple #[]) ∧ w'.cell? ⟨p, 1, none⟩ = some (.int .i64 k) ∧ Hid (NumPostR W p L r (.returned (.int .u64 0)) w')) fun e' w' ⟨he, hS⟩ => ⟨he, by
    have hS' : St W w' (aRr W p [] k :: L) := by simpa [failB, failE, hk] using hS
    exact ⟨hS'.rrE, by subst hr; exact ⟨rfl, hS'⟩⟩⟩
  have FAIL := Lib.hid fail
  clear hF hb he f h fail
  go_enter Try.func117, Try.ntmps117
  go_wp2_with fail
  go_loop [5, 6, 7] (fun n b i => ∃ (q acc bv : Nat), i = .int .i64 (q : Int) ∧ n = .int .u64 (acc : Int) ∧ b = .int .u64 (bv : Int) ∧ q ≤ 9 ∧ Hid (bv = 128 ^ q) ∧ Hid (q ≤ bs.length ∧ acc < 128 ^ q ∧ numGo most 0 0 bs = numGo most q acc (bs.drop q))) (fun _ _ i => 10 - (intOf i).toNat)
  case atStart => exact ⟨0, 0, 1, rfl, rfl, rfl, by omega, rfl, ⟨by omega, by omega, by simp⟩⟩
  case round =>
    obtain ⟨q, acc, bv, rfl, rfl, rfl, hq, HBV, HL⟩ := hrel
    have hq10 : (q : Int) ≤ 9 := by omega
    by_cases hl : q < bs.length
    · obtain ⟨b, off, rfl, hb, hc⟩ := HF.out (by omega)
      have k1 := hc q _ (List.getElem?_eq_getElem hl)
      have hqi : (q : Int) < bs.length := by omega
      have hne : ((q : Int) == (bs.length : Int)) = false := by simp; omega
      have HD := Lib.hid (List.drop_eq_getElem_cons hl)
      obtain ⟨y, hy, hy2⟩ : ∃ y : Nat, y = bs[q].toNat ∧ y < 256 := ⟨_, rfl, bs[q].toNat_lt⟩
      obtain ⟨ee, s, b2, s1, s2, s3, s4, s5⟩ := refStep acc q y bv hq HL.out.2.1 HBV.out
      have S4 := Lib.hid s4
      have S5 := Lib.hid s5
      rw [← hy] at k1
      have HY := Lib.hid hy
      clear hc hy s4 s5
      have HOV := Lib.hid (fun (h9 : q = 9) (hb : 1 < y) => show numGo most 0 0 bs = (0, [], 11) by rw [HL.out.2.2, HD.out, numGo_over h9 (by rw [← HY.out]; exact hb)])
      by_cases h91 : q = 9 ∧ 1 < y
      · have f3 : ((q : Int) == 9) = true := by simp; omega
        have f4 : (1 : Int) < y := by omega
        have hb := Lib.hid (HOV.out h91.1 h91.2)
        clear h91
        go_wp2_with (first | (go_at_call 121; (with_reducible refine (FAIL.out 11 _ hb.out (by decide)).mono ?_); rintro e w1 ⟨rfl, d1, hN⟩))
        go_ret
        exact hN.out
      · have H91 := Lib.hid h91
        by_cases hc : 127 < y
        · have f3 : ((q : Int) == 9) = false := by simp; omega
          have hci : ¬ (y : Int) < 128 := by omega
          have hq8 : q < 9 := by omega
          clear h91
          go_wp2_with fail
          go_round
          case rel =>
            refine ⟨q + 1, s, b2, by go_num, rfl, rfl, by omega, S5.out hq8, ⟨by omega, ?_, ?_⟩⟩
            · rw [S4.out (by omega)]; exact acc_lt HL.out.2.1 (by omega)
            · rw [HL.out.2.2, HD.out, numGo_more (by rw [← HY.out]; exact hc) (by omega), S4.out (by omega), HY.out]
          case measure => simp [intOf]; omega
        · have hci : (y : Int) < 128 := by omega
          have hym : y % 128 = y := by omega
          have hymi : (y : Int) % 128 = y := by omega
          rw [hymi] at s1
          have HBAD := Lib.hid (fun (hb : (0 < q ∧ y = 0) ∨ most < acc + y * 128 ^ q) => show numGo most 0 0 bs = (0, [], 11) by rw [HL.out.2.2, HD.out, numGo_bad (by rw [← HY.out]; omega) (by rw [← HY.out]; exact hb)])
          have HGOOD := Lib.hid (fun (h9 : ¬ (q = 9 ∧ 1 < y)) (hb : ¬ ((0 < q ∧ y = 0) ∨ most < acc + y * 128 ^ q)) => show numGo most 0 0 bs = (acc + y * 128 ^ q, bs.drop (q + 1), 0) by rw [HL.out.2.2, HD.out, numGo_good (by rw [← HY.out]; omega) (by rw [← HY.out]; exact h9) (by rw [← HY.out]; exact hb), HY.out])
          obtain ⟨A', c', r1, r2, hb', ho'⟩ := H3.out.cut (q + 1) (by omega)
          have r1 : ∀ w' : World, (Instr.slice 47 (.slice (some ⟨b, off, none⟩) bs.length c) (some (.int .i64 ((q : Int) + 1))) none none).run Try.prog w' = .ok (.slice A' (bs.length - (q + 1)) c') w' := fun w' => by have := r1 w'; rwa [show ((q + 1 : Nat) : Int) = (q : Int) + 1 by omega] at this
          have r2 : ∀ w' : World, (Instr.sliceAt 47 (.slice (some ⟨b, off, none⟩) bs.length c) (some (.int .i64 ((q : Int) + 1))) none none).run Try.prog w' = .ok (.slice A' (bs.length - (q + 1)) c') w' := fun w' => by have := r2 w'; rwa [show ((q + 1 : Nat) : Int) = (q : Int) + 1 by omega] at this
          have GD1 := Lib.hid (show ∀ (hb : ¬ ((0 < q ∧ y = 0) ∨ most < acc + y * 128 ^ q)) (hs : s = acc + y * 128 ^ q), NumPostR W p L (numGo most 0 0 bs) (.returned (.int .u64 (s : Int))) (w.setCell ⟨p, 0, none⟩ (.slice A' (bs.length - (q + 1)) c')) from fun hb hs => by
            rw [HGOOD.out H91.out hb, hs]
            exact ⟨rfl, HH.out.rrSet0 hb' (by simp) (fun h => absurd rfl h)⟩)
          clear hb' ho' h91
          by_cases hq0 : 0 < q
          · have f1 : (0 : Int) < q := by omega
            by_cases h9 : q = 9
            · have f3 : ((q : Int) == 9) = true := by simp; omega
              have f4 : ¬ (1 : Int) < y := by have := H91.out; omega
              have H9 := Lib.hid h9
              clear h9
              by_cases hy0 : y = 0
              · have f2 : ((y : Int) == 0) = true := by simp; omega
                have hb := Lib.hid (HBAD.out (.inl ⟨hq0, hy0⟩))
                clear hy0
                go_wp2_with (first | (go_at_call 121; (with_reducible refine (FAIL.out 11 _ (hb.out) (by decide)).mono ?_); rintro e w1 ⟨rfl, d1, hN⟩))
                go_ret
                exact hN.out
              · have f2 : ((y : Int) == 0) = false := by simp; omega
                by_cases hm : most < s
                · have hmi : (most : Int) < s := by omega
                  have hb := Lib.hid (HBAD.out (.inr (by have := S4.out (by have := H91.out; omega); rw [hym] at this; omega)))
                  go_wp2_with (first | (go_at_call 121; (with_reducible refine (FAIL.out 11 _ (hb.out) (by decide)).mono ?_); rintro e w1 ⟨rfl, d1, hN⟩))
                  go_ret
                  exact hN.out
                · have hmi : ¬ (most : Int) < s := by omega
                  have hs := Lib.hid (S4.out (by have := H91.out; omega))
                  have E := Lib.hid (GD1.out (by have := hs.out; rw [hym] at this; omega) (by have := hs.out; rw [hym] at this; exact this))
                  go_wp2_with fail
                  go_ret
                  exact E.out
            · have f3 : ((q : Int) == 9) = false := by simp; omega
              by_cases hy0 : y = 0
              · have f2 : ((y : Int) == 0) = true := by simp; omega
                have hb := Lib.hid (HBAD.out (.inl ⟨hq0, hy0⟩))
                clear hy0
                go_wp2_with (first | (go_at_call 121; (with_reducible refine (FAIL.out 11 _ (hb.out) (by decide)).mono ?_); rintro e w1 ⟨rfl, d1, hN⟩))
                go_ret
                exact hN.out
              · have f2 : ((y : Int) == 0) = false := by simp; omega
                by_cases hm : most < s
                · have hmi : (most : Int) < s := by omega
                  have hb := Lib.hid (HBAD.out (.inr (by have := S4.out (by have := H91.out; omega); rw [hym] at this; omega)))
                  go_wp2_with (first | (go_at_call 121; (with_reducible refine (FAIL.out 11 _ (hb.out) (by decide)).mono ?_); rintro e w1 ⟨rfl, d1, hN⟩))
                  go_ret
                  exact hN.out
                · have hmi : ¬ (most : Int) < s := by omega
                  have hs := Lib.hid (S4.out (by have := H91.out; omega))
                  have E := Lib.hid (GD1.out (by have := hs.out; rw [hym] at this; omega) (by have := hs.out; rw [hym] at this; exact this))
                  go_wp2_with fail
                  go_ret
                  exact E.out
          · have f1 : ¬ (0 : Int) < q := by omega
            have f3 : ((q : Int) == 9) = false := by simp; omega
            by_cases hm : most < s
            · have hmi : (most : Int) < s := by omega
              have hb := Lib.hid (HBAD.out (.inr (by have := S4.out (by have := H91.out; omega); rw [hym] at this; omega)))
              go_wp2_with (first | (go_at_call 121; (with_reducible refine (FAIL.out 11 _ (hb.out) (by decide)).mono ?_); rintro e w1 ⟨rfl, d1, hN⟩))
              go_ret
              exact hN.out
            · have hmi : ¬ (most : Int) < s := by omega
              have hs := Lib.hid (S4.out (by have := H91.out; omega))
              have E := Lib.hid (GD1.out (by have := hs.out; rw [hym] at this; omega) (by have := hs.out; rw [hym] at this; exact this))
              go_wp2_with fail
              go_ret
              exact E.out
    · have hqi : ((q : Int) == (bs.length : Int)) = true := by have := HL.out.1; simp; omega
      have hb := Lib.hid (show numGo most 0 0 bs = (0, [], 10) by rw [HL.out.2.2, List.drop_eq_nil_of_le (by omega)]; rfl)
      go_wp2_with (first | (go_at_call 121; (with_reducible refine (FAIL.out 10 _ hb.out (by decide)).mono ?_); rintro e w1 ⟨rfl, d1, hN⟩))
      go_ret
      exact hN.out
theorem St.num117 (h : St W w (aRr W p bs e :: L)) (most : Nat) : Calls Try.prog 117 #[.pointer (some ⟨p, 0, none⟩), .int .u64 (most : Int)] w (NumPostR W p L (numS bs e most)) := by
  by_cases he : e = 0
  · subst he
    unfold numS
    rw [if_pos rfl]
    exact h.num117_ok most
  · exact h.num117_stuck he most
end
end Go.Proofs.Ythgpkbhilkdckaa
