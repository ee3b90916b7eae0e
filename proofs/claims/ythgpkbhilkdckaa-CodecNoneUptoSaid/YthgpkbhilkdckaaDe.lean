/- Are two lists of byte strings the same: the reference's Same. -/
import Derived.Test.YthgpkbhilkdckaaDa
namespace Go.Proofs.Ythgpkbhilkdckaa
open Go.RowKit
set_option linter.unusedVariables false

set_option maxRecDepth 20000 in
set_option maxHeartbeats 2000000 in
theorem same90 {inn inn' : Nat → Prop} {w : World} {v u : Value} {s t : List (List UInt8)} (h : Lss inn w v s) (k : Lss inn' w u t) : Calls Try.prog 90 #[v, u] w fun e w' => e = .returned (.bool (decide (s = t))) ∧ B w w' := by
  obtain ⟨A, c, rfl, _, hc1, hm1, hr⟩ := h
  obtain ⟨A', c', rfl, _, _, _, hr'⟩ := k
  have HR := Lib.hid hr
  have HR' := Lib.hid hr'
  have hs : s.length ≤ 9223372036854775807 := by unfold maxLen at hm1; omega
  clear hr hr' hc1 hm1
  by_cases hl : s.length = t.length
  · have q1 : ((s.length : Int) != (t.length : Int)) = false := by simp; omega
    rw [← hl]
    have HL := Lib.hid hl
    clear hl
    go_enter Try.func90, Try.ntmps90
    go_wp2_with fail
    go_loopw [5] (fun i wr => ∃ q : Nat, q ≤ s.length ∧ i = .int .i64 q ∧ Hid (∀ j, j < q → s[j]? = t[j]?) ∧ Hid (B w wr)) (fun i _ => s.length - (intOf i).toNat)
    case atStart => exact ⟨0, Nat.zero_le _, rfl, fun j h => by omega, Below.refl _ _⟩
    case round =>
      obtain ⟨q, hq, rfl, HP, HB⟩ := hrel
      by_cases hlt : q < s.length
      · obtain ⟨b, off, rfl, hb, _, hc⟩ := HR.out (by omega)
        obtain ⟨b', off', rfl, hb', _, hc'⟩ := HR'.out (by have := HL.out; omega)
        have hq' : q < t.length := by have := HL.out; omega
        obtain ⟨u1, k1, k2, _⟩ := hc q _ (List.getElem?_eq_getElem hlt)
        obtain ⟨u2, k3, k4, _⟩ := hc' q _ (List.getElem?_eq_getElem hq')
        have K1 := Lib.hid (HB.out.cell k1)
        have K3 := Lib.hid (HB.out.cell k3)
        have K2 := Lib.hid (k2.later HB.out)
        have K4 := Lib.hid (k4.later HB.out)
        have HS := Lib.hid (List.getElem?_eq_getElem hlt)
        have HT := Lib.hid (List.getElem?_eq_getElem hq')
        have hqi : (q : Int) < s.length := by omega
        generalize s[q] = x at *
        generalize t[q] = y at *
        clear hc hc' hq' k1 k2 k3 k4
        have l1 : ∀ w', B wr w' → w'.cell? ⟨b, off + q, none⟩ = some u1 := fun w' hb => hb.cell K1.out
        have l2 : ∀ w', B wr w' → w'.cell? ⟨b', off' + q, none⟩ = some u2 := fun w' hb => hb.cell K3.out
        have l3 : ∀ w', B wr w' → (convert 47 9 u1).run Try.prog w' = .ok (.string (bstr x)) w' := fun w' h => (K2.out.later h).conv Try.underlying47 Try.underlying5 Try.underlying9
        have l4 : ∀ w', B wr w' → (convert 47 9 u2).run Try.prog w' = .ok (.string (bstr y)) w' := fun w' h => (K4.out.later h).conv Try.underlying47 Try.underlying5 Try.underlying9
        by_cases e1 : x = y
        · have E := Lib.hid e1
          subst e1
          go_wp2_with fail
          go_region_held3 (fun w' => B wr w') (first | exact B.trans (by assumption) hb | exact (Below.refl _ _).drew | assumption) (fail)
          have hlast := ‹B wr _›
          go_wp2_with fail
          go_roundw
          case rel => exact ⟨q + 1, by omega, by go_num, fun j hj => by
            by_cases e : j = q
            · rw [e, HS.out, HT.out]
            · exact HP.out j (by omega), HB.out.trans hlast⟩
          case measure => simp [intOf]; omega
        · have g0 : (bstr x == bstr y) = false := by rw [bstr_beq]; simpa using e1
          have g1 : (bstr x != bstr y) = true := by simp [bne, g0]
          have g2 : ((bstr x).toList == (bstr y).toList) = false := by rw [bstr_toList, bstr_toList]; simpa using e1
          have E := Lib.hid (show decide (s = t) = false from decide_eq_false (fun e => e1 (by have h1 := HS.out; rw [e, HT.out] at h1; injection h1 with h1; rw [h1])))
          clear e1
          go_wp2_with fail
          go_region_held3 (fun w' => B wr w') (first | exact B.trans (by assumption) hb | exact (Below.refl _ _).drew | assumption) (fail)
          have hlast := ‹B wr _›
          go_wp2_with fail
          go_ret
          exact ⟨retB E.out.symm, HB.out.trans hlast⟩
      · have E := Lib.hid (show decide (s = t) = true from decide_eq_true (List.ext_getElem? fun j => by
          by_cases hj : j < q
          · exact HP.out j hj
          · rw [List.getElem?_eq_none (by omega), List.getElem?_eq_none (by have := HL.out; omega)]))
        have hqi : ¬ (q : Int) < s.length := by omega
        go_wp2_with fail
        go_ret
        exact ⟨retB E.out.symm, HB.out⟩
  · have q1 : ((s.length : Int) != (t.length : Int)) = true := by simp; omega
    have E := Lib.hid (show decide (s = t) = false from decide_eq_false (fun e => hl (by rw [e])))
    clear hl
    go_enter Try.func90, Try.ntmps90
    go_wp2
    go_ret
    exact ⟨retB E.out.symm, Below.refl _ _⟩
end Go.Proofs.Ythgpkbhilkdckaa
