/- Open, SameAll, Plain of the two tables. -/
import Derived.Test.YthgpkbhilkdckaaRt
namespace Go.Proofs.Ythgpkbhilkdckaa
open Go.RowKit
set_option linter.unusedVariables false

theorem TableAt.lss {own : Nat → Prop} {w : World} {p : Nat} {M : List (List UInt8)} (h : TableAt own w p M) : ∃ v, w.cell? ⟨p, 0, none⟩ = some v ∧ Lss own w v M := by
  obtain ⟨m, v, vs, h1, h2, h3, h4, h5, h6, h7⟩ := h
  exact ⟨v, by rw [h4.cell]; rfl, Lss.of_own h6 h7 h3⟩

/-- which bytes a number opens -/
def opB (M : List (List UInt8)) (d : Int) : Bool := decide (1 ≤ d) && decide (d ≤ M.length)
def opV (M : List (List UInt8)) (d : Int) : List UInt8 := if opB M d then M.getD (d - 1).toNat [] else []
def OpenPost (w : World) (M : List (List UInt8)) (d : Int) (e : Ending) (w' : World) : Prop :=
  ∃ v', e = .returned (.tuple #[v', .bool (opB M d)]) ∧ w'.ownsRow w.heap.size 5 1 v' (opV M d).length (cellsB (opV M d)) ∧ (opV M d).length ≤ big ∧ B w w'
theorem op_no {M : List (List UInt8)} {d : Int} (h : d < 1 ∨ (M.length : Int) < d) : opB M d = false ∧ opV M d = [] := by
  have : opB M d = false := by unfold opB; simp; omega
  exact ⟨this, by unfold opV; rw [this]; rfl⟩
theorem op_yes {M : List (List UInt8)} {d : Int} (h1 : 1 ≤ d) (h2 : d ≤ M.length) (x : List UInt8) (hx : M[(d - 1).toNat]? = some x) : opB M d = true ∧ opV M d = x := by
  have : opB M d = true := by unfold opB; simp; omega
  exact ⟨this, by unfold opV; rw [this, List.getD_eq_getElem?_getD, hx]; rfl⟩
theorem OpenPost.no {w : World} {M : List (List UInt8)} {d : Int} (h : d < 1 ∨ (M.length : Int) < d) : OpenPost w M d (.returned (.tuple #[.slice none 0 0, .bool false])) w := by
  obtain ⟨h1, h2⟩ := op_no h
  exact ⟨_, by rw [h1], by rw [h2]; exact ownNil _ _ _ _, by rw [h2]; simp [big], Below.refl _ _⟩

set_option maxRecDepth 4000 in
set_option maxHeartbeats 1000000 in
theorem open64 {own : Nat → Prop} {w : World} {p : Nat} {M : List (List UInt8)} (h : TableAt own w p M) (hlen : M.length ≤ 9223372036854775806) (d : Int) (hd : -9223372036854775808 ≤ d ∧ d ≤ 9223372036854775807) :
    Calls Try.prog 64 #[.pointer (some ⟨p, 0, none⟩), .int .i64 d] w (OpenPost w M d) := by
  obtain ⟨u, c0, hL⟩ := h.lss
  obtain ⟨A, cap, rfl, hn, hc, hm, hr⟩ := hL
  obtain ⟨hd1, hd2⟩ := hd
  by_cases h1 : d < 1
  · have E := Lib.hid (OpenPost.no (w := w) (M := M) (.inl h1))
    clear hr hn hc hm
    go_enter Try.func64, Try.ntmps64
    go_wp2_with (first | (go_at_call 113; refine (tnone113 h).mono ?_; rintro e wn ⟨rfl, rfl⟩))
    go_ret2
    exact E.out
  · by_cases h2 : (M.length : Int) < d
    · have E := Lib.hid (OpenPost.no (w := w) (M := M) (.inr h2))
      clear hr hn hc hm
      go_enter Try.func64, Try.ntmps64
      go_wp2_with (first | (go_at_call 113; refine (tnone113 h).mono ?_; rintro e wn ⟨rfl, rfl⟩))
      go_ret2
      exact E.out
    · obtain ⟨k, hk⟩ := Int.eq_ofNat_of_zero_le (show 0 ≤ d - 1 by omega)
      obtain rfl : d = (k : Int) + 1 := by omega
      have hkl : k < M.length := by omega
      obtain ⟨b, off, rfl, hb, _, hx⟩ := hr (by omega)
      obtain ⟨u, k1, k2, _⟩ := hx k _ (List.getElem?_eq_getElem hkl)
      have hO := op_yes (M := M) (d := (k : Int) + 1) (by omega) (by omega) _ (show M[((k : Int) + 1 - 1).toNat]? = some M[k] by rw [show ((k : Int) + 1 - 1).toNat = k by omega]; exact List.getElem?_eq_getElem hkl)
      have HO := Lib.hid hO
      have hki : (k : Int) < M.length := by omega
      generalize M[k] = x at *
      have d3 : wrap64 (k : Int) = k := by unfold wrap64; omega
      have d4 : (0:Int) ≤ k := by omega
      have d1 : decide ((k : Int) + 1 < 1) = false := by simp; omega
      have d2 : decide ((M.length : Int) < (k : Int) + 1) = false := by simp; omega
      have H := Lib.hid h
      clear hr hx hO hn hc hm hk h1 h2 hd1 hd2 h hb hlen
      go_enter Try.func64, Try.ntmps64
      go_wp2_with (first | (go_at_call 113; refine (tnone113 H.out).mono ?_; rintro e wn ⟨rfl, rfl⟩) | (go_at_call 89; refine (clone89 k2).mono ?_; rintro e wn ⟨v', rfl, ho, hb'⟩))
      go_ret2
      exact ⟨v', by rw [HO.out.1]; rfl, by rw [HO.out.2]; exact ho, by rw [HO.out.2]; exact k2.len, hb'⟩
set_option maxHeartbeats 1000000 in
theorem open65 {own : Nat → Prop} {w : World} {p : Nat} {M : List (List UInt8)} (h : RefT own w p M) (hlen : M.length ≤ 9223372036854775806) (d : Int) (hd : -9223372036854775808 ≤ d ∧ d ≤ 9223372036854775807) :
    Calls Try.prog 65 #[.pointer (some ⟨p, 0, none⟩), .int .i64 d] w (OpenPost w M d) := by
  obtain ⟨u, c0, hL⟩ := h.lss
  obtain ⟨A, cap, rfl, hn, hc, hm, hr⟩ := hL
  obtain ⟨hd1, hd2⟩ := hd
  by_cases h1 : d < 1
  · have E := Lib.hid (OpenPost.no (w := w) (M := M) (.inl h1))
    clear hr hn hc hm h
    go_enter Try.func65, Try.ntmps65
    go_wp2
    go_ret2
    exact E.out
  · by_cases h2 : (M.length : Int) < d
    · have E := Lib.hid (OpenPost.no (w := w) (M := M) (.inr h2))
      clear hr hn hc hm h
      go_enter Try.func65, Try.ntmps65
      go_wp2
      go_ret2
      exact E.out
    · obtain ⟨k, hk⟩ := Int.eq_ofNat_of_zero_le (show 0 ≤ d - 1 by omega)
      obtain rfl : d = (k : Int) + 1 := by omega
      have hkl : k < M.length := by omega
      obtain ⟨b, off, rfl, hb, _, hx⟩ := hr (by omega)
      obtain ⟨u, k1, k2, _⟩ := hx k _ (List.getElem?_eq_getElem hkl)
      have hO := op_yes (M := M) (d := (k : Int) + 1) (by omega) (by omega) _ (show M[((k : Int) + 1 - 1).toNat]? = some M[k] by rw [show ((k : Int) + 1 - 1).toNat = k by omega]; exact List.getElem?_eq_getElem hkl)
      have HO := Lib.hid hO
      have hki : (k : Int) < M.length := by omega
      generalize M[k] = x at *
      have g3 : 0 + x.length ≤ maxLen := by have := k2.len; unfold big at this; unfold maxLen; omega
      have g4 : (0 + x.length) * 1 ≤ 140737488355328 := by have := k2.len; unfold big at this; omega
      clear hr hx hO hn hc hm hk h
      go_enter Try.func65, Try.ntmps65
      go_wp2_with (first | (refine wpList_append_Rd (v := .slice none 0 0) (base := w.heap.size) rfl (.const (.slice none 0 0)) (.tmp 24) 47 rfl Try.underlying47 info5 rfl Nat.zero_lt_one rfl rfl (ownNil _ _ 5 1) k2.rd (cellsB_one x) g3 g4 (Nat.le_refl _) ?_; intro A2 c2 w2 r2 x2 y2; simp only [Nat.zero_add, List.nil_append] at r2 y2; have hB2 : B w w2 := B.grown (Below.refl _ _) x2 (fun k hk => by simp [Value.ownBlock] at hk)))
      go_ret2
      exact ⟨_, by rw [HO.out.1]; rfl, by rw [HO.out.2]; exact r2, by rw [HO.out.2]; exact k2.len, hB2⟩

set_option maxHeartbeats 1000000 in
theorem sameAll50 {inn inn' : Nat → Prop} {w : World} {v u : Value} {s t : List (List UInt8)} (h : Lss inn w v s) (k : Lss inn' w u t) : Calls Try.prog 50 #[v, u] w fun e w' => e = .returned (.bool (decide (s = t))) ∧ B w w' := by
  obtain ⟨A, c, rfl, _, hc1, hm1, hr⟩ := h
  obtain ⟨A', c', rfl, _, _, _, hr'⟩ := k
  have HR := Lib.hid hr
  have HR' := Lib.hid hr'
  have hs : s.length ≤ 9223372036854775807 := by unfold maxLen at hm1; omega
  clear hr hr' hc1 hm1
  by_cases hl : s.length = t.length
  · have q1 : ((s.length : Int) != (t.length : Int)) = false := by simp; omega
    rw [← hl]
    have HL := Lib.hid hl
    clear hl
    go_enter Try.func50, Try.ntmps50
    go_wp2_with fail
    go_loopw [5] (fun i wr => ∃ q : Nat, q ≤ s.length ∧ i = .int .i64 q ∧ (∀ j, j < q → s[j]? = t[j]?) ∧ B w wr) (fun i _ => s.length - (intOf i).toNat)
    case atStart => exact ⟨0, Nat.zero_le _, rfl, fun j h => by omega, Below.refl _ _⟩
    case round =>
      obtain ⟨q, hq, rfl, hp, hB⟩ := hrel
      have HP := Lib.hid hp
      clear hp
      by_cases hlt : q < s.length
      · obtain ⟨b, off, rfl, hb, _, hc⟩ := HR.out (by omega)
        obtain ⟨b', off', rfl, hb', _, hc'⟩ := HR'.out (by have := HL.out; omega)
        have hq' : q < t.length := by have := HL.out; omega
        obtain ⟨u1, k1, k2, _⟩ := hc q _ (List.getElem?_eq_getElem hlt)
        obtain ⟨u2, k3, k4, _⟩ := hc' q _ (List.getElem?_eq_getElem hq')
        have k1 := hB.cell k1
        have k3 := hB.cell k3
        have k2 := k2.later hB
        have k4 := k4.later hB
        have HS := Lib.hid (List.getElem?_eq_getElem hlt)
        have HT := Lib.hid (List.getElem?_eq_getElem hq')
        have hqi : (q : Int) < s.length := by omega
        generalize s[q] = x at *
        generalize t[q] = y at *
        clear hc hc' hq'
        have HSM := Lib.hid (same112 (w := wr.drew) (k2.later (Below.refl _ _).drew) (k4.later (Below.refl _ _).drew))
        by_cases e1 : x = y
        · have g1 : (x == y) = true := by simpa using e1
          have E := Lib.hid e1
          clear e1
          go_wp2_with fail
          go_region_with (go_at_call 112; refine HSM.out.mono ?_; rintro e wn ⟨rfl, rfl⟩; simp only [g1])
          all_goals (
            go_wp2_with fail
            go_roundw
            case rel => exact ⟨q + 1, by omega, by go_num, fun j hj => by
              by_cases e : j = q
              · rw [e, HS.out, HT.out, E.out]
              · exact HP.out j (by omega), hB.trans (Below.refl _ _).drew⟩
            case measure => simp [intOf]; omega)
        · have g1 : (x == y) = false := by simpa using e1
          have E := Lib.hid (show decide (s = t) = false from decide_eq_false (fun e => e1 (by have h1 := HS.out; rw [e, HT.out] at h1; injection h1 with h1; rw [h1])))
          clear e1
          go_wp2_with fail
          go_region_with (go_at_call 112; refine HSM.out.mono ?_; rintro e wn ⟨rfl, rfl⟩; simp only [g1])
          all_goals (
            go_wp2_with fail
            go_ret
            exact ⟨retB E.out.symm, hB.trans (Below.refl _ _).drew⟩)
      · have E := Lib.hid (show decide (s = t) = true from decide_eq_true (List.ext_getElem? fun j => by
          by_cases hj : j < q
          · exact HP.out j hj
          · rw [List.getElem?_eq_none (by omega), List.getElem?_eq_none (by have := HL.out; omega)]))
        have hqi : ¬ (q : Int) < s.length := by omega
        go_wp2_with fail
        go_ret
        exact ⟨retB E.out.symm, hB⟩
  · have q1 : ((s.length : Int) != (t.length : Int)) = true := by simp; omega
    have E := Lib.hid (show decide (s = t) = false from decide_eq_false (fun e => hl (by rw [e])))
    clear hl
    go_enter Try.func50, Try.ntmps50
    go_wp2
    go_ret
    exact ⟨retB E.out.symm, Below.refl _ _⟩
end Go.Proofs.Ythgpkbhilkdckaa
