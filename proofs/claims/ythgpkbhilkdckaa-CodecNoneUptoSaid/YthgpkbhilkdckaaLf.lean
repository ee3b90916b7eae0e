/- The rest of the ledger's methods, and the reference's ledger. -/
import Derived.Test.YthgpkbhilkdckaaBg
import Derived.Test.YthgpkbhilkdckaaOg
namespace Go.Proofs.Ythgpkbhilkdckaa
open Go.RowKit
set_option linter.unusedVariables false

theorem flat_one (s : List (Int × Int)) : ∀ x ∈ flat s, x.oneCell' = true := by
  induction s with
  | nil => intro x h; cases h
  | cons y r ih =>
    intro x h
    simp only [flat, List.mem_cons] at h
    rcases h with rfl | rfl | h
    · rfl
    · rfl
    · exact ih x h
theorem flat_get (s : List (Int × Int)) (i : Nat) (x : Int × Int) (h : s[i]? = some x) : (flat s)[i * 2]? = some (.int .i64 x.1) ∧ (flat s)[i * 2 + 1]? = some (.int .i64 x.2) := by
  induction s generalizing i with
  | nil => simp at h
  | cons y r ih =>
    cases i with
    | zero => simp at h; subst h; exact ⟨rfl, rfl⟩
    | succ i =>
      have := ih i (by simpa using h)
      rw [show (i + 1) * 2 = i * 2 + 1 + 1 by omega]
      simpa [flat] using this
/-- a row of pairs reads as pairs -/
theorem Ss.of_own {w : World} {base : Nat} {e : TypeId} {v : Value} {s : List (Int × Int)} (h : w.ownsRow base e 2 v s.length (flat s)) : Ss w v s := by
  rcases h.2 with ⟨rfl, h0⟩ | ⟨g, cap, cur, rfl, hg, hh, hc, hm, hs, ht⟩
  · exact ⟨none, 0, by rw [h0], fun hn => by omega⟩
  · refine ⟨_, cap, rfl, fun hn => ⟨g, 0, rfl, Blk.lt (t := e) hh, fun i x hx => ?_⟩⟩
    have hi : i < s.length := by
      rcases Nat.lt_or_ge i s.length with h | h
      · exact h
      · rw [List.getElem?_eq_none h] at hx; cases hx
    obtain ⟨f1, f2⟩ := flat_get s i x hx
    rw [← ht] at f1 f2
    rw [Nat.zero_add, Blk.cell (t := e) hh, Blk.cell (t := e) hh]
    rw [List.getElem?_take, if_pos (by omega)] at f1 f2
    simp at f1 f2
    exact ⟨f1, f2⟩

def SClonePost (w : World) (n : Nat) (xs : List Value) (e : Ending) (w' : World) : Prop := ∃ v', e = .returned v' ∧ w'.ownsRow w.heap.size 25 2 v' n xs ∧ B w w'
set_option maxHeartbeats 400000 in
theorem sclone114 {w : World} {v : Value} {n : Nat} {xs : List Value} (h : Rd w v n 2 xs) (h1 : ∀ x ∈ xs, x.oneCell' = true) (hroom : n * 16 ≤ 140737488355328) : Calls Try.prog 114 #[v] w (SClonePost w n xs) := by
  obtain ⟨hl, A, cap, rfl, hn, hc, hr⟩ := id h
  cases A with
  | none =>
    obtain ⟨rfl, rfl⟩ := hn rfl
    have hx : xs = [] := List.eq_nil_of_length_eq_zero (by simpa using hl)
    subst hx
    have q : ∀ w, (binOp .eql 22 (.slice none 0 0) (.slice none 0 0)).run Try.prog w = .ok (.bool true) w := fun w => by kernel_rfl
    have E := Lib.hid (show SClonePost w 0 [] (.returned (.slice none 0 0)) w from ⟨_, rfl, ownNil w _ _ _, Below.refl _ _⟩)
    clear h hr hn hc hl h1
    go_enter Try.func114, Try.ntmps114
    go_wp2
    go_ret
    exact E.out
  | some ad =>
    have q : ∀ w, (binOp .eql 22 (.slice (some ad) n cap) (.slice none 0 0)).run Try.prog w = .ok (.bool false) w := fun w => by kernel_rfl
    have hb : B w (w.alloc (.cells #[] 25)) := B.alloc' _ _
    obtain ⟨v', w', hrun, h2, h3, h4⟩ := append_Rd (P := Try.prog) (t := 22) (ty := 22) Try.underlying22 info25 rfl (by omega) (ownEmpty w 25 2) (h.later hb) h1 (by unfold maxLen; omega) (by omega) (by simp)
    have E := Lib.hid (show SClonePost w n xs (.returned v') w' from ⟨_, rfl, by simpa using h2, hb.grown h3 (fun k hk => by simp [Value.ownBlock] at hk; omega)⟩)
    clear h h2 h3 h4 hb hr hn hc hl h1
    go_enter Try.func114, Try.ntmps114
    go_wp2_with (at_builtin; refine wpList_append_run rfl (.tmp 5) (.tmp 6) 22 rfl rfl rfl hrun ?_)
    go_ret
    exact E.out

theorem Ledger.row {own : Nat → Prop} {w : World} {p : Nat} {s : List (Int × Int)} (h : LedgerAt own w p s) : ∃ A cap, w.cell? ⟨p, 0, none⟩ = some (.slice A s.length cap) ∧ w.ownsRow 0 25 2 (.slice A s.length cap) s.length (flat s) ∧ ∀ g, (Value.slice A s.length cap).ownBlock = some g → own g := by
  obtain ⟨m, v, h1, h2, h3, h4, h5, h6⟩ := h
  obtain ⟨A, c, rfl⟩ := own_slice h6
  exact ⟨A, c, by rw [h4.cell]; rfl, h6, h3⟩
set_option maxHeartbeats 400000 in
theorem signs59 {own : Nat → Prop} {w : World} {p : Nat} {s : List (Int × Int)} (h : LedgerAt own w p s) (hroom : s.length * 16 ≤ 140737488355328) : Calls Try.prog 59 #[.pointer (some ⟨p, 0, none⟩)] w (SClonePost w s.length (flat s)) := by
  obtain ⟨A, cap, c0, hr, _⟩ := Ledger.row h
  have hc := Lib.hid (sclone114 (Rd.of_own hr) (flat_one s) hroom)
  clear hr
  go_enter Try.func59, Try.ntmps59
  go_wp2_with (first | (go_at_call 109; refine (none109 h).mono ?_; rintro e wn ⟨rfl, rfl⟩) | (go_at_call 114; refine hc.out.mono ?_; rintro e wn ⟨v', rfl, ho, hb⟩))
  go_ret
  exact ⟨_, rfl, ho, hb⟩
set_option maxHeartbeats 400000 in
theorem llen60 {own : Nat → Prop} {w : World} {p : Nat} {s : List (Int × Int)} (h : LedgerAt own w p s) : Calls Try.prog 60 #[.pointer (some ⟨p, 0, none⟩)] w fun e w' => e = .returned (.int .i64 (s.length : Int)) ∧ w = w' := by
  obtain ⟨A, cap, c0, hr, _⟩ := Ledger.row h
  clear hr
  go_enter Try.func60, Try.ntmps60
  go_wp2_with (first | (go_at_call 109; refine (none109 h).mono ?_; rintro e wn ⟨rfl, rfl⟩))
  go_ret
  exact ⟨rfl, rfl⟩

set_option maxHeartbeats 1000000 in
theorem equal58 {w : World} {v u : Value} {s t : List (Int × Int)} (h : Ss w v s) (k : Ss w u t) (hs : s.length ≤ 9223372036854775807) : Calls Try.prog 58 #[v, u] w fun e w' => e = .returned (.bool (decide (s = t))) ∧ B w w' := by
  obtain ⟨A, c, rfl, hr⟩ := h
  obtain ⟨A', c', rfl, hr'⟩ := k
  have HR := Lib.hid hr
  have HR' := Lib.hid hr'
  clear hr hr'
  by_cases hl : s.length = t.length
  · have q1 : ((s.length : Int) != (t.length : Int)) = false := by simp; omega
    rw [← hl]
    have HL := Lib.hid hl
    clear hl
    go_enter Try.func58, Try.ntmps58
    go_wp2_with fail
    go_loopw [13] (fun i wr => ∃ q : Nat, q ≤ s.length ∧ i = .int .i64 q ∧ (∀ j, j < q → s[j]? = t[j]?) ∧ B w wr) (fun i _ => s.length - (intOf i).toNat)
    case atStart => exact ⟨0, Nat.zero_le _, rfl, fun j h => by omega, Below.refl _ _⟩
    case round =>
      obtain ⟨q, hq, rfl, hp, hB⟩ := hrel
      have HP := Lib.hid hp
      clear hp
      by_cases hlt : q < s.length
      · obtain ⟨b, off, rfl, hb, hc⟩ := HR.out (by omega)
        obtain ⟨b', off', rfl, hb', hc'⟩ := HR'.out (by have := HL.out; omega)
        have hq' : q < t.length := by have := HL.out; omega
        obtain ⟨k1, k2⟩ := hc q _ (List.getElem?_eq_getElem hlt)
        obtain ⟨k3, k4⟩ := hc' q _ (List.getElem?_eq_getElem hq')
        have k1 := hB.cell k1
        have k2 := hB.cell k2
        have k3 := hB.cell k3
        have k4 := hB.cell k4
        have HS := Lib.hid (List.getElem?_eq_getElem hlt)
        have HT := Lib.hid (List.getElem?_eq_getElem hq')
        have hqi : (q : Int) < s.length := by omega
        generalize s[q] = x at *
        generalize t[q] = y at *
        clear hc hc' hq'
        by_cases e1 : x.1 = y.1
        · by_cases e2 : x.2 = y.2
          · have E := Lib.hid (show x = y from Prod.ext e1 e2)
            have g1 : (x.1 == y.1) = true := by simpa using e1
            have g2 : (x.2 == y.2) = true := by simpa using e2
            have g3 : (x.1 != y.1) = false := by simpa using e1
            have g4 : (x.2 != y.2) = false := by simpa using e2
            clear e1 e2
            go_wp2_with fail
            go_region
            go_wp2_with fail
            go_roundw
            case rel => exact ⟨q + 1, by omega, by go_num, fun j hj => by
              by_cases e : j = q
              · rw [e, HS.out, HT.out, E.out]
              · exact HP.out j (by omega), hB.trans (Below.refl _ _).drew⟩
            case measure => simp [intOf]; omega
          · have E := Lib.hid (show decide (s = t) = false from decide_eq_false (fun e => e2 (by have h1 := HS.out; rw [e, HT.out] at h1; injection h1 with h1; rw [h1])))
            have g1 : (x.1 == y.1) = true := by simpa using e1
            have g2 : (x.2 == y.2) = false := by simpa using e2
            clear e1 e2
            go_wp2_with fail
            go_region
            go_wp2_with fail
            go_ret
            exact ⟨retB E.out.symm, hB.trans (Below.refl _ _).drew⟩
        · have E := Lib.hid (show decide (s = t) = false from decide_eq_false (fun e => e1 (by have h1 := HS.out; rw [e, HT.out] at h1; injection h1 with h1; rw [h1])))
          have g1 : (x.1 == y.1) = false := by simpa using e1
          clear e1
          go_wp2_with fail
          go_region
          go_wp2_with fail
          go_ret
          exact ⟨retB E.out.symm, hB.trans (Below.refl _ _).drew⟩
      · have E := Lib.hid (show decide (s = t) = true from decide_eq_true (List.ext_getElem? fun j => by
          by_cases hj : j < q
          · exact HP.out j hj
          · rw [List.getElem?_eq_none (by omega), List.getElem?_eq_none (by have := HL.out; omega)]))
        have hqi : ¬ (q : Int) < s.length := by omega
        go_wp2_with fail
        go_ret
        exact ⟨retB E.out.symm, hB⟩
  · have q1 : ((s.length : Int) != (t.length : Int)) = true := by simp; omega
    have E := Lib.hid (show decide (s = t) = false from decide_eq_false (fun e => hl (by rw [e])))
    clear hl
    go_enter Try.func58, Try.ntmps58
    go_wp2
    go_ret
    exact ⟨retB E.out.symm, Below.refl _ _⟩
end Go.Proofs.Ythgpkbhilkdckaa
