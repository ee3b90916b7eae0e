/- Lemmas and contracts, part 9. -/
import Derived.Test.YtoikjgcggmemaaaGreatDoorZb8
import Derived.StringKeys
/- The disk's methods that only read. -/
namespace Go.Proofs.YtoikjgcggmemaaaGreatDoor
open Go.RowKit Go.Maps Go.Deep
set_option linter.unusedVariables false

theorem strLaw : Keyed Tryz.prog 9 := string_keyed Tryz.underlying9
theorem keyN {n : List UInt8} (hn : n.length ≤ maxLen) : keyOf Tryz.prog 9 (.string (bstr n)) = some (.string n) := by
  have := Go.WideMaps.keyOf_string_mk (P := Tryz.prog) (k := 9) Tryz.underlying9 (s := bstr n) (by simpa [bstr, ByteArray.size] using hn)
  simpa [bstr] using this
theorem zeroPF (w : World) : (zeroValue 73).run Tryz.prog w = .ok (.pointer none) w := by kernel_rfl
section
variable {W w : World} {p m : Nat} {d : Dk} {E : List (Fl × Nat)} {X : List Asn} {n : List UInt8}
theorem none_c {r o : Value} (h : Blk w p 49 #[r, .map (some m), o]) : Calls Tryz.prog 38 #[.pointer (some ⟨p, 0, none⟩)] w fun e w' => e = .returned (.bool false) ∧ w = w' := by
  have c1 := h.cell 1
  simp at c1
  have q1 : ∀ w, (binOp .eql 47 (.map (some m)) (.map none)).run Tryz.prog w = .ok (.bool false) w := fun w => by kernel_rfl
  clear h
  go_enter Tryz.func38, Tryz.ntmps38
  go_wp2
  go_ret
  exact ⟨rfl, rfl⟩
theorem can_c {r : Value} {o : Bool} (h : Blk w p 49 #[r, .map (some m), .bool o]) : Calls Tryz.prog 35 #[.pointer (some ⟨p, 0, none⟩)] w fun e w' => e = .returned (.int .i64 (if o then 32 else 0)) ∧ w = w' := by
  have c2 := h.cell 2
  simp at c2
  have HN := Lib.hid (none_c h)
  clear h
  cases o
  all_goals
    go_enter Tryz.func35, Tryz.ntmps35
    go_wp2_with (first | (go_at_call 38; (with_reducible refine HN.out.mono ?_); rintro e w1 ⟨rfl, rfl⟩))
    go_ret
    exact ⟨rfl, rfl⟩
theorem off_c {r : Value} {o : Bool} (h : Blk w p 49 #[r, .map (some m), .bool o]) : Calls Tryz.prog 20 #[.pointer (some ⟨p, 0, none⟩)] w fun e w' => e = .returned (.bool o) ∧ w = w' := by
  have c2 := h.cell 2
  simp at c2
  have HN := Lib.hid (none_c h)
  clear h
  go_enter Tryz.func20, Tryz.ntmps20
  go_wp2_with (first | (go_at_call 38; (with_reducible refine HN.out.mono ?_); rintro e w1 ⟨rfl, rfl⟩))
  go_ret
  exact ⟨rfl, rfl⟩
theorem look_no (h : St W w (dkL p m d E ++ X)) (hn : n.length ≤ maxLen) (hi : ixF n (flsOf E) = none) : (Instr.lookup 47 (.map (some m)) (.string (bstr n)) false).run Tryz.prog w = .ok (.pointer none) w := by
  obtain ⟨v, ps, h1, h2⟩ := aMap.look h.swap strLaw Tryz.underlying47 (zeroPF w) (keyN hn)
  rw [dOf_no hi] at h2
  rw [h1]
  unfold ptrElem at h2
  split at h2
  · rfl
  · cases h2
  · cases h2
theorem look_yes (h : St W w (dkL p m d E ++ X)) (hn : n.length ≤ maxLen) {i : Nat} {x : Fl × Nat} (hi : ixF n (flsOf E) = some i) (hx : E[i]? = some x) : (Instr.lookup 47 (.map (some m)) (.string (bstr n)) false).run Tryz.prog w = .ok (.pointer (some ⟨x.2, 0, none⟩)) w := by
  obtain ⟨v, ps, h1, h2⟩ := aMap.look h.swap strLaw Tryz.underlying47 (zeroPF w) (keyN hn)
  obtain ⟨y, k1, k2, k3⟩ := dOf_at hi
  rw [hx] at k1
  have k1 := Option.some.inj k1
  rw [k3, ← k1] at h2
  have e := ptrElem_inv (g := x.2) h2
  rw [h1, e]
theorem may_off (hE : DkE d (m, E)) {er : Int} (hm : mayF d n = (none, er)) (ho : d.off = false) : ixF n (flsOf E) = none ∧ er = 4 := by
  unfold mayF at hm
  rw [if_neg (by rw [ho]; simp)] at hm
  rw [hE.2]
  cases hi : ixF n d.R with
  | none => rw [hi] at hm; simp at hm; exact ⟨rfl, hm.symm⟩
  | some k => rw [hi] at hm; simp at hm
theorem may_on (hE : DkE d (m, E)) {i : Nat} {er : Int} (hm : mayF d n = (some i, er)) : ixF n (flsOf E) = some i ∧ ∃ x, E[i]? = some x ∧ x.1.nm = n ∧ d.R[i]? = some x.1 := by
  unfold mayF at hm
  split at hm
  · simp at hm
  · cases hi : ixF n d.R with
    | none => rw [hi] at hm; simp at hm
    | some k =>
      rw [hi] at hm
      simp at hm
      obtain ⟨rfl, _⟩ := hm
      have hi' : ixF n (flsOf E) = some k := by rw [hE.2]; exact hi
      obtain ⟨x, h1, h2, _⟩ := dOf_at hi'
      refine ⟨hi', x, h1, h2, ?_⟩
      rw [← hE.2]
      simp [flsOf, h1]
theorem find_no (h : St W w (dkL p m d E ++ X)) (hE : DkE d (m, E)) (hn : n.length ≤ maxLen) {er : Int} (hm : mayF d n = (none, er)) :
    Calls Tryz.prog 51 #[.pointer (some ⟨p, 0, none⟩), .string (bstr n)] w fun e w' => e = .returned (.tuple #[.pointer none, .int .i64 er]) ∧ w = w' := by
  have hb := dkL.blk h
  have c1 := hb.cell 1
  simp at c1
  have HC := Lib.hid (can_c hb)
  cases ho : d.off with
  | true =>
    rw [ho] at HC
    have he : er = 32 := by unfold mayF at hm; rw [ho] at hm; simp at hm; exact hm.symm
    subst he
    clear h hE hn hm hb ho
    go_enter Tryz.func51, Tryz.ntmps51
    go_wp2_with (first | (go_at_call 35; (with_reducible refine HC.out.mono ?_); rintro e w1 ⟨rfl, rfl⟩))
    go_ret2
    exact ⟨rfl, rfl⟩
  | false =>
    rw [ho] at HC
    obtain ⟨hi, rfl⟩ := may_off hE hm ho
    have hl := look_no h hn hi
    clear h hE hn hm hb ho hi
    go_enter Tryz.func51, Tryz.ntmps51
    go_wp2_with (first | (go_at_call 35; (with_reducible refine HC.out.mono ?_); rintro e w1 ⟨rfl, rfl⟩))
    go_ret2
    exact ⟨rfl, rfl⟩
theorem find_yes (h : St W w (dkL p m d E ++ X)) (hE : DkE d (m, E)) (hn : n.length ≤ maxLen) {i : Nat} {er : Int} {x : Fl × Nat} (hm : mayF d n = (some i, er)) (hx : E[i]? = some x) :
    Calls Tryz.prog 51 #[.pointer (some ⟨p, 0, none⟩), .string (bstr n)] w fun e w' => e = .returned (.tuple #[.pointer (some ⟨x.2, 0, none⟩), .int .i64 0]) ∧ w = w' := by
  have hb := dkL.blk h
  have c1 := hb.cell 1
  simp at c1
  have HC := Lib.hid (can_c hb)
  rw [(may_some hm).2.1] at HC
  have hl := look_yes h hn (may_on hE hm).1 hx
  generalize x.2 = g at *
  clear h hE hn hm hb hx
  go_enter Tryz.func51, Tryz.ntmps51
  go_wp2_with (first | (go_at_call 35; (with_reducible refine HC.out.mono ?_); rintro e w1 ⟨rfl, rfl⟩))
  go_ret2
  exact ⟨rfl, rfl⟩
theorem bare_c (w : World) (k : Int) (hk : -9223372036854775808 ≤ k ∧ k ≤ 9223372036854775807) : Calls Tryz.prog 37 #[.int .i64 k] w fun e w' => e = .returned (.int .i64 (bareF k)) ∧ w = w' := by
  by_cases h1 : k = -9223372036854775808
  · subst h1
    go_enter Tryz.func37, Tryz.ntmps37
    go_wp2
    go_ret
    exact ⟨rfl, rfl⟩
  · have q1 : (k == -9223372036854775808) = false := by simpa using h1
    by_cases h2 : k < 0
    · have E := Lib.hid (show -k = bareF k by unfold bareF; rw [if_neg h1, if_pos h2])
      have hk2 : 0 ≤ -k ∧ -k ≤ 9223372036854775807 := by omega
      obtain ⟨k2, k3⟩ := hk2
      have q2 : IntKind.i64.wrap (-k) = -k := by simp [IntKind.wrap, IntKind.signed, IntKind.bits]; omega
      clear hk h1
      go_enter Tryz.func37, Tryz.ntmps37
      go_wp2
      go_ret
      exact ⟨retI E.out, rfl⟩
    · have E := Lib.hid (show k = bareF k by unfold bareF; rw [if_neg h1, if_neg h2])
      clear hk h1
      go_enter Tryz.func37, Tryz.ntmps37
      go_wp2
      go_ret
      exact ⟨retI E.out, rfl⟩
end
end Go.Proofs.YtoikjgcggmemaaaGreatDoor
