/- The reference's table. -/
import Derived.Test.YthgpkbhilkdckaaLs
import Derived.Test.YthgpkbhilkdckaaTc
import Derived.Test.YthgpkbhilkdckaaBg
namespace Go.Proofs.Ythgpkbhilkdckaa
open Go.RowKit
set_option linter.unusedVariables false

theorem look_at {b : List UInt8} {M : List (List UInt8)} {q : Nat} (h : b ∉ M.take q) (hq : M[q]? = some b) (i : Nat) : look b M i = some (i + q + 1) := by
  induction M generalizing q i with
  | nil => simp at hq
  | cons x r ih =>
    cases q with
    | zero => simp at hq; subst hq; simp [look]
    | succ q =>
      simp only [List.take_succ_cons, List.mem_cons, not_or] at h
      rw [look, if_neg (fun e => h.1 e.symm), ih h.2 (by simpa using hq)]
      congr 1; omega

def RefT (own : Nat → Prop) (w : World) (p : Nat) (M : List (List UInt8)) : Prop :=
  ∃ (v : Value) (vs : List Value), own p ∧ (∀ g, v.ownBlock = some g → own g) ∧ Blk w p 59 #[v] ∧ w.ownsRow 0 47 1 v M.length vs ∧ Els own w vs M
theorem RefT.ext {own own' : Nat → Prop} {w w' : World} {p : Nat} {M : List (List UInt8)} (h : RefT own w p M) (hb : Ext own' w w') (hd : ∀ b, own b → ¬ own' b) : RefT own w' p M := by
  obtain ⟨v, vs, h1, h3, h4, h6, h7⟩ := h
  exact ⟨v, vs, h1, h3, h4.ext hb (hd _ h1), row_ext h6 hb (fun g hg => hd _ (h3 g hg)), h7.ext hb (fun g _ hg _ => hd g hg)⟩
theorem RefT.later {own : Nat → Prop} {w w' : World} {p : Nat} {M : List (List UInt8)} (h : RefT own w p M) (hb : B w w') : RefT own w' p M := h.ext (Ext.of_B (own := fun _ => False) hb) (fun _ _ => id)
theorem RefT.mono {own own' : Nat → Prop} {w : World} {p : Nat} {M : List (List UInt8)} (h : RefT own w p M) (hs : ∀ b, own b → own' b) : RefT own' w p M := by
  obtain ⟨v, vs, h1, h3, h4, h6, h7⟩ := h
  exact ⟨v, vs, hs _ h1, fun g hg => hs _ (h3 g hg), h4, h6, h7.mono hs⟩
theorem RefT.bound {own : Nat → Prop} {w : World} {p : Nat} {M : List (List UInt8)} (h : RefT own w p M) : RefT (fun x => own x ∧ x < w.heap.size) w p M := by
  obtain ⟨v, vs, h1, h3, h4, h6, h7⟩ := h
  exact ⟨v, vs, ⟨h1, h4.lt⟩, fun g hg => ⟨h3 g hg, row_lt h6 hg⟩, h4, h6, h7.1, fun i v b hv hm => let ⟨r1, r2, r3⟩ := h7.2 i v b hv hm; ⟨r1, r2, fun g hg => ⟨r3 g hg, row_lt r1 hg⟩⟩⟩
theorem RefT.new (w : World) : RefT (fun b => b = w.heap.size) (w.alloc (.cells #[.slice none 0 0] 59)) w.heap.size [] :=
  ⟨_, [], rfl, fun g hg => by simp [Value.ownBlock] at hg, Blk.new w _ _, ownNil _ _ _ _, Els.nil _ _⟩
theorem RefT.lss {own : Nat → Prop} {w : World} {p : Nat} {M : List (List UInt8)} (h : RefT own w p M) : ∃ v, w.cell? ⟨p, 0, none⟩ = some v ∧ Lss own w v M := by
  obtain ⟨v, vs, h1, h3, h4, h6, h7⟩ := h
  exact ⟨v, by rw [h4.cell]; rfl, Lss.of_own h6 h7 h3⟩

set_option maxHeartbeats 1000000 in
theorem rlook67 {own : Nat → Prop} {w : World} {p : Nat} {M : List (List UInt8)} (h : RefT own w p M) (hlen : M.length ≤ 9223372036854775806) {v : Value} {b : List UInt8} (hb : Bs w v b) :
    Calls Try.prog 67 #[.pointer (some ⟨p, 0, none⟩), v] w fun e w' => e = .returned (.tuple #[.int .i64 (lkN M b), .bool (lkB M b)]) ∧ w = w' := by
  obtain ⟨u, c0, hL⟩ := h.lss
  obtain ⟨A, cap, rfl, hn, hc, hm, hr⟩ := hL
  have HR := Lib.hid hr
  clear hr hn hc hm h
  go_enter Try.func67, Try.ntmps67
  go_wp2_with fail
  go_loop [6] (fun i => ∃ q : Nat, q ≤ M.length ∧ i = .int .i64 q ∧ b ∉ M.take q) (fun i => M.length - (intOf i).toNat)
  case atStart => exact ⟨0, Nat.zero_le _, rfl, by simp⟩
  case round =>
    obtain ⟨q, hq, rfl, hno⟩ := hrel
    have HN := Lib.hid hno
    clear hno
    by_cases hlt : q < M.length
    · obtain ⟨b', off, rfl, hb', _, hx⟩ := HR.out (by omega)
      obtain ⟨u, k1, k2, _⟩ := hx q _ (List.getElem?_eq_getElem hlt)
      have hqi : (q : Int) < M.length := by omega
      have HG := Lib.hid (List.getElem?_eq_getElem hlt)
      generalize M[q] = x at *
      clear hx
      go_wp2_with fail
      refine (same112 k2 hb).mono ?_
      rintro e wn ⟨rfl, rfl⟩
      by_cases e : x = b
      · have e1 : (x == b) = true := by simpa using e
        have E := Lib.hid (look_at (i := 0) HN.out (by rw [HG.out, e]))
        have E1 := Lib.hid (show ((q : Int) + 1) = lkN M b by unfold lkN; rw [E.out]; simp)
        have E2 := Lib.hid (show true = lkB M b by unfold lkB; rw [E.out]; rfl)
        simp only [e1]
        clear e
        go_wp2_with fail
        go_ret2
        exact ⟨by rw [← E1.out, ← E2.out]; rfl, rfl⟩
      · have e1 : (x == b) = false := by simpa using e
        have E := Lib.hid (show b ∉ M.take (q + 1) by rw [List.take_add_one, HG.out]; simp only [Option.toList, List.mem_append, List.mem_singleton, not_or]; exact ⟨HN.out, fun h => e h.symm⟩)
        simp only [e1]
        clear e
        go_wp2_with fail
        go_round
        case rel => exact ⟨q + 1, by omega, by go_num, E.out⟩
        case measure => simp [intOf]; omega
    · have hqi : ¬ (q : Int) < M.length := by omega
      have E := Lib.hid (look_none (i := 0).2 (show b ∉ M by have := HN.out; rwa [List.take_of_length_le (by omega)] at this))
      have E1 := Lib.hid (show (0 : Int) = lkN M b by unfold lkN; rw [E.out]; rfl)
      have E2 := Lib.hid (show false = lkB M b by unfold lkB; rw [E.out]; rfl)
      go_wp2_with fail
      go_ret2
      exact ⟨by rw [← E1.out, ← E2.out]; rfl, rfl⟩

def RSumPost (own : Nat → Prop) (w : World) (p : Nat) (M : List (List UInt8)) (b : List UInt8) (e : Ending) (w' : World) : Prop :=
  e = .returned (.int .i64 (sumN M b)) ∧ RefT (fun x => own x ∨ w.heap.size ≤ x) w' p (sumM M b) ∧ Ext own w w'
theorem lkB_iff {M : List (List UInt8)} {b : List UInt8} : lkB M b = decide (b ∈ M) := by
  unfold lkB
  cases h : look b M 0 with
  | none => rw [decide_eq_false (look_none.1 h)]; rfl
  | some d =>
    by_cases hm : b ∈ M
    · rw [decide_eq_true hm]; rfl
    · rw [look_none.2 hm] at h; cases h
set_option maxRecDepth 20000 in
set_option maxHeartbeats 1000000 in
theorem rsum53 {own : Nat → Prop} {w : World} {p : Nat} {M : List (List UInt8)} (h : RefT own w p M) (hlen : M.length ≤ 9223372036854775806) {v : Value} {b : List UInt8} (hb : Bs w v b) :
    Calls Try.prog 53 #[.pointer (some ⟨p, 0, none⟩), v] w (RSumPost own w p M b) := by
  have HL := Lib.hid (rlook67 h hlen hb)
  obtain ⟨u, vs, h1, h3, h4, h6, h7⟩ := id h
  obtain ⟨A, cap, rfl⟩ := own_slice h6
  have c0 := h4.cell 0
  simp at c0
  by_cases hm : b ∈ M
  · have E := Lib.hid (show RSumPost own w p M b (.returned (.int .i64 (lkN M b))) w from ⟨by simp [sumN, hm], by simp only [sumM, if_pos hm]; exact h.mono (fun _ => .inl), Ext.refl _ _⟩)
    have e1 : lkB M b = true := by rw [lkB_iff]; simpa using hm
    clear h h3 h4 h6 h7 hm hb
    go_enter Try.func53, Try.ntmps53
    go_wp2_with (first | (go_at_call 67; refine HL.out.mono ?_; rintro e wn ⟨rfl, rfl⟩; simp only [e1]))
    go_ret
    exact E.out
  · have e1 : lkB M b = false := by rw [lkB_iff]; simpa using hm
    by_cases hn : 1048576 ≤ M.length
    · have E := Lib.hid (show RSumPost own w p M b (.returned (.int .i64 0)) w from ⟨by simp [sumN, hm, hn], by simp only [sumM, if_neg hm, if_pos hn]; exact h.mono (fun _ => .inl), Ext.refl _ _⟩)
      have hd : decide ((1048576 : Int) ≤ (M.length : Int)) = true := decide_eq_true (by omega)
      clear h h3 h4 h6 h7 hm hb hn
      go_enter Try.func53, Try.ntmps53
      go_wp2_with (first | (go_at_call 67; refine HL.out.mono ?_; rintro e wn ⟨rfl, rfl⟩; simp only [e1]))
      go_ret
      exact E.out
    · have hd : decide ((1048576 : Int) ≤ (M.length : Int)) = false := decide_eq_false (by omega)
      have E1 := Lib.hid (show ((M.length + 1 : Nat) : Int) = sumN M b by unfold sumN; rw [if_neg hm, if_neg hn])
      have E2 := Lib.hid (show M ++ [b] = sumM M b by unfold sumM; rw [if_neg hm, if_neg hn])
      have HN := Lib.hid (show M.length < 1048576 by omega)
      have hbl := Lib.hid hb.len
      have g1 : 0 + M.length ≤ maxLen := by unfold maxLen; omega
      have g2 : (0 + M.length) * 24 ≤ 140737488355328 := by omega
      have g3 : 0 + b.length ≤ maxLen := by have := hb.len; unfold big at this; unfold maxLen; omega
      have g4 : (0 + b.length) * 1 ≤ 140737488355328 := by have := hb.len; unfold big at this; omega
      have g5 : M.length + 1 ≤ maxLen := by unfold maxLen; omega
      have g6 : (M.length + 1) * 24 ≤ 140737488355328 := by omega
      have nn : ∀ g, some g ≠ (Value.slice none 0 0).ownBlock := fun g => by simp [Value.ownBlock]
      have glt := fun g => row_lt h6 (g := g)
      have plt := h4.lt
      have ho1 := h7.one
      clear hm hn h
      go_enter Try.func53, Try.ntmps53
      go_wp2_with (first
        | (go_at_call 67; refine HL.out.mono ?_; rintro e wn ⟨rfl, rfl⟩; simp only [e1])
        | (refine wpList_append_Rd (v := .slice none 0 0) rfl (.const (.slice none 0 0)) (.tmp 25) 46 rfl Try.underlying46 info47 rfl Nat.zero_lt_one rfl rfl (ownNil _ 0 47 1) (Rd.of_own h6) ho1 g1 g2 (Nat.zero_le _) ?_; intro A1 c1 w1 r1 x1 y1; simp only [Nat.zero_add, List.nil_append] at r1 y1; have hB1 : B w w1 := B.grown (Below.refl _ _) x1 (fun k hk => by simp [Value.ownBlock] at hk))
        | (refine wpList_append_Rd (v := .slice none 0 0) rfl (.const (.slice none 0 0)) (.tmp 27) 47 rfl Try.underlying47 info5 rfl Nat.zero_lt_one rfl rfl (ownNil _ 0 5 1) (hb.later hB1).rd (cellsB_one b) g3 g4 (Nat.zero_le _) ?_; intro A2 c2 w2 r2 x2 y2; simp only [Nat.zero_add, List.nil_append] at r2 y2; have hB2 : B w1 w2 := B.grown (Below.refl _ _) x2 (fun k hk => by simp [Value.ownBlock] at hk))
        | (refine wpList_append_Rd (v := .slice A1 M.length c1) rfl (.tmp 26) (.tmp 29) 46 rfl Try.underlying46 info47 rfl Nat.zero_lt_one rfl rfl (row_later (row_later r1 hB2) (B.alloc' _ _)) (Rd.one _ _ _) (by simp [Value.oneCell']) g5 g6 (Nat.zero_le _) ?_; intro A3 c3 w3 r3 x3 y3; have kP := ((h4.later (hB1.trans hB2)).alloc (.cells #[.slice A2 b.length c2] 47)).grown x3 (fun e => row_ne (row_later r1 hB2) (h4.later (hB1.trans hB2)) (by decide) e.symm); have p0 := kP.cell 0; have pf := kP.frozen 0; simp at p0))
      have hBa : B w (w2.alloc (.cells #[.slice A2 b.length c2] 47)) := (hB1.trans hB2).trans (B.alloc' _ _)
      have q1 := row_later (row_later r1 hB2) (B.alloc' w2 (.cells #[.slice A2 b.length c2] 47))
      have q2 := row_later r2 (B.alloc' w2 (.cells #[.slice A2 b.length c2] 47))
      have g1' : ∀ g, (Value.slice A1 M.length c1).ownBlock = some g → w.heap.size ≤ g := fun g hg => by
        rcases y1 with e | e
        · rw [e] at hg; simp [Value.ownBlock] at hg
        · rw [e] at hg; simp at hg; omega
      have s1 := hB1.size
      have s2 := hB2.size
      have g2' : ∀ g, (Value.slice A2 b.length c2).ownBlock = some g → w.heap.size ≤ g := fun g hg => by
        rcases y2 with e | e
        · rw [e] at hg; simp [Value.ownBlock] at hg
        · rw [e] at hg; simp at hg; omega
      have g3' : ∀ g, (Value.slice A3 (M.length + 1) c3).ownBlock = some g → w.heap.size ≤ g := fun g hg => by
        rcases y3 with e | e
        · rw [e] at hg; exact g1' g hg
        · rw [e] at hg; simp at hg; omega
      have hgx : Ext (fun g => some g = (Value.slice A1 M.length c1).ownBlock) (w2.alloc (.cells #[.slice A2 b.length c2] 47)) w3 := (Ext.refl _ _).grown x3 (fun g e _ => e.symm)
      have hsx : Ext (fun g => g = p) w3 (w3.setCell ⟨p, 0, none⟩ (.slice A3 (M.length + 1) c3)) := (Ext.refl (fun g => g = p) w3).set (p := ⟨p, 0, none⟩) (fun _ => rfl) _
      have f4 := kP.set_ 0 (.slice A3 (M.length + 1) c3)
      have f6 := row_ext r3 hsx (fun g hg e => row_ne r3 kP (by decide) (by rw [hg, e]))
      have f7 := ((h7.later hBa).ext hgx (fun g cs _ hB' e => row_ne q1 hB' (by decide) e.symm)).ext hsx (fun g cs _ hB' e => by subst e; exact Blk.ne hB' kP (by decide) rfl)
      have q3 := row_ext q2 hgx (fun g hg e => row_row q1 q2 (by decide) e.symm hg)
      have f8 := row_ext q3 hsx (fun g hg e => row_ne q3 kP (by decide) (by rw [hg, e]))
      have hx : Ext own w (w3.setCell ⟨p, 0, none⟩ (.slice A3 (M.length + 1) c3)) := ((Ext.of_B hBa).grown x3 (fun g e hlt => by have := g1' g e; omega)).set (p := ⟨p, 0, none⟩) (fun _ => h1) _
      clear c0 p0 pf
      go_wp2
      go_ret
      refine ⟨retI E1.out, ?_, hx⟩
      rw [← E2.out]
      exact ⟨.slice A3 (M.length + 1) c3, vs ++ [.slice A2 b.length c2], .inl h1, fun g hg => .inr (g3' g hg), by simpa using f4, by simpa using f6, (f7.mono (fun _ => .inl)).snoc f8 hb.len (fun g hg => .inr (g2' g hg))⟩
end Go.Proofs.Ythgpkbhilkdckaa
