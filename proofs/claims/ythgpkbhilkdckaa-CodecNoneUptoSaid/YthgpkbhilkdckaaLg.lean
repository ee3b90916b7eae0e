/- Clone of the ledger; the reference's ledger. -/
import Derived.Test.YthgpkbhilkdckaaLf
namespace Go.Proofs.Ythgpkbhilkdckaa
open Go.RowKit
set_option linter.unusedVariables false

def sgnOK (s : List (Int × Int)) : Prop := (∀ x ∈ s, sgnE x.1 x.2 = 0) ∧ s.Nodup
theorem sgnOK.nil : sgnOK [] := ⟨fun x h => (by cases h), List.nodup_nil⟩
theorem sgnOK.step {s : List (Int × Int)} (h : sgnOK s) (a b : Int) : sgnOK (sgnS a b s) := by
  unfold sgnS
  split
  · rename_i hE
    unfold ins
    split
    · exact h
    · rename_i hm
      refine ⟨fun x hx => ?_, ?_⟩
      · rcases List.mem_append.1 hx with hx | hx
        · exact h.1 x hx
        · simp at hx; subst hx; exact hE
      · rw [List.nodup_append]
        refine ⟨h.2, by simp, fun x hx y hy => ?_⟩
        simp at hy; subst hy
        exact fun e => hm (e ▸ hx)
  · exact h
theorem sgnOK.take {s : List (Int × Int)} (h : sgnOK s) (q : Nat) (x : Int × Int) (hx : s[q]? = some x) : sgnS x.1 x.2 (s.take q) = s.take (q + 1) := by
  have hm : x ∈ s := List.mem_of_getElem? hx
  have hq : q < s.length := by
    rcases Nat.lt_or_ge q s.length with h | h
    · exact h
    · rw [List.getElem?_eq_none h] at hx; cases hx
  have hno : x ∉ s.take q := by
    intro hin
    obtain ⟨j, hj, e⟩ := List.mem_take_iff_getElem.1 hin
    have hjq : j < q := by omega
    have e2 : s[q] = x := by rw [List.getElem?_eq_getElem hq] at hx; exact Option.some.inj hx
    exact (List.pairwise_iff_getElem.1 h.2 j q (by omega) hq hjq) (by rw [e, e2])
  unfold sgnS ins
  rw [if_pos (h.1 x hm), if_neg hno, List.take_add_one, hx]
  rfl

def LClonePost (w : World) (s : List (Int × Int)) (e : Ending) (w' : World) : Prop := ∃ (p : Nat) (own : Nat → Prop), e = .returned (.pointer (some ⟨p, 0, none⟩)) ∧ LedgerAt own w' p s ∧ (∀ x, own x → w.heap.size ≤ x ∧ x < w'.heap.size) ∧ B w w'
set_option maxHeartbeats 1000000 in
theorem lclone55 {own : Nat → Prop} {w : World} {p : Nat} {s : List (Int × Int)} (h : LedgerAt own w p s) (hok : sgnOK s) (hroom : (s.length + 1) * 16 ≤ 140737488355328) : Calls Try.prog 55 #[.pointer (some ⟨p, 0, none⟩)] w (LClonePost w s) := by
  obtain ⟨A, cap, c0, hr, _⟩ := Ledger.row h
  have HS := Lib.hid (Ss.of_own hr)
  clear hr
  go_enter Try.func55, Try.ntmps55
  go_wp2_with (first | (go_at_call 109; refine (none109 h).mono ?_; rintro e wn ⟨rfl, rfl⟩) | (go_at_call 23; refine (newLedger23 _).mono ?_; rintro e w1 ⟨rfl, hw1⟩; have hl := LedgerAt.new w; rw [← hw1] at hl; have hB1 : B w w1 := (by rw [hw1]; exact (B.alloc' _ _).trans (B.alloc' _ _)); have z1 : w1.heap.size = w.heap.size + 2 := (by rw [hw1]; simp); clear hw1; have Z1 := Lib.hid z1; clear z1; have c0 := hB1.cell c0))
  generalize hp' : w.heap.size + 1 = p' at *
  have hpp := Lib.hid hp'
  clear hp'
  go_loopw [14] (fun i wr => ∃ (q : Nat) (own' : Nat → Prop), q ≤ s.length ∧ i = .int .i64 q ∧ LedgerAt own' wr p' (s.take q) ∧ (∀ x, own' x → w.heap.size ≤ x ∧ x < wr.heap.size) ∧ B w wr) (fun i _ => s.length - (intOf i).toNat)
  case atStart => exact ⟨0, _, Nat.zero_le _, rfl, by simpa using hl.bound, fun x hx => by have := hpp.out; omega, hB1⟩
  case round =>
    clear hl hB1
    obtain ⟨q, own', hq, rfl, hl, ho, hB⟩ := hrel
    by_cases hlt : q < s.length
    · obtain ⟨A', c', e, hr⟩ := HS.out
      obtain ⟨b, off, rfl, hb, hc⟩ := hr (by omega)
      injection e with e1 e2 e3
      subst e1 e3
      clear e2
      obtain ⟨k1, k2⟩ := hc q _ (List.getElem?_eq_getElem hlt)
      have k1 := hB.cell k1
      have k2 := hB.cell k2
      have HT := Lib.hid (hok.take q _ (List.getElem?_eq_getElem hlt))
      have hqi : (q : Int) < s.length := by omega
      generalize (s[q]).1 = a at *
      generalize (s[q]).2 = d at *
      clear hc hr
      have hlx := hl.later (B.alloc' wr (.cells #[.int .i64 a, .int .i64 d] 25))
      go_wp2_with fail
      refine (sign25 hlx a d (by simp; omega)).mono ?_
      rintro e w3 ⟨rfl, hl3, hx3⟩
      rw [HT.out] at hl3
      have hB3 : B w w3 := (hB.trans (B.alloc' wr (.cells #[.int .i64 a, .int .i64 d] 25))).trans' hx3 (fun x hx e => by have := ho _ e; omega)
      have hl3 := hl3.bound
      have HO := Lib.hid (fun x (hx : (own' x ∨ (wr.alloc (.cells #[.int .i64 a, .int .i64 d] 25)).heap.size ≤ x) ∧ x < w3.heap.size) => (show w.heap.size ≤ x ∧ x < w3.heap.size by
        have := hB.size
        simp at hx
        rcases hx.1 with h | h
        · have := ho _ h; omega
        · omega))
      clear hlx hl hx3 k1 k2 hB ho
      go_wp2_with fail
      go_roundw
      case rel => exact ⟨q + 1, _, by omega, by go_num, hl3, HO.out, hB3⟩
      case measure => simp [intOf]; omega
    · have hqi : ¬ (q : Int) < s.length := by omega
      have hqq := Lib.hid (show q = s.length by omega)
      go_wp2_with fail
      go_ret
      refine ⟨p', own', rfl, ?_, ho, hB⟩
      rw [hqq.out, List.take_length] at hl
      exact hl

theorem no_snoc {l : List (Int × Int)} {y x : Int × Int} (h : y ∉ l) (hne : y ≠ x) : y ∉ l ++ [x] := by simp [h, hne]
/-- the reference's ledger -/
def RefL (own : Nat → Prop) (w : World) (p : Nat) (s : List (Int × Int)) : Prop :=
  ∃ (v : Value), own p ∧ (∀ g, v.ownBlock = some g → own g) ∧ Blk w p 63 #[v] ∧ w.ownsRow 0 25 2 v s.length (flat s)
theorem RefL.ext {own own' : Nat → Prop} {w w' : World} {p : Nat} {s : List (Int × Int)} (h : RefL own w p s) (hb : Ext own' w w') (hd : ∀ b, own b → ¬ own' b) : RefL own w' p s := by
  obtain ⟨v, h1, h3, h4, h6⟩ := h
  exact ⟨v, h1, h3, h4.ext hb (hd _ h1), row_ext h6 hb (fun g hg => hd g (h3 g hg))⟩
theorem RefL.later {own : Nat → Prop} {w w' : World} {p : Nat} {s : List (Int × Int)} (h : RefL own w p s) (hb : B w w') : RefL own w' p s := h.ext (Ext.of_B (own := fun _ => False) hb) (fun _ _ => id)
theorem RefL.mono {own own' : Nat → Prop} {w : World} {p : Nat} {s : List (Int × Int)} (h : RefL own w p s) (hs : ∀ b, own b → own' b) : RefL own' w p s := by
  obtain ⟨v, h1, h3, r⟩ := h
  exact ⟨v, hs _ h1, fun g hg => hs _ (h3 g hg), r⟩
theorem RefL.bound {own : Nat → Prop} {w : World} {p : Nat} {s : List (Int × Int)} (h : RefL own w p s) : RefL (fun x => own x ∧ x < w.heap.size) w p s := by
  obtain ⟨v, h1, h3, h4, h6⟩ := h
  exact ⟨v, ⟨h1, h4.lt⟩, fun g hg => ⟨h3 g hg, row_lt h6 hg⟩, h4, h6⟩
theorem RefL.new (w : World) : RefL (fun b => b = w.heap.size) (w.alloc (.cells #[.slice none 0 0] 63)) w.heap.size [] :=
  ⟨_, rfl, fun g hg => by simp [Value.ownBlock] at hg, Blk.new w _ _, ownNil _ _ _ _⟩

set_option maxHeartbeats 1000000 in
theorem rsigned57 {own : Nat → Prop} {w : World} {p : Nat} {s : List (Int × Int)} (h : RefL own w p s) (hlen : s.length ≤ 9223372036854775806) (a b : Int) : Calls Try.prog 57 #[.pointer (some ⟨p, 0, none⟩), .agg #[.int .i64 a, .int .i64 b]] w fun e w' => e = .returned (.bool (decide ((a, b) ∈ s))) ∧ B w w' := by
  obtain ⟨v, _, _, h4, h6⟩ := h
  obtain ⟨A, cap, rfl⟩ := own_slice h6
  have c0 := h4.cell 0
  simp at c0
  have HS := Lib.hid (Ss.of_own h6)
  clear h4 h6
  go_enter Try.func57, Try.ntmps57
  go_wp2_with fail
  have hB0 : B w (w.alloc (.cells #[.int .i64 a, .int .i64 b] 25)) := B.alloc' _ _
  have o0 : Own2 (w.alloc (.cells #[.int .i64 a, .int .i64 b] 25)) w.heap.size (.int .i64 a) (.int .i64 b) := Own2.mk
  generalize w.alloc (.cells #[.int .i64 a, .int .i64 b] 25) = w0 at *
  generalize w.heap.size = b0 at *
  go_loopw [5] (fun i wr => ∃ q : Nat, q ≤ s.length ∧ i = .int .i64 q ∧ (a, b) ∉ s.take q ∧ Own2 wr b0 (.int .i64 a) (.int .i64 b) ∧ B w wr) (fun i _ => s.length - (intOf i).toNat)
  case atStart => exact ⟨0, Nat.zero_le _, rfl, by simp, o0, hB0⟩
  case round =>
    clear o0 hB0
    obtain ⟨q, hq, rfl, hno, o0, hB⟩ := hrel
    have c1 := hB.cell c0
    obtain ⟨d1, d2, d3, d4, d5⟩ := id o0
    have HN := Lib.hid hno
    clear hno
    by_cases hlt : q < s.length
    · obtain ⟨A', c', e, hr⟩ := HS.out
      obtain ⟨b', off, rfl, hb, hc⟩ := hr (by omega)
      injection e with e1 e2 e3
      subst e1 e3
      clear e2
      obtain ⟨k1, k2⟩ := hc q _ (List.getElem?_eq_getElem hlt)
      have k1 := hB.cell k1
      have k2 := hB.cell k2
      have HG := Lib.hid (List.getElem?_eq_getElem hlt)
      have hqi : (q : Int) < s.length := by omega
      generalize s[q] = x at *
      clear hc hr
      have HM := Lib.hid (show x ∈ s from List.mem_of_getElem? HG.out)
      have HT := Lib.hid (show s.take (q + 1) = s.take q ++ [x] by rw [List.take_add_one, HG.out]; rfl)
      by_cases e1 : x.1 = a
      · by_cases e2 : x.2 = b
        · have E := Lib.hid (show decide ((a, b) ∈ s) = true from decide_eq_true (by have := HM.out; rw [← e1, ← e2]; exact this))
          have g1 : (x.1 == a) = true := by simpa using e1
          have g2 : (x.2 == b) = true := by simpa using e2
          clear e1 e2
          go_wp2_with fail
          go_region
          go_wp2_with fail
          go_ret
          exact ⟨retB E.out.symm, hB.trans (Below.refl _ _).drew⟩
        · have E := Lib.hid (show (a, b) ∉ s.take (q + 1) by rw [HT.out]; exact no_snoc HN.out (fun e => e2 (by rw [← e])))
          have g1 : (x.1 == a) = true := by simpa using e1
          have g2 : (x.2 == b) = false := by simpa using e2
          clear e1 e2
          go_wp2_with fail
          go_region
          go_wp2_with fail
          go_roundw
          case rel => exact ⟨q + 1, by omega, by go_num, E.out, o0.later (Below.refl _ _).drew, hB.trans (Below.refl _ _).drew⟩
          case measure => simp [intOf]; omega
      · have E := Lib.hid (show (a, b) ∉ s.take (q + 1) by rw [HT.out]; exact no_snoc HN.out (fun e => e1 (by rw [← e])))
        have g1 : (x.1 == a) = false := by simpa using e1
        clear e1
        go_wp2_with fail
        go_region
        go_wp2_with fail
        go_roundw
        case rel => exact ⟨q + 1, by omega, by go_num, E.out, o0.later (Below.refl _ _).drew, hB.trans (Below.refl _ _).drew⟩
        case measure => simp [intOf]; omega
    · have hqi : ¬ (q : Int) < s.length := by omega
      have E := Lib.hid (show decide ((a, b) ∈ s) = false from decide_eq_false (by have := HN.out; rwa [List.take_of_length_le (by omega)] at this))
      go_wp2_with fail
      go_ret
      exact ⟨retB E.out.symm, hB⟩
end Go.Proofs.Ythgpkbhilkdckaa
