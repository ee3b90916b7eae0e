/- Lemmas and contracts, part 2. -/
import Derived.Test.YthgpkbhilkdckaaZm1
import Derived.Test.YthgpkbhilkdckaaRows
import Derived.JoinedCond
/- The rest of the ledger's methods, and the reference's ledger. -/
namespace Go.Proofs.Ythgpkbhilkdckaa
open Go.RowKit
set_option linter.unusedVariables false

theorem flat_one (s : List (Int × Int)) : ∀ x ∈ flat s, x.oneCell' = true := by
  induction s with
  | nil => intro x h; cases h
  | cons y r ih =>
    intro x h
    simp only [flat, List.mem_cons] at h
    rcases h with rfl | rfl | h
    · rfl
    · rfl
    · exact ih x h
theorem flat_get (s : List (Int × Int)) (i : Nat) (x : Int × Int) (h : s[i]? = some x) : (flat s)[i * 2]? = some (.int .i64 x.1) ∧ (flat s)[i * 2 + 1]? = some (.int .i64 x.2) := by
  induction s generalizing i with
  | nil => simp at h
  | cons y r ih =>
    cases i with
    | zero => simp at h; subst h; exact ⟨rfl, rfl⟩
    | succ i =>
      have := ih i (by simpa using h)
      rw [show (i + 1) * 2 = i * 2 + 1 + 1 by omega]
      simpa [flat] using this
/-- a row of pairs reads as pairs -/
theorem Ss.of_own {w : World} {base : Nat} {e : TypeId} {v : Value} {s : List (Int × Int)} (h : w.ownsRow base e 2 v s.length (flat s)) : Ss w v s := by
  rcases h.2 with ⟨rfl, h0⟩ | ⟨g, cap, cur, rfl, hg, hh, hc, hm, hs, ht⟩
  · exact ⟨none, 0, by rw [h0], fun hn => by omega⟩
  · refine ⟨_, cap, rfl, fun hn => ⟨g, 0, rfl, Blk.lt (t := e) hh, fun i x hx => ?_⟩⟩
    have hi : i < s.length := by
      rcases Nat.lt_or_ge i s.length with h | h
      · exact h
      · rw [List.getElem?_eq_none h] at hx; cases hx
    obtain ⟨f1, f2⟩ := flat_get s i x hx
    rw [← ht] at f1 f2
    rw [Nat.zero_add, Blk.cell (t := e) hh, Blk.cell (t := e) hh]
    rw [List.getElem?_take, if_pos (by omega)] at f1 f2
    simp at f1 f2
    exact ⟨f1, f2⟩

def SClonePost (w : World) (n : Nat) (xs : List Value) (e : Ending) (w' : World) : Prop := ∃ v', e = .returned v' ∧ w'.ownsRow w.heap.size 25 2 v' n xs ∧ B w w'
set_option maxHeartbeats 400000 in
theorem sclone114 {w : World} {v : Value} {n : Nat} {xs : List Value} (h : Rd w v n 2 xs) (h1 : ∀ x ∈ xs, x.oneCell' = true) (hroom : n * 16 ≤ 140737488355328) : Calls Try.prog 114 #[v] w (SClonePost w n xs) := by
  obtain ⟨hl, A, cap, rfl, hn, hc, hr⟩ := id h
  cases A with
  | none =>
    obtain ⟨rfl, rfl⟩ := hn rfl
    have hx : xs = [] := List.eq_nil_of_length_eq_zero (by simpa using hl)
    subst hx
    have q : ∀ w, (binOp .eql 22 (.slice none 0 0) (.slice none 0 0)).run Try.prog w = .ok (.bool true) w := fun w => by kernel_rfl
    have E := Lib.hid (show SClonePost w 0 [] (.returned (.slice none 0 0)) w from ⟨_, rfl, ownNil w _ _ _, Below.refl _ _⟩)
    clear h hr hn hc hl h1
    go_enter Try.func114, Try.ntmps114
    go_wp2
    go_ret
    exact E.out
  | some ad =>
    have q : ∀ w, (binOp .eql 22 (.slice (some ad) n cap) (.slice none 0 0)).run Try.prog w = .ok (.bool false) w := fun w => by kernel_rfl
    have hb : B w (w.alloc (.cells #[] 25)) := B.alloc' _ _
    obtain ⟨v', w', hrun, h2, h3, h4⟩ := append_Rd (P := Try.prog) (t := 22) (ty := 22) Try.underlying22 info25 rfl (by omega) (ownEmpty w 25 2) (h.later hb) h1 (by unfold maxLen; omega) (by omega) (by simp)
    have E := Lib.hid (show SClonePost w n xs (.returned v') w' from ⟨_, rfl, by simpa using h2, hb.grown h3 (fun k hk => by simp [Value.ownBlock] at hk; omega)⟩)
    clear h h2 h3 h4 hb hr hn hc hl h1
    go_enter Try.func114, Try.ntmps114
    go_wp2_with (at_builtin; refine wpList_append_run rfl (.tmp 5) (.tmp 6) 22 rfl rfl rfl hrun ?_)
    go_ret
    exact E.out

theorem Ledger.row {own : Nat → Prop} {w : World} {p : Nat} {s : List (Int × Int)} (h : LedgerAt own w p s) : ∃ A cap, w.cell? ⟨p, 0, none⟩ = some (.slice A s.length cap) ∧ w.ownsRow 0 25 2 (.slice A s.length cap) s.length (flat s) ∧ ∀ g, (Value.slice A s.length cap).ownBlock = some g → own g := by
  obtain ⟨m, v, h1, h2, h3, h4, h5, h6⟩ := h
  obtain ⟨A, c, rfl⟩ := own_slice h6
  exact ⟨A, c, by rw [h4.cell]; rfl, h6, h3⟩
set_option maxHeartbeats 400000 in
theorem signs59 {own : Nat → Prop} {w : World} {p : Nat} {s : List (Int × Int)} (h : LedgerAt own w p s) (hroom : s.length * 16 ≤ 140737488355328) : Calls Try.prog 59 #[.pointer (some ⟨p, 0, none⟩)] w (SClonePost w s.length (flat s)) := by
  obtain ⟨A, cap, c0, hr, _⟩ := Ledger.row h
  have hc := Lib.hid (sclone114 (Rd.of_own hr) (flat_one s) hroom)
  clear hr
  go_enter Try.func59, Try.ntmps59
  go_wp2_with (first | (go_at_call 109; refine (none109 h).mono ?_; rintro e wn ⟨rfl, rfl⟩) | (go_at_call 114; refine hc.out.mono ?_; rintro e wn ⟨v', rfl, ho, hb⟩))
  go_ret
  exact ⟨_, rfl, ho, hb⟩
set_option maxHeartbeats 400000 in
theorem llen60 {own : Nat → Prop} {w : World} {p : Nat} {s : List (Int × Int)} (h : LedgerAt own w p s) : Calls Try.prog 60 #[.pointer (some ⟨p, 0, none⟩)] w fun e w' => e = .returned (.int .i64 (s.length : Int)) ∧ w = w' := by
  obtain ⟨A, cap, c0, hr, _⟩ := Ledger.row h
  clear hr
  go_enter Try.func60, Try.ntmps60
  go_wp2_with (first | (go_at_call 109; refine (none109 h).mono ?_; rintro e wn ⟨rfl, rfl⟩))
  go_ret
  exact ⟨rfl, rfl⟩

set_option maxHeartbeats 1000000 in
theorem equal58 {w : World} {v u : Value} {s t : List (Int × Int)} (h : Ss w v s) (k : Ss w u t) (hs : s.length ≤ 9223372036854775807) : Calls Try.prog 58 #[v, u] w fun e w' => e = .returned (.bool (decide (s = t))) ∧ B w w' := by
  obtain ⟨A, c, rfl, hr⟩ := h
  obtain ⟨A', c', rfl, hr'⟩ := k
  have HR := Lib.hid hr
  have HR' := Lib.hid hr'
  clear hr hr'
  by_cases hl : s.length = t.length
  · have q1 : ((s.length : Int) != (t.length : Int)) = false := by simp; omega
    rw [← hl]
    have HL := Lib.hid hl
    clear hl
    go_enter Try.func58, Try.ntmps58
    go_wp2_with fail
    go_loopw [13] (fun i wr => ∃ q : Nat, q ≤ s.length ∧ i = .int .i64 q ∧ (∀ j, j < q → s[j]? = t[j]?) ∧ B w wr) (fun i _ => s.length - (intOf i).toNat)
    case atStart => exact ⟨0, Nat.zero_le _, rfl, fun j h => by omega, Below.refl _ _⟩
    case round =>
      obtain ⟨q, hq, rfl, hp, hB⟩ := hrel
      have HP := Lib.hid hp
      clear hp
      by_cases hlt : q < s.length
      · obtain ⟨b, off, rfl, hb, hc⟩ := HR.out (by omega)
        obtain ⟨b', off', rfl, hb', hc'⟩ := HR'.out (by have := HL.out; omega)
        have hq' : q < t.length := by have := HL.out; omega
        obtain ⟨k1, k2⟩ := hc q _ (List.getElem?_eq_getElem hlt)
        obtain ⟨k3, k4⟩ := hc' q _ (List.getElem?_eq_getElem hq')
        have k1 := hB.cell k1
        have k2 := hB.cell k2
        have k3 := hB.cell k3
        have k4 := hB.cell k4
        have HS := Lib.hid (List.getElem?_eq_getElem hlt)
        have HT := Lib.hid (List.getElem?_eq_getElem hq')
        have hqi : (q : Int) < s.length := by omega
        generalize s[q] = x at *
        generalize t[q] = y at *
        clear hc hc' hq'
        by_cases e1 : x.1 = y.1
        · by_cases e2 : x.2 = y.2
          · have E := Lib.hid (show x = y from Prod.ext e1 e2)
            have g1 : (x.1 == y.1) = true := by simpa using e1
            have g2 : (x.2 == y.2) = true := by simpa using e2
            have g3 : (x.1 != y.1) = false := by simpa using e1
            have g4 : (x.2 != y.2) = false := by simpa using e2
            clear e1 e2
            go_wp2_with fail
            go_region
            go_wp2_with fail
            go_roundw
            case rel => exact ⟨q + 1, by omega, by go_num, fun j hj => by
              by_cases e : j = q
              · rw [e, HS.out, HT.out, E.out]
              · exact HP.out j (by omega), hB.trans (Below.refl _ _).drew⟩
            case measure => simp [intOf]; omega
          · have E := Lib.hid (show decide (s = t) = false from decide_eq_false (fun e => e2 (by have h1 := HS.out; rw [e, HT.out] at h1; injection h1 with h1; rw [h1])))
            have g1 : (x.1 == y.1) = true := by simpa using e1
            have g2 : (x.2 == y.2) = false := by simpa using e2
            clear e1 e2
            go_wp2_with fail
            go_region
            go_wp2_with fail
            go_ret
            exact ⟨retB E.out.symm, hB.trans (Below.refl _ _).drew⟩
        · have E := Lib.hid (show decide (s = t) = false from decide_eq_false (fun e => e1 (by have h1 := HS.out; rw [e, HT.out] at h1; injection h1 with h1; rw [h1])))
          have g1 : (x.1 == y.1) = false := by simpa using e1
          clear e1
          go_wp2_with fail
          go_region
          go_wp2_with fail
          go_ret
          exact ⟨retB E.out.symm, hB.trans (Below.refl _ _).drew⟩
      · have E := Lib.hid (show decide (s = t) = true from decide_eq_true (List.ext_getElem? fun j => by
          by_cases hj : j < q
          · exact HP.out j hj
          · rw [List.getElem?_eq_none (by omega), List.getElem?_eq_none (by have := HL.out; omega)]))
        have hqi : ¬ (q : Int) < s.length := by omega
        go_wp2_with fail
        go_ret
        exact ⟨retB E.out.symm, hB⟩
  · have q1 : ((s.length : Int) != (t.length : Int)) = true := by simp; omega
    have E := Lib.hid (show decide (s = t) = false from decide_eq_false (fun e => hl (by rw [e])))
    clear hl
    go_enter Try.func58, Try.ntmps58
    go_wp2
    go_ret
    exact ⟨retB E.out.symm, Below.refl _ _⟩
end Go.Proofs.Ythgpkbhilkdckaa

/- Clone of the ledger; the reference's ledger. -/
namespace Go.Proofs.Ythgpkbhilkdckaa
open Go.RowKit
set_option linter.unusedVariables false

def sgnOK (s : List (Int × Int)) : Prop := (∀ x ∈ s, sgnE x.1 x.2 = 0) ∧ s.Nodup
theorem sgnOK.nil : sgnOK [] := ⟨fun x h => (by cases h), List.nodup_nil⟩
theorem sgnOK.step {s : List (Int × Int)} (h : sgnOK s) (a b : Int) : sgnOK (sgnS a b s) := by
  unfold sgnS
  split
  · rename_i hE
    unfold ins
    split
    · exact h
    · rename_i hm
      refine ⟨fun x hx => ?_, ?_⟩
      · rcases List.mem_append.1 hx with hx | hx
        · exact h.1 x hx
        · simp at hx; subst hx; exact hE
      · rw [List.nodup_append]
        refine ⟨h.2, by simp, fun x hx y hy => ?_⟩
        simp at hy; subst hy
        exact fun e => hm (e ▸ hx)
  · exact h
theorem sgnOK.take {s : List (Int × Int)} (h : sgnOK s) (q : Nat) (x : Int × Int) (hx : s[q]? = some x) : sgnS x.1 x.2 (s.take q) = s.take (q + 1) := by
  have hm : x ∈ s := List.mem_of_getElem? hx
  have hq : q < s.length := by
    rcases Nat.lt_or_ge q s.length with h | h
    · exact h
    · rw [List.getElem?_eq_none h] at hx; cases hx
  have hno : x ∉ s.take q := by
    intro hin
    obtain ⟨j, hj, e⟩ := List.mem_take_iff_getElem.1 hin
    have hjq : j < q := by omega
    have e2 : s[q] = x := by rw [List.getElem?_eq_getElem hq] at hx; exact Option.some.inj hx
    exact (List.pairwise_iff_getElem.1 h.2 j q (by omega) hq hjq) (by rw [e, e2])
  unfold sgnS ins
  rw [if_pos (h.1 x hm), if_neg hno, List.take_add_one, hx]
  rfl

def LClonePost (w : World) (s : List (Int × Int)) (e : Ending) (w' : World) : Prop := ∃ (p : Nat) (own : Nat → Prop), e = .returned (.pointer (some ⟨p, 0, none⟩)) ∧ LedgerAt own w' p s ∧ (∀ x, own x → w.heap.size ≤ x ∧ x < w'.heap.size) ∧ B w w'
set_option maxHeartbeats 1000000 in
theorem lclone55 {own : Nat → Prop} {w : World} {p : Nat} {s : List (Int × Int)} (h : LedgerAt own w p s) (hok : sgnOK s) (hroom : (s.length + 1) * 16 ≤ 140737488355328) : Calls Try.prog 55 #[.pointer (some ⟨p, 0, none⟩)] w (LClonePost w s) := by
  obtain ⟨A, cap, c0, hr, _⟩ := Ledger.row h
  have HS := Lib.hid (Ss.of_own hr)
  clear hr
  go_enter Try.func55, Try.ntmps55
  go_wp2_with (first | (go_at_call 109; refine (none109 h).mono ?_; rintro e wn ⟨rfl, rfl⟩) | (go_at_call 23; refine (newLedger23 _).mono ?_; rintro e w1 ⟨rfl, hw1⟩; have hl := LedgerAt.new w; rw [← hw1] at hl; have hB1 : B w w1 := (by rw [hw1]; exact (B.alloc' _ _).trans (B.alloc' _ _)); have z1 : w1.heap.size = w.heap.size + 2 := (by rw [hw1]; simp); clear hw1; have Z1 := Lib.hid z1; clear z1; have c0 := hB1.cell c0))
  generalize hp' : w.heap.size + 1 = p' at *
  have hpp := Lib.hid hp'
  clear hp'
  go_loopw [14] (fun i wr => ∃ (q : Nat) (own' : Nat → Prop), q ≤ s.length ∧ i = .int .i64 q ∧ LedgerAt own' wr p' (s.take q) ∧ (∀ x, own' x → w.heap.size ≤ x ∧ x < wr.heap.size) ∧ B w wr) (fun i _ => s.length - (intOf i).toNat)
  case atStart => exact ⟨0, _, Nat.zero_le _, rfl, by simpa using hl.bound, fun x hx => by have := hpp.out; omega, hB1⟩
  case round =>
    clear hl hB1
    obtain ⟨q, own', hq, rfl, hl, ho, hB⟩ := hrel
    by_cases hlt : q < s.length
    · obtain ⟨A', c', e, hr⟩ := HS.out
      obtain ⟨b, off, rfl, hb, hc⟩ := hr (by omega)
      injection e with e1 e2 e3
      subst e1 e3
      clear e2
      obtain ⟨k1, k2⟩ := hc q _ (List.getElem?_eq_getElem hlt)
      have k1 := hB.cell k1
      have k2 := hB.cell k2
      have HT := Lib.hid (hok.take q _ (List.getElem?_eq_getElem hlt))
      have hqi : (q : Int) < s.length := by omega
      generalize (s[q]).1 = a at *
      generalize (s[q]).2 = d at *
      clear hc hr
      have hlx := hl.later (B.alloc' wr (.cells #[.int .i64 a, .int .i64 d] 25))
      go_wp2_with fail
      refine (sign25 hlx a d (by simp; omega)).mono ?_
      rintro e w3 ⟨rfl, hl3, hx3⟩
      rw [HT.out] at hl3
      have hB3 : B w w3 := (hB.trans (B.alloc' wr (.cells #[.int .i64 a, .int .i64 d] 25))).trans' hx3 (fun x hx e => by have := ho _ e; omega)
      have hl3 := hl3.bound
      have HO := Lib.hid (fun x (hx : (own' x ∨ (wr.alloc (.cells #[.int .i64 a, .int .i64 d] 25)).heap.size ≤ x) ∧ x < w3.heap.size) => (show w.heap.size ≤ x ∧ x < w3.heap.size by
        have := hB.size
        simp at hx
        rcases hx.1 with h | h
        · have := ho _ h; omega
        · omega))
      clear hlx hl hx3 k1 k2 hB ho
      go_wp2_with fail
      go_roundw
      case rel => exact ⟨q + 1, _, by omega, by go_num, hl3, HO.out, hB3⟩
      case measure => simp [intOf]; omega
    · have hqi : ¬ (q : Int) < s.length := by omega
      have hqq := Lib.hid (show q = s.length by omega)
      go_wp2_with fail
      go_ret
      refine ⟨p', own', rfl, ?_, ho, hB⟩
      rw [hqq.out, List.take_length] at hl
      exact hl

theorem no_snoc {l : List (Int × Int)} {y x : Int × Int} (h : y ∉ l) (hne : y ≠ x) : y ∉ l ++ [x] := by simp [h, hne]
/-- the reference's ledger -/
def RefL (own : Nat → Prop) (w : World) (p : Nat) (s : List (Int × Int)) : Prop :=
  ∃ (v : Value), own p ∧ (∀ g, v.ownBlock = some g → own g) ∧ Blk w p 63 #[v] ∧ w.ownsRow 0 25 2 v s.length (flat s)
theorem RefL.ext {own own' : Nat → Prop} {w w' : World} {p : Nat} {s : List (Int × Int)} (h : RefL own w p s) (hb : Ext own' w w') (hd : ∀ b, own b → ¬ own' b) : RefL own w' p s := by
  obtain ⟨v, h1, h3, h4, h6⟩ := h
  exact ⟨v, h1, h3, h4.ext hb (hd _ h1), row_ext h6 hb (fun g hg => hd g (h3 g hg))⟩
theorem RefL.later {own : Nat → Prop} {w w' : World} {p : Nat} {s : List (Int × Int)} (h : RefL own w p s) (hb : B w w') : RefL own w' p s := h.ext (Ext.of_B (own := fun _ => False) hb) (fun _ _ => id)
theorem RefL.mono {own own' : Nat → Prop} {w : World} {p : Nat} {s : List (Int × Int)} (h : RefL own w p s) (hs : ∀ b, own b → own' b) : RefL own' w p s := by
  obtain ⟨v, h1, h3, r⟩ := h
  exact ⟨v, hs _ h1, fun g hg => hs _ (h3 g hg), r⟩
theorem RefL.bound {own : Nat → Prop} {w : World} {p : Nat} {s : List (Int × Int)} (h : RefL own w p s) : RefL (fun x => own x ∧ x < w.heap.size) w p s := by
  obtain ⟨v, h1, h3, h4, h6⟩ := h
  exact ⟨v, ⟨h1, h4.lt⟩, fun g hg => ⟨h3 g hg, row_lt h6 hg⟩, h4, h6⟩
theorem RefL.new (w : World) : RefL (fun b => b = w.heap.size) (w.alloc (.cells #[.slice none 0 0] 63)) w.heap.size [] :=
  ⟨_, rfl, fun g hg => by simp [Value.ownBlock] at hg, Blk.new w _ _, ownNil _ _ _ _⟩

set_option maxHeartbeats 1000000 in
theorem rsigned57 {own : Nat → Prop} {w : World} {p : Nat} {s : List (Int × Int)} (h : RefL own w p s) (hlen : s.length ≤ 9223372036854775806) (a b : Int) : Calls Try.prog 57 #[.pointer (some ⟨p, 0, none⟩), .agg #[.int .i64 a, .int .i64 b]] w fun e w' => e = .returned (.bool (decide ((a, b) ∈ s))) ∧ B w w' := by
  obtain ⟨v, _, _, h4, h6⟩ := h
  obtain ⟨A, cap, rfl⟩ := own_slice h6
  have c0 := h4.cell 0
  simp at c0
  have HS := Lib.hid (Ss.of_own h6)
  clear h4 h6
  go_enter Try.func57, Try.ntmps57
  go_wp2_with fail
  have hB0 : B w (w.alloc (.cells #[.int .i64 a, .int .i64 b] 25)) := B.alloc' _ _
  have o0 : Own2 (w.alloc (.cells #[.int .i64 a, .int .i64 b] 25)) w.heap.size (.int .i64 a) (.int .i64 b) := Own2.mk
  generalize w.alloc (.cells #[.int .i64 a, .int .i64 b] 25) = w0 at *
  generalize w.heap.size = b0 at *
  go_loopw [5] (fun i wr => ∃ q : Nat, q ≤ s.length ∧ i = .int .i64 q ∧ (a, b) ∉ s.take q ∧ Own2 wr b0 (.int .i64 a) (.int .i64 b) ∧ B w wr) (fun i _ => s.length - (intOf i).toNat)
  case atStart => exact ⟨0, Nat.zero_le _, rfl, by simp, o0, hB0⟩
  case round =>
    clear o0 hB0
    obtain ⟨q, hq, rfl, hno, o0, hB⟩ := hrel
    have c1 := hB.cell c0
    obtain ⟨d1, d2, d3, d4, d5⟩ := id o0
    have HN := Lib.hid hno
    clear hno
    by_cases hlt : q < s.length
    · obtain ⟨A', c', e, hr⟩ := HS.out
      obtain ⟨b', off, rfl, hb, hc⟩ := hr (by omega)
      injection e with e1 e2 e3
      subst e1 e3
      clear e2
      obtain ⟨k1, k2⟩ := hc q _ (List.getElem?_eq_getElem hlt)
      have k1 := hB.cell k1
      have k2 := hB.cell k2
      have HG := Lib.hid (List.getElem?_eq_getElem hlt)
      have hqi : (q : Int) < s.length := by omega
      generalize s[q] = x at *
      clear hc hr
      have HM := Lib.hid (show x ∈ s from List.mem_of_getElem? HG.out)
      have HT := Lib.hid (show s.take (q + 1) = s.take q ++ [x] by rw [List.take_add_one, HG.out]; rfl)
      by_cases e1 : x.1 = a
      · by_cases e2 : x.2 = b
        · have E := Lib.hid (show decide ((a, b) ∈ s) = true from decide_eq_true (by have := HM.out; rw [← e1, ← e2]; exact this))
          have g1 : (x.1 == a) = true := by simpa using e1
          have g2 : (x.2 == b) = true := by simpa using e2
          clear e1 e2
          go_wp2_with fail
          go_region
          go_wp2_with fail
          go_ret
          exact ⟨retB E.out.symm, hB.trans (Below.refl _ _).drew⟩
        · have E := Lib.hid (show (a, b) ∉ s.take (q + 1) by rw [HT.out]; exact no_snoc HN.out (fun e => e2 (by rw [← e])))
          have g1 : (x.1 == a) = true := by simpa using e1
          have g2 : (x.2 == b) = false := by simpa using e2
          clear e1 e2
          go_wp2_with fail
          go_region
          go_wp2_with fail
          go_roundw
          case rel => exact ⟨q + 1, by omega, by go_num, E.out, o0.later (Below.refl _ _).drew, hB.trans (Below.refl _ _).drew⟩
          case measure => simp [intOf]; omega
      · have E := Lib.hid (show (a, b) ∉ s.take (q + 1) by rw [HT.out]; exact no_snoc HN.out (fun e => e1 (by rw [← e])))
        have g1 : (x.1 == a) = false := by simpa using e1
        clear e1
        go_wp2_with fail
        go_region
        go_wp2_with fail
        go_roundw
        case rel => exact ⟨q + 1, by omega, by go_num, E.out, o0.later (Below.refl _ _).drew, hB.trans (Below.refl _ _).drew⟩
        case measure => simp [intOf]; omega
    · have hqi : ¬ (q : Int) < s.length := by omega
      have E := Lib.hid (show decide ((a, b) ∈ s) = false from decide_eq_false (by have := HN.out; rwa [List.take_of_length_le (by omega)] at this))
      go_wp2_with fail
      go_ret
      exact ⟨retB E.out.symm, hB⟩
end Go.Proofs.Ythgpkbhilkdckaa

/- A table and a ledger that no call made: what their methods return. Plain with its rows told. -/
namespace Go.Proofs.Ythgpkbhilkdckaa
open Go.RowKit
set_option linter.unusedVariables false

/-- nil, or a struct that no call made -/
def NoOne (T : TypeId) (w : World) (v : Value) : Prop := v = .pointer none ∨ ∃ p, v = .pointer (some ⟨p, 0, none⟩) ∧ Blk w p T #[.slice none 0 0, .map none]
theorem NoOne.later {T : TypeId} {w w' : World} {v : Value} (h : NoOne T w v) (hb : B w w') : NoOne T w' v := by
  rcases h with h | ⟨p, h, hk⟩
  · exact .inl h
  · exact .inr ⟨p, h, hk.later hb⟩

theorem tnone113n {w : World} {v : Value} (h : NoOne 105 w v) : Calls Try.prog 113 #[v] w fun e w' => e = .returned (.bool true) ∧ w = w' := by
  rcases h with rfl | ⟨p, rfl, hk⟩
  · go_enter Try.func113, Try.ntmps113
    go_wp2
    go_ret
    exact ⟨rfl, rfl⟩
  · have c1 := hk.cell 1
    simp at c1
    have q1 : ∀ w, (binOp .eql 103 (.map none) (.map none)).run Try.prog w = .ok (.bool true) w := fun w => by kernel_rfl
    clear hk
    go_enter Try.func113, Try.ntmps113
    go_wp2
    go_ret
    exact ⟨rfl, rfl⟩

theorem lnone109n {w : World} {v : Value} (h : NoOne 109 w v) : Calls Try.prog 109 #[v] w fun e w' => e = .returned (.bool true) ∧ w = w' := by
  rcases h with rfl | ⟨p, rfl, hk⟩
  · go_enter Try.func109, Try.ntmps109
    go_wp2
    go_ret
    exact ⟨rfl, rfl⟩
  · have c1 := hk.cell 1
    simp at c1
    have q1 : ∀ w, (binOp .eql 107 (.map none) (.map none)).run Try.prog w = .ok (.bool true) w := fun w => by kernel_rfl
    clear hk
    go_enter Try.func109, Try.ntmps109
    go_wp2
    go_ret
    exact ⟨rfl, rfl⟩

theorem look66n {w : World} {v : Value} (h : NoOne 105 w v) (x : Value) : Calls Try.prog 66 #[v, x] w fun e w' => e = .returned (.tuple #[.int .i64 0, .bool false]) ∧ B w w' := by
  have H := Lib.hid h
  clear h
  go_enter Try.func66, Try.ntmps66
  go_wp2_with (first | (go_at_call 113; refine (tnone113n H.out).mono ?_; rintro e wn ⟨rfl, rfl⟩))
  go_ret2
  exact ⟨rfl, Below.refl _ _⟩

theorem open64n {w : World} {v : Value} (h : NoOne 105 w v) (d : Int) : Calls Try.prog 64 #[v, .int .i64 d] w fun e w' => e = .returned (.tuple #[.slice none 0 0, .bool false]) ∧ B w w' := by
  have H := Lib.hid h
  clear h
  go_enter Try.func64, Try.ntmps64
  go_wp2_with (first | (go_at_call 113; refine (tnone113n H.out).mono ?_; rintro e wn ⟨rfl, rfl⟩))
  go_ret2
  exact ⟨rfl, Below.refl _ _⟩

theorem sum52n {w : World} {v : Value} (h : NoOne 105 w v) (x : Value) : Calls Try.prog 52 #[v, x] w fun e w' => e = .returned (.int .i64 0) ∧ B w w' := by
  have H := Lib.hid h
  clear h
  go_enter Try.func52, Try.ntmps52
  go_wp2_with (first | (go_at_call 113; refine (tnone113n H.out).mono ?_; rintro e wn ⟨rfl, rfl⟩))
  go_ret
  exact ⟨rfl, Below.refl _ _⟩

theorem len54n {w : World} {v : Value} (h : NoOne 105 w v)  : Calls Try.prog 54 #[v] w fun e w' => e = .returned (.int .i64 0) ∧ B w w' := by
  have H := Lib.hid h
  clear h
  go_enter Try.func54, Try.ntmps54
  go_wp2_with (first | (go_at_call 113; refine (tnone113n H.out).mono ?_; rintro e wn ⟨rfl, rfl⟩))
  go_ret
  exact ⟨rfl, Below.refl _ _⟩

theorem plain51n {w : World} {v : Value} (h : NoOne 105 w v)  : Calls Try.prog 51 #[v] w fun e w' => e = .returned (.slice none 0 0) ∧ B w w' := by
  have H := Lib.hid h
  clear h
  go_enter Try.func51, Try.ntmps51
  go_wp2_with (first | (go_at_call 113; refine (tnone113n H.out).mono ?_; rintro e wn ⟨rfl, rfl⟩))
  go_ret
  exact ⟨rfl, Below.refl _ _⟩

theorem tclone62n {w : World} {v : Value} (h : NoOne 105 w v)  : Calls Try.prog 62 #[v] w fun e w' => e = .returned (.pointer none) ∧ B w w' := by
  have H := Lib.hid h
  clear h
  go_enter Try.func62, Try.ntmps62
  go_wp2_with (first | (go_at_call 113; refine (tnone113n H.out).mono ?_; rintro e wn ⟨rfl, rfl⟩))
  go_ret
  exact ⟨rfl, Below.refl _ _⟩

theorem signs59n {w : World} {v : Value} (h : NoOne 109 w v)  : Calls Try.prog 59 #[v] w fun e w' => e = .returned (.slice none 0 0) ∧ B w w' := by
  have H := Lib.hid h
  clear h
  go_enter Try.func59, Try.ntmps59
  go_wp2_with (first | (go_at_call 109; refine (lnone109n H.out).mono ?_; rintro e wn ⟨rfl, rfl⟩))
  go_ret
  exact ⟨rfl, Below.refl _ _⟩

theorem llen60n {w : World} {v : Value} (h : NoOne 109 w v)  : Calls Try.prog 60 #[v] w fun e w' => e = .returned (.int .i64 0) ∧ B w w' := by
  have H := Lib.hid h
  clear h
  go_enter Try.func60, Try.ntmps60
  go_wp2_with (first | (go_at_call 109; refine (lnone109n H.out).mono ?_; rintro e wn ⟨rfl, rfl⟩))
  go_ret
  exact ⟨rfl, Below.refl _ _⟩

theorem lclone55n {w : World} {v : Value} (h : NoOne 109 w v)  : Calls Try.prog 55 #[v] w fun e w' => e = .returned (.pointer none) ∧ B w w' := by
  have H := Lib.hid h
  clear h
  go_enter Try.func55, Try.ntmps55
  go_wp2_with (first | (go_at_call 109; refine (lnone109n H.out).mono ?_; rintro e wn ⟨rfl, rfl⟩))
  go_ret
  exact ⟨rfl, Below.refl _ _⟩

theorem sign25n {w : World} {v : Value} (h : NoOne 109 w v) (k d : Int) : Calls Try.prog 25 #[v, .int .i64 k, .int .i64 d] w fun e w' => e = .returned (.tuple #[.agg #[.int .i64 0, .int .i64 0], .int .i64 2]) ∧ B w w' := by
  have H := Lib.hid (h.later (B.alloc' w (.cells #[.int .i64 0, .int .i64 0] 25)))
  clear h
  go_enter Try.func25, Try.ntmps25
  go_wp2_with (first | (go_at_call 109; refine (lnone109n H.out).mono ?_; rintro e wn ⟨rfl, rfl⟩))
  exact bodyPost_ret (v := .tuple #[.agg #[.int .i64 0, .int .i64 0], .int .i64 2]) (by simp [results, Try.results25, go_sem]) rfl ⟨rfl, by first | exact B.alloc' _ _ | exact (B.alloc' _ _).setCell (by simp) _ | exact ((B.alloc' _ _).setCell (by simp) _).setCell (by simp) _⟩
theorem signed26n {w : World} {v : Value} (h : NoOne 109 w v) (k d : Int) : Calls Try.prog 26 #[v, .agg #[.int .i64 k, .int .i64 d]] w fun e w' => e = .returned (.bool false) ∧ B w w' := by
  have H := Lib.hid (fun w' (hb : B (w.alloc (.cells #[.int .i64 k, .int .i64 d] 25)) w') => lnone109n (h.later ((B.alloc' w (.cells #[.int .i64 k, .int .i64 d] 25)).trans hb)))
  clear h
  go_enter Try.func26, Try.ntmps26
  go_wp2_with fail
  go_quiet ((go_at_call 109; exact Calls.quiet_of_same ((H.out _ (B.drewN _ _)).mono fun _ _ ⟨a, b⟩ => ⟨a, b.symm⟩)))
  go_wp2
  go_ret
  exact ⟨rfl, (B.alloc' _ _).trans (B.drewN _ _)⟩

def PlainRows (w : World) (M : List (List UInt8)) (e : Ending) (w' : World) : Prop := ∃ v' vs, e = .returned v' ∧ w'.ownsRow w.heap.size 47 1 v' M.length vs ∧ Els (fun g => w.heap.size ≤ g) w' vs M ∧ B w w'
set_option maxRecDepth 20000 in
set_option maxHeartbeats 1000000 in
theorem plain51o {own : Nat → Prop} {w : World} {p : Nat} {M : List (List UInt8)} (h : TableAt own w p M) (hlen : M.length ≤ 1048576) : Calls Try.prog 51 #[.pointer (some ⟨p, 0, none⟩)] w (PlainRows w M) := by
  obtain ⟨u, c0, hL⟩ := h.lss
  obtain ⟨A, cap, rfl, hn, hc, hm, hr⟩ := hL
  have HR := Lib.hid hr
  have H := Lib.hid h
  have HL := Lib.hid hlen
  clear hr hn hc hm h hlen
  go_enter Try.func51, Try.ntmps51
  go_wp2_with (first | (go_at_call 113; refine (tnone113 H.out).mono ?_; rintro e wn ⟨rfl, rfl⟩))
  clear c0
  go_loopw [3, 14] (fun v i wr => ∃ (q : Nat) (vs : List Value), q ≤ M.length ∧ i = .int .i64 q ∧ wr.ownsRow w.heap.size 47 1 v q vs ∧ Els (fun g => w.heap.size ≤ g) wr vs (M.take q) ∧ B w wr) (fun _ i _ => M.length - (intOf i).toNat)
  case atStart => exact ⟨0, [], Nat.zero_le _, rfl, ownNil _ _ _ _, Els.nil _ _, Below.refl _ _⟩
  case round =>
    obtain ⟨q, vs, hq, rfl, ho, hE, hB⟩ := hrel
    by_cases hlt : q < M.length
    · obtain ⟨b, off, rfl, hb, _, hc⟩ := HR.out (by omega)
      obtain ⟨u1, k1, k2, _⟩ := hc q _ (List.getElem?_eq_getElem hlt)
      have k1 := hB.cell k1
      have k4 := k2.later hB
      have HS := Lib.hid (List.getElem?_eq_getElem hlt)
      have hqi : (q : Int) < M.length := by omega
      generalize M[q] = x at *
      have hMl : (M.take q).length = q := by simp; omega
      have E := Lib.hid (show M.take q ++ [x] = M.take (q + 1) by rw [List.take_add_one, HS.out]; rfl)
      have HM := Lib.hid hMl
      have g5 : q + 1 ≤ maxLen := by have := HL.out; unfold maxLen; omega
      have g6 : (q + 1) * 24 ≤ 140737488355328 := by have := HL.out; omega
      have ho2 : ∀ (A : Option Addr) (n c : Nat), ∀ x ∈ [Value.slice A n c], x.oneCell' = true := fun A n c => by simp [Value.oneCell']
      obtain ⟨A3, c3, rfl⟩ := own_slice ho
      have HO := Lib.hid ho
      have hBs := hB.size
      have hcl := Lib.hid (clone89 k4)
      have K4L := Lib.hid k4.len
      clear hc k2 hMl ho k4
      go_wp2_with (first
        | (go_at_call 89; refine hcl.out.mono ?_; rintro e w1 ⟨v1, rfl, r1, hb1⟩; obtain ⟨A1, c1, rfl⟩ := own_slice r1; have hb1s := hb1.size; have hq1 := row_later HO.out (hb1.trans (B.alloc' _ (.cells #[.slice A1 x.length c1] 47))))
        | (refine wpList_append_Rd (v := .slice A3 q c3) rfl (.tmp 18) (.tmp 21) 46 rfl Try.underlying46 info47 rfl Nat.zero_lt_one rfl rfl hq1 (Rd.one _ _ _) (ho2 _ _ _) g5 g6 (Nat.le_trans hBs (Nat.le_trans hb1s (B.alloc' _ _).size)) ?_; intro A4 c4 w4 r4 x4 y4))
      have hBa := hb1.trans (B.alloc' w1 (.cells #[.slice A1 x.length c1] 47))
      have hgx : Ext (fun g => some g = (Value.slice A3 q c3).ownBlock) (w1.alloc (.cells #[.slice A1 x.length c1] 47)) w4 := (Ext.refl _ _).grown x4 (fun g e _ => e.symm)
      have hB4 : B w w4 := B.grown (hB.trans hBa) x4 (fun k hk => row_ge HO.out hk)
      have f7 := (hE.later hBa).ext hgx (fun g cs _ hB' e => row_ne hq1 hB' (by decide) e.symm)
      have q2 := row_later r1 (B.alloc' w1 (.cells #[.slice A1 x.length c1] 47))
      have q3 := row_ext q2 hgx (fun g hg e => row_row hq1 q2 (by decide) e.symm hg)
      have f8 := f7.snoc (row_base q3 (Nat.zero_le _)) K4L.out (fun g hg => by have := row_ge q2 hg; omega)
      rw [E.out] at f8
      clear k1 hE hq1 q2 q3 f7 hgx x4 r1
      go_roundw
      case rel => exact ⟨q + 1, _, by omega, by go_num, r4, f8, hB4⟩
      case measure => simp [intOf]; omega
    · have hqi : ¬ (q : Int) < M.length := by omega
      have e1 : q = M.length := by omega
      subst e1
      rw [List.take_length] at hE
      go_wp2_with fail
      go_ret
      exact ⟨_, _, rfl, ho, hE, hB⟩

end Go.Proofs.Ythgpkbhilkdckaa

/- IdealNone: the walk. -/
namespace Go.Proofs.Ythgpkbhilkdckaa
open Go.RowKit
set_option linter.unusedVariables false

section
variable {W w : World} {L : List Asn}
theorem St.store {e : TypeId} {sz n g c : Nat} {xs : List Value} (h : St W w (aRow e sz (.slice (some ⟨g, 0, none⟩) n c) n xs :: L)) (j : Nat) (u : Value) : St W (w.setCell ⟨g, j, none⟩ u) L := by
  obtain ⟨own, hr, ho, hback⟩ := h.focus
  exact (hback _ (aRow e sz (.slice none 0 0) 0 []) ((Ext.refl own w).set (p := ⟨g, j, none⟩) (fun _ => hr.2 g rfl) u) ⟨ownNil _ _ _ _, fun g hg => by simp [Value.ownBlock] at hg⟩).drop
theorem St.row_form {e : TypeId} {sz n : Nat} {v : Value} {xs : List Value} (h : St W w (aRow e sz v n xs :: L)) (hn : 0 < n) (hs : 0 < sz) : ∃ g c, v = .slice (some ⟨g, 0, none⟩) n c ∧ (∀ j, j < n * sz → w.cell? ⟨g, j, none⟩ = xs[j]?) ∧ ∀ j, w.frozen? ⟨g, j, none⟩ = false := by
  obtain ⟨own, hr, ho⟩ := h.get
  obtain ⟨g, c, rfl, _, _⟩ := hr.1.form hn
  exact ⟨g, c, rfl, fun j hj => hr.1.cellAt j hj, fun j => hr.1.frozenAt j⟩
end
/-- the rows of Plain as an object -/
def aPl (v : Value) (M : List (List UInt8)) : Asn where
  at_ own w := ∃ vs, (w.ownsRow 0 47 1 v M.length vs ∧ ∀ g, v.ownBlock = some g → own g) ∧ Els own w vs M
  ext := fun ⟨vs, h1, h2⟩ hx hd => ⟨vs, ⟨row_ext h1.1 hx (fun g hg => hd g (h1.2 g hg)), h1.2⟩, h2.ext hx (fun g _ hg _ => hd g hg)⟩
  bound := fun ⟨vs, h1, h2⟩ => ⟨vs, ⟨h1.1, fun g hg => ⟨h1.2 g hg, row_lt h1.1 hg⟩⟩, h2.1, fun i v b hv hm => let ⟨r1, r2, r3⟩ := h2.2 i v b hv hm; ⟨r1, r2, fun g hg => ⟨r3 g hg, row_lt r1 hg⟩⟩⟩
theorem St.plain51o {W w : World} {p : Nat} {M : List (List UInt8)} {X : List Asn} (h : St W w (aTab p M :: X)) (hlen : M.length ≤ 1048576) :
    Calls Try.prog 51 #[.pointer (some ⟨p, 0, none⟩)] w fun e w' => ∃ v, e = .returned v ∧ St W w' (aPl v M :: aTab p M :: X) := by
  obtain ⟨own, ht, ho⟩ := h.get
  exact (Go.Proofs.Ythgpkbhilkdckaa.plain51o ht hlen).mono fun e w' ⟨v, vs, he, hr, hE, hb⟩ => ⟨v, he, h.add hb (A := aPl v M) (own := fun x => w.heap.size ≤ x) ⟨vs, ⟨row_base hr (Nat.zero_le _), fun g hg => row_ge hr hg⟩, hE⟩ (fun x e => e)⟩
theorem St.open64o {W w : World} {p : Nat} {M : List (List UInt8)} {X : List Asn} (h : St W w (aTab p M :: X)) (hlen : M.length ≤ 9223372036854775806) (d : Int) (hd : -9223372036854775808 ≤ d ∧ d ≤ 9223372036854775807) :
    Calls Try.prog 64 #[.pointer (some ⟨p, 0, none⟩), .int .i64 d] w fun e w' => ∃ v', e = .returned (.tuple #[v', .bool (opB M d)]) ∧ (opV M d).length ≤ big ∧ St W w' (aRow 5 1 v' (opV M d).length (cellsB (opV M d)) :: aTab p M :: X) := by
  obtain ⟨own, ht, ho⟩ := h.get
  exact (Go.Proofs.Ythgpkbhilkdckaa.open64 ht hlen d hd).mono fun e w' ⟨v', he, hr, hl, hb⟩ => ⟨v', he, hl, h.addRow hb hr⟩
theorem St.clone63 {W w : World} {v : Value} {b : List UInt8} {X : List Asn} (h : St W w X) (hb : Bs w v b) : Calls Try.prog 63 #[v] w fun e w' => ∃ v', e = .returned v' ∧ St W w' (aRow 5 1 v' b.length (cellsB b) :: X) :=
  (Go.Proofs.Ythgpkbhilkdckaa.clone63 hb).mono fun e w' ⟨v', he, hr, hb⟩ => ⟨v', he, h.addRow hb hr⟩

theorem St.sum52r {W w : World} {p : Nat} {M : List (List UInt8)} {X : List Asn} {v : Value} {x : List UInt8} {n : Nat} (h : St W w (aTab p M :: aRow 5 1 v n (cellsB x) :: X)) (hn : n = x.length) (hl : x.length ≤ big) :
    Calls Try.prog 52 #[.pointer (some ⟨p, 0, none⟩), v] w fun e w' => e = .returned (.int .i64 (sumN M x)) ∧ St W w' (aTab p (sumM M x) :: aRow 5 1 v n (cellsB x) :: X) := by
  subst hn
  obtain ⟨own, o', ht, hv, ho, hd, hback⟩ := h.focus2
  exact (Go.Proofs.Ythgpkbhilkdckaa.sum52 ht (Bs.of_own hv.1 hl) (fun g hg hne => hd g (hv.2 g hg))).mono fun e w' ⟨he, hT, hx⟩ => ⟨he, hback w' (aTab p _) hx hT⟩
theorem St.open64x {W w : World} {p : Nat} {x : List UInt8} {X : List Asn} (h : St W w (aTab p [x] :: X)) :
    Calls Try.prog 64 #[.pointer (some ⟨p, 0, none⟩), .int .i64 1] w fun e w' => ∃ v', e = .returned (.tuple #[v', .bool true]) ∧ St W w' (aRow 5 1 v' x.length (cellsB x) :: aTab p [x] :: X) := by
  have h1 : opB [x] 1 = true := by simp [opB]
  have h2 : opV [x] 1 = x := by simp [opV, h1]
  exact (St.open64o h (by simp) 1 (by omega)).mono fun e w' ⟨v', he, hl, hS⟩ => ⟨v', by rw [he, h1], by rw [h2] at hS; exact hS⟩
theorem St.rowBs {W w : World} {X : List Asn} {v : Value} {x : List UInt8} {n : Nat} (h : St W w (aRow 5 1 v n (cellsB x) :: X)) (hn : n = x.length) (hl : x.length ≤ big) : Bs w v x := by
  subst hn
  obtain ⟨own, hr, _⟩ := h.get
  exact Bs.of_own hr.1 hl
theorem St.rowSlice {W w : World} {X : List Asn} {e : TypeId} {sz n : Nat} {v : Value} {xs : List Value} (h : St W w (aRow e sz v n xs :: X)) : ∃ A c, v = .slice A n c := by
  obtain ⟨own, hr, _⟩ := h.get
  exact own_slice hr.1
theorem St.plForm {W w : World} {X : List Asn} {v : Value} {x : List UInt8} {y : Int} (h : St W w (aPl v [x] :: X)) (hy : (cellsB x)[0]? = some (.int .u8 y)) : ∃ g c g1 c1, v = .slice (some ⟨g, 0, none⟩) 1 c ∧ w.cell? ⟨g, 0, none⟩ = some (.slice (some ⟨g1, 0, none⟩) x.length c1) ∧
    w.cell? ⟨g1, 0, none⟩ = some (.int .u8 y) ∧ w.frozen? ⟨g1, 0, none⟩ = false ∧ ∀ u, St W (w.setCell ⟨g1, 0, none⟩ u) X := by
  have hx0 : 0 < x.length := by
    rcases Nat.eq_zero_or_pos x.length with e | e
    · rw [List.getElem?_eq_none (by rw [cellsB_len]; omega)] at hy; cases hy
    · exact e
  obtain ⟨own, ⟨vs, ⟨h1, h2⟩, h3⟩, ho, hback⟩ := h.focus
  obtain ⟨g, c, rfl, _, _⟩ := h1.form (by simp)
  have hl : vs.length = 1 := h3.1
  obtain ⟨v1, rfl⟩ : ∃ v1, vs = [v1] := by
    match vs, hl with
    | [v1], _ => exact ⟨v1, rfl⟩
  obtain ⟨r1, r2, r3⟩ := h3.2 0 v1 x rfl rfl
  obtain ⟨g1, c1, rfl, _, _⟩ := r1.form hx0
  refine ⟨g, c, g1, c1, rfl, by rw [h1.cellAt 0 (by simp)]; rfl, by rw [r1.cellAt 0 (by omega), hy], r1.frozenAt 0, fun u => ?_⟩
  exact (hback _ (aRow 5 1 (.slice none 0 0) 0 []) ((Ext.refl own w).set (p := ⟨g1, 0, none⟩) (fun _ => r3 g1 rfl) u) ⟨ownNil _ _ _ _, fun g hg => by simp [Value.ownBlock] at hg⟩).drop

set_option maxRecDepth 100000 in
set_option maxHeartbeats 4000000 in
theorem idealNone_walk {W : World} {u : Value} {b : List UInt8} (hb : Bs W u b) (hlen : b.length ≤ 140737488351232) (k d : Int) :
    Calls Try.prog 15 #[u, .agg #[.int .i64 k, .int .i64 d]] W fun e w' => e = .returned (.bool true) ∧ B W w' := by
  have HU := Lib.hid hb
  have HL := Lib.hid hlen
  have HO : ∀ w', B (W.alloc (.cells #[.int .i64 k, .int .i64 d] 25)) w' → Own2 w' W.heap.size (.int .i64 k) (.int .i64 d) := fun w' hb => Own2.mk.later hb
  have HO := Lib.hid HO
  clear hb hlen
  go_enter Try.func15, Try.ntmps15
  go_wp2_with (first
    | (go_at_call 24; refine (begun24 _).mono ?_; rintro e w1 ⟨rfl, hb1⟩))
  have hE1 : Blk ((w1.alloc (.cells #[.slice none 0 0, .map none] 105)).alloc (.cells #[.pointer none, .pointer (some ⟨w1.heap.size, 0, none⟩)] 48)) w1.heap.size 105 #[.slice none 0 0, .map none] := (Blk.new w1 _ _).alloc _
  have hE2 : Blk ((w1.alloc (.cells #[.slice none 0 0, .map none] 105)).alloc (.cells #[.pointer none, .pointer (some ⟨w1.heap.size, 0, none⟩)] 48)) (w1.heap.size + 1) 48 #[.pointer none, .pointer (some ⟨w1.heap.size, 0, none⟩)] := by simpa using Blk.new (w1.alloc (.cells #[.slice none 0 0, .map none] 105)) 48 #[.pointer none, .pointer (some ⟨w1.heap.size, 0, none⟩)]
  have hB2 : B (W.alloc (.cells #[.int .i64 k, .int .i64 d] 25)) ((w1.alloc (.cells #[.slice none 0 0, .map none] 105)).alloc (.cells #[.pointer none, .pointer (some ⟨w1.heap.size, 0, none⟩)] 48)) := (hb1.trans (B.alloc' _ _)).trans (B.alloc' _ _)
  clear hb1
  generalize (w1.alloc (.cells #[.slice none 0 0, .map none] 105)).alloc (.cells #[.pointer none, .pointer (some ⟨w1.heap.size, 0, none⟩)] 48) = w2 at *
  have HE := Lib.hid (show ∀ q : Nat, q < 2 → ∃ v, w2.cell? ⟨w1.heap.size + 1, q, none⟩ = some v ∧ NoOne 105 w2 v from fun q hq => by
    rcases q with _ | _ | q
    · exact ⟨_, by rw [hE2.cell]; rfl, .inl rfl⟩
    · exact ⟨_, by rw [hE2.cell]; rfl, .inr ⟨_, rfl, hE1⟩⟩
    · omega)
  clear hE1 hE2
  generalize w1.heap.size = g1 at *
  go_loopw [30] (fun i wr => ∃ q : Nat, q ≤ 2 ∧ i = .int .i64 q ∧ B w2 wr) (fun i _ => 2 - (intOf i).toNat)
  case atStart => exact ⟨0, by omega, rfl, Below.refl _ _⟩
  case round =>
    obtain ⟨q, hq, rfl, hB⟩ := hrel
    by_cases hlt : q < 2
    · obtain ⟨v, hc, hN⟩ := HE.out q hlt
      have HN := Lib.hid hN
      have hc := hB.cell hc
      have hqi : (q : Int) < 2 := by omega
      clear hN
      go_wp2_with (first
        | (go_at_call 66; refine (look66n (HN.out.later hB) _).mono ?_; rintro e w3 ⟨rfl, hb3⟩; have hB3 := hB.trans hb3; clear hb3)
        | (go_at_call 64; refine (open64n (HN.out.later hB3) _).mono ?_; rintro e w4 ⟨rfl, hb4⟩; have hB4 := hB3.trans hb4; clear hb4)
        | (go_at_call 52; refine (sum52n (HN.out.later hB4) _).mono ?_; rintro e w5 ⟨rfl, hb5⟩; have hB5 := hB4.trans hb5; clear hb5)
        | (go_at_call 54; refine (len54n (HN.out.later hB5)).mono ?_; rintro e w6 ⟨rfl, hb6⟩; have hB6 := hB5.trans hb6; clear hb6)
        | (go_at_call 51; refine (plain51n (HN.out.later hB6)).mono ?_; rintro e w7 ⟨rfl, hb7⟩; have hB7 := hB6.trans hb7; clear hb7)
        | (go_at_call 62; refine (tclone62n (HN.out.later hB7)).mono ?_; rintro e w8 ⟨rfl, hb8⟩; have hB8 := hB7.trans hb8; clear hb8))
      go_roundw
      case rel => exact ⟨q + 1, by omega, by go_num, hB8⟩
      case measure => simp [intOf]; omega
    · have hqi : ¬ (q : Int) < 2 := by omega
      go_wp2_with fail
      have hE1 : Blk ((wr.alloc (.cells #[.slice none 0 0, .map none] 109)).alloc (.cells #[.pointer none, .pointer (some ⟨wr.heap.size, 0, none⟩)] 26)) wr.heap.size 109 #[.slice none 0 0, .map none] := (Blk.new wr _ _).alloc _
      have hE2 : Blk ((wr.alloc (.cells #[.slice none 0 0, .map none] 109)).alloc (.cells #[.pointer none, .pointer (some ⟨wr.heap.size, 0, none⟩)] 26)) (wr.heap.size + 1) 26 #[.pointer none, .pointer (some ⟨wr.heap.size, 0, none⟩)] := by simpa using Blk.new (wr.alloc (.cells #[.slice none 0 0, .map none] 109)) 26 #[.pointer none, .pointer (some ⟨wr.heap.size, 0, none⟩)]
      have hB3 : B (W.alloc (.cells #[.int .i64 k, .int .i64 d] 25)) ((wr.alloc (.cells #[.slice none 0 0, .map none] 109)).alloc (.cells #[.pointer none, .pointer (some ⟨wr.heap.size, 0, none⟩)] 26)) := ((hB2.trans hB).trans (B.alloc' _ _)).trans (B.alloc' _ _)
      clear hB hB2 hqi hlt HE
      generalize (wr.alloc (.cells #[.slice none 0 0, .map none] 109)).alloc (.cells #[.pointer none, .pointer (some ⟨wr.heap.size, 0, none⟩)] 26) = w3 at *
      have HE := Lib.hid (show ∀ q : Nat, q < 2 → ∃ v, w3.cell? ⟨wr.heap.size + 1, q, none⟩ = some v ∧ NoOne 109 w3 v from fun q hq => by
        rcases q with _ | _ | q
        · exact ⟨_, by rw [hE2.cell]; rfl, .inl rfl⟩
        · exact ⟨_, by rw [hE2.cell]; rfl, .inr ⟨_, rfl, hE1⟩⟩
        · omega)
      clear hE1 hE2
      generalize wr.heap.size = g2 at *
      go_loopw [74] (fun i ws => ∃ q : Nat, q ≤ 2 ∧ i = .int .i64 q ∧ B w3 ws) (fun i _ => 2 - (intOf i).toNat)
      case atStart => exact ⟨0, by omega, rfl, Below.refl _ _⟩
      case round =>
        obtain ⟨q, hq, rfl, hB⟩ := hrel
        by_cases hlt : q < 2
        · obtain ⟨v, hc, hN⟩ := HE.out q hlt
          have HN := Lib.hid hN
          have hc := hB.cell hc
          have hqi : (q : Int) < 2 := by omega
          clear hN
          go_wp2_with (first
            | (go_at_call 25; refine (sign25n (HN.out.later hB) _ _).mono ?_; rintro e w4 ⟨rfl, hb4⟩; have hB4 := (hB.trans hb4).trans (B.alloc' _ (.cells #[.int .i64 0, .int .i64 0] 25)); have hk := HO.out _ (hB3.trans hB4); have hk1 := hk.1; have hk2 := hk.2.1; clear hb4 hk)
            | (go_at_call 26; refine (signed26n (HN.out.later hB4) _ _).mono ?_; rintro e w5 ⟨rfl, hb5⟩; have hB5 := hB4.trans hb5; clear hb5)
            | (go_at_call 60; refine (llen60n (HN.out.later hB5)).mono ?_; rintro e w6 ⟨rfl, hb6⟩; have hB6 := hB5.trans hb6; clear hb6)
            | (go_at_call 59; refine (signs59n (HN.out.later hB6)).mono ?_; rintro e w7 ⟨rfl, hb7⟩; have hB7 := hB6.trans hb7; clear hb7)
            | (go_at_call 55; refine (lclone55n (HN.out.later hB7)).mono ?_; rintro e w8 ⟨rfl, hb8⟩; have hB8 := hB7.trans hb8; clear hb8))
          go_roundw
          case rel => exact ⟨q + 1, by omega, by go_num, hB8⟩
          case measure => simp [intOf]; omega
        · have hqi : ¬ (q : Int) < 2 := by omega
          have HS := Lib.hid (show St W wr [] from ⟨((B.alloc' _ _).trans hB3).trans hB, trivial⟩)
          clear hB hB3 HE HO
          have g1' : b.length + 1 ≤ maxLen := by have := HL.out; unfold maxLen; omega
          have g2' : (b.length + 1) * 1 ≤ 140737488355328 := by have := HL.out; omega
          have o1 : ∀ y ∈ cellsB [7], y.oneCell' = true := cellsB_one _
          obtain ⟨x, y, GB, HXL, HAP, HY, hnl, hxi, n1, N2, eqx⟩ : ∃ (x : List UInt8) (y : Int), Hid (x.length ≤ big) ∧ Hid (b.length + 1 = x.length) ∧ Hid (cellsB b ++ cellsB [7] = cellsB x) ∧ Hid ((cellsB x)[0]? = some (.int .u8 y)) ∧ (0 : Int) < (b.length : Int) + 1 ∧ (0 : Int) < x.length ∧ sumN [] x = 1 ∧ Hid (sumM [] x = [x]) ∧ (x == x) = true := by
            have hl := HL.out
            have hb7 : (b ++ [(7 : UInt8)]).length = b.length + 1 := by simp
            obtain ⟨z, r, hz⟩ : ∃ z r, b ++ [(7 : UInt8)] = z :: r := by
              cases b with
              | nil => exact ⟨_, _, rfl⟩
              | cons y r => exact ⟨_, _, rfl⟩
            exact ⟨b ++ [7], z.toNat, by show (b ++ [7]).length ≤ big; unfold big; omega, by show b.length + 1 = _; omega, by show _ = _; rw [← cellsB_app], by rw [hz]; rfl, by omega, by omega, by simp [sumN], by show _ = _; simp [sumM], by simp⟩
          go_wp2_with (first
            | (go_at_call 61; refine (St.newTable61 HS.out).mono ?_; rintro e w4 ⟨p, rfl, hS⟩; have HS1 := Lib.hid hS; clear hS)
            | (go_at_call_of 63 u; refine (St.clone63 HS1.out (HU.out.later HS1.out.b)).mono ?_; rintro e w5 ⟨v5, rfl, hS⟩; obtain ⟨A5, c5, rfl⟩ := hS.rowSlice; have HS2 := Lib.hid (hS.later (B.alloc' _ (.cells #[.int .u8 7] 5))); clear hS)
            | (at_builtin; refine wpList_append_St rfl (.tmp 107) (.tmp 108) 47 rfl Try.underlying47 info5 rfl Nat.zero_lt_one rfl rfl HS2.out (show Rd _ _ 1 1 (cellsB [7]) from Rd.lit w5 #[.int .u8 7] 5 1 rfl) o1 g1' g2' ?_; intro A6 c6 w6 hS; rw [HAP.out] at hS; obtain ⟨g6, c6', e6, hcl, hfz⟩ := hS.row_form (by omega) (by omega); injection e6 with eA _ eC; subst eA; subst eC; have HS3 := Lib.hid hS.swap; clear hS hcl hfz)
            | (go_at_call 52; refine (St.sum52r HS3.out HXL.out GB.out).mono ?_; rintro e w7 ⟨rfl, hS⟩; rw [N2.out] at hS; have HS4 := Lib.hid hS.swap; simp only [n1]; clear hS))
          go_wp2_with (first
            | (go_at_call 63; with_reducible refine (St.clone63 HS4.out (HS4.out.rowBs HXL.out GB.out)).mono ?_; rintro e w8 ⟨v8, rfl, hS⟩; obtain ⟨A8, c8, rfl⟩ := hS.rowSlice; have hS := hS.swap; obtain ⟨g6', c6', e6, hcl, hfz⟩ := hS.row_form (by omega) (by omega); injection e6 with eA _ eC; injection eA with eA; injection eA with eA; subst eA; subst eC; have hcl0 := hcl 0 (by omega); rw [HY.out] at hcl0; have hfz0 := hfz 0; have HS5 := Lib.hid hS; clear hS hcl hfz)
            | (go_at_call 64; with_reducible refine (St.open64x (St.swap (St.store HS5.out 0 _))).mono ?_; rintro e w9 ⟨v9, rfl, hS⟩; have HS6 := Lib.hid hS; obtain ⟨g9, c9, e9, hcl, hfz⟩ := hS.row_form (by omega) (by omega); subst e9; have hcl1 := hcl 0 (by omega); rw [HY.out] at hcl1; have hfz1 := hfz 0; clear hS hcl hfz)
            | (go_at_call 68; with_reducible refine (equal68 (HS6.out.rowBs rfl GB.out) (HS6.out.swap.drop.swap.rowBs rfl GB.out)).mono ?_; rintro e w10 ⟨rfl, rfl⟩; simp only [eqx])
            | (go_at_call 51; with_reducible refine (St.plain51o (St.store HS6.out 0 _) (by simp)).mono ?_; rintro e w11 ⟨v11, rfl, hS⟩; have HS7 := Lib.hid hS; obtain ⟨g11, c11, g12, c12, rfl, _⟩ := hS.plForm HY.out; clear hS))
          go_loopw [142] (fun i ws => ∃ q : Nat, q ≤ 1 ∧ i = .int .i64 q ∧ (q = 0 → St W ws [aPl (.slice (some ⟨g11, 0, none⟩) 1 c11) [x], aTab p [x], aRow 5 1 (.slice A8 x.length c8) x.length (cellsB x)]) ∧ (q = 1 → St W ws [aTab p [x], aRow 5 1 (.slice A8 x.length c8) x.length (cellsB x)])) (fun i _ => 1 - (intOf i).toNat)
          case atStart => exact ⟨0, by omega, rfl, fun _ => HS7.out, fun h => by omega⟩
          case round =>
            obtain ⟨q3, hq3, rfl, hS0, hS1⟩ := hrel
            by_cases h3 : q3 = 0
            · subst h3
              have HS8 := Lib.hid (hS0 rfl)
              obtain ⟨g11', c11', g12', c12', e11, k1, k2, k3, k4⟩ := HS8.out.plForm HY.out
              injection e11 with eA _ eC
              injection eA with eA
              injection eA with eA
              subst eA
              have K4 := Lib.hid k4
              clear hS0 hS1 k4 HS7
              go_wp2_with fail
              go_roundw
              case rel => exact ⟨1, by omega, by go_num, fun h => by omega, fun _ => K4.out _⟩
              case measure => simp [intOf]
            · obtain rfl : q3 = 1 := by omega
              have HS8 := Lib.hid (hS1 rfl)
              clear hS0 hS1 HS7 h3
              go_wp2_with (first
                | (go_at_call 64; with_reducible refine (St.open64x HS8.out).mono ?_; rintro e w9 ⟨v9, rfl, hS⟩; have HS9 := Lib.hid hS; clear hS)
                | (go_at_call 68; with_reducible refine (equal68 (HS9.out.rowBs rfl GB.out) (HS9.out.swap.drop.swap.rowBs rfl GB.out)).mono ?_; rintro e w10 ⟨rfl, rfl⟩; simp only [eqx]))
              go_ret
              exact ⟨rfl, HS9.out.b⟩
end Go.Proofs.Ythgpkbhilkdckaa

/- The form of a number, as a list of bytes. Plain; and codec.form. -/
namespace Go.Proofs.Ythgpkbhilkdckaa
open Go.RowKit
set_option linter.unusedVariables false

/-- seven bits a byte, the least first -/
def enc (n : Nat) : List UInt8 := if h : n < 128 then [UInt8.ofNat n] else UInt8.ofNat (n % 128 + 128) :: enc (n / 128)
termination_by n
decreasing_by omega
theorem enc_lt {n : Nat} (h : n < 128) : enc n = [UInt8.ofNat n] := by rw [enc, dif_pos h]
theorem enc_ge {n : Nat} (h : ¬ n < 128) : enc n = UInt8.ofNat (n % 128 + 128) :: enc (n / 128) := by rw [enc, dif_neg h]
theorem enc_pos (n : Nat) : 0 < (enc n).length := by
  by_cases h : n < 128
  · rw [enc_lt h]; simp
  · rw [enc_ge h]; simp
theorem enc_le (k : Nat) : ∀ n, n < 128 ^ (k + 1) → (enc n).length ≤ k + 1 := by
  induction k with
  | zero => intro n h; rw [enc_lt (by simpa using h)]; simp
  | succ k ih =>
    intro n h
    by_cases hn : n < 128
    · rw [enc_lt hn]; simp
    · rw [enc_ge hn]
      have := ih (n / 128) (by rw [Nat.div_lt_iff_lt_mul (by omega)]; rw [Nat.pow_succ] at h; exact h)
      simp; omega
theorem enc_10 {n : Nat} (h : n < 18446744073709551616) : (enc n).length ≤ 10 := enc_le 9 n (Nat.lt_of_lt_of_le h (by decide))
theorem orB (m : Nat) : bits BinOp.or IntKind.u8 ((m : Int) % 256) 128 = ((m % 128 + 128 : Nat) : Int) := by
  have h : ∀ k : Fin 256, bits BinOp.or IntKind.u8 ((k.val : Int)) 128 = ((k.val % 128 + 128 : Nat) : Int) := by decide +kernel
  have := h ⟨m % 256, Nat.mod_lt _ (by omega)⟩
  simp only at this
  rw [show ((m : Int) % 256) = ((m % 256 : Nat) : Int) by omega, this]
  congr 1; omega
theorem u8c (k : Nat) (h : k < 256) : Value.int IntKind.u8 ((UInt8.ofNat k).toNat : Int) = Value.int IntKind.u8 (k : Int) := by
  rw [UInt8.toNat_ofNat']
  congr 2; omega
/-- the cells of an array of ten that begins with bytes -/
def ten (p : List UInt8) : Array Value := (cellsB p ++ List.replicate (10 - p.length) (Value.int IntKind.u8 0)).toArray
theorem ten_size {p : List UInt8} (h : p.length ≤ 10) : (ten p).size = 10 := by simp [ten, cellsB_len]; omega
theorem ten_set {p : List UInt8} (h : p.length < 10) (k : Nat) (hk : k < 256) : (ten p).setIfInBounds p.length (.int .u8 (k : Int)) = ten (p ++ [UInt8.ofNat k]) := by
  apply Array.ext'
  simp only [ten, Array.toList_setIfInBounds, List.length_append, List.length_singleton]
  rw [List.set_append_right _ _ (by rw [cellsB_len]; omega), cellsB_len, Nat.sub_self]
  obtain ⟨j, hj⟩ : ∃ j, 10 - p.length = j + 1 := ⟨10 - p.length - 1, by omega⟩
  rw [hj, show 10 - (p.length + 1) = j by omega, List.replicate_succ, List.set_cons_zero, cellsB_app]
  simp only [List.append_assoc]
  congr 1
  simp [cellsB]
  omega
theorem ten_lit {p : List UInt8} (h : p.length ≤ 10) : ∃ x0 x1 x2 x3 x4 x5 x6 x7 x8 x9 : Int, ten p = #[.int .u8 x0, .int .u8 x1, .int .u8 x2, .int .u8 x3, .int .u8 x4, .int .u8 x5, .int .u8 x6, .int .u8 x7, .int .u8 x8, .int .u8 x9] := by
  have hs := ten_size h
  have hall : ∀ v ∈ (ten p).toList, ∃ x : Int, v = .int .u8 x := by
    intro v hv
    simp only [ten, List.mem_append, cellsB, List.mem_map, List.mem_replicate] at hv
    rcases hv with ⟨b, _, rfl⟩ | ⟨_, rfl⟩
    · exact ⟨_, rfl⟩
    · exact ⟨_, rfl⟩
  obtain ⟨l, hl⟩ : ∃ l, (ten p).toList = l := ⟨_, rfl⟩
  have e : ten p = l.toArray := by rw [← hl]
  rw [hl] at hall
  have hl10 : l.length = 10 := by rw [← hl]; simpa using hs
  match l, hl10 with
  | [a0, a1, a2, a3, a4, a5, a6, a7, a8, a9], _ =>
    obtain ⟨x0, rfl⟩ := hall a0 (by simp)
    obtain ⟨x1, rfl⟩ := hall a1 (by simp)
    obtain ⟨x2, rfl⟩ := hall a2 (by simp)
    obtain ⟨x3, rfl⟩ := hall a3 (by simp)
    obtain ⟨x4, rfl⟩ := hall a4 (by simp)
    obtain ⟨x5, rfl⟩ := hall a5 (by simp)
    obtain ⟨x6, rfl⟩ := hall a6 (by simp)
    obtain ⟨x7, rfl⟩ := hall a7 (by simp)
    obtain ⟨x8, rfl⟩ := hall a8 (by simp)
    obtain ⟨x9, rfl⟩ := hall a9 (by simp)
    exact ⟨x0, x1, x2, x3, x4, x5, x6, x7, x8, x9, e⟩

theorem form_le {n m : Nat} {p : List UInt8} (hp : m * 128 ^ p.length ≤ n) : m ≤ n :=
  Nat.le_trans (Nat.le_mul_of_pos_right m (Nat.one_le_pow _ _ (by omega))) hp
theorem form_more {n m : Nat} {p : List UInt8} (h : n < 18446744073709551616) (hp : m * 128 ^ p.length ≤ n) (hm : 127 < m) : p.length < 9 := by
  rcases Nat.lt_or_ge p.length 9 with h | h
  · exact h
  · have h1 := Nat.pow_le_pow_right (show 0 < 128 by omega) h
    have h2 : 128 * 128 ^ p.length ≤ m * 128 ^ p.length := Nat.mul_le_mul_right _ (by omega)
    have e10 : (128 : Nat) ^ 9 = 9223372036854775808 := by decide
    omega
set_option maxRecDepth 20000 in
set_option maxHeartbeats 1000000 in
theorem form115 (w : World) (n : Nat) (hn : n < 18446744073709551616) : Calls Try.prog 115 #[.int .u64 (n : Int)] w fun e w' => e = .returned (.tuple #[.agg (ten (enc n)), .int .i64 ((enc n).length : Int)]) ∧ B w w' := by
  have HN := Lib.hid hn
  have hz : ten [] = #[.int .u8 0, .int .u8 0, .int .u8 0, .int .u8 0, .int .u8 0, .int .u8 0, .int .u8 0, .int .u8 0, .int .u8 0, .int .u8 0] := rfl
  have k1 : Blk ((w.alloc (.cells (ten []) 141)).alloc (.cells (ten []) 141)) w.heap.size 141 (ten []) := (Blk.new w _ _).alloc _
  have k2 : Blk ((w.alloc (.cells (ten []) 141)).alloc (.cells (ten []) 141)) (w.heap.size + 1) 141 (ten []) := by simpa using Blk.new (w.alloc (.cells (ten []) 141)) 141 (ten [])
  have k3 : B w ((w.alloc (.cells (ten []) 141)).alloc (.cells (ten []) 141)) := (B.alloc' _ _).trans (B.alloc' _ _)
  rw [hz] at k1 k2 k3
  clear hz hn
  go_enter Try.func115, Try.ntmps115
  go_wp2_with fail
  rw [← show ten [] = #[Value.int IntKind.u8 0, .int .u8 0, .int .u8 0, .int .u8 0, .int .u8 0, .int .u8 0, .int .u8 0, .int .u8 0, .int .u8 0, .int .u8 0] from rfl] at k1 k2 k3
  go_loopw [0, 5] (fun x k wr => ∃ (m q : Nat) (p : List UInt8), x = .int .u64 (m : Int) ∧ k = .int .i64 (q : Int) ∧ Hid (p.length = q) ∧ Hid (enc n = p ++ enc m) ∧ q < 10 ∧ Hid (m * 128 ^ q ≤ n) ∧ Hid (Blk wr w.heap.size 141 (ten [])) ∧ Hid (Blk wr (w.heap.size + 1) 141 (ten p)) ∧ Hid (B w wr)) (fun x _ _ => (intOf x).toNat)
  case atStart => exact ⟨n, 0, [], rfl, rfl, rfl, rfl, by omega, by show n * 128 ^ 0 ≤ n; omega, k1, k2, k3⟩
  case round =>
    obtain ⟨m, q, p, rfl, rfl, HL, HE, hq, HP, H1, H2, H3⟩ := hrel
    clear k1 k2 k3
    have hmn := Lib.hid (form_le (p := p) (by rw [HL.out]; exact HP.out))
    have hsz := Lib.hid (ten_size (p := p) (by rw [HL.out]; omega))
    have c3 := H2.out.frozen q
    obtain ⟨cv, c2⟩ : ∃ cv, wr.cell? ⟨w.heap.size + 1, q, none⟩ = some cv := by
      rw [H2.out.cell]
      exact ⟨(ten p)[q]'(by rw [hsz.out]; omega), Array.getElem?_eq_getElem _⟩
    have hqi : (q : Int) < 10 := by omega
    by_cases hm : 127 < m
    · have hpl := Lib.hid (form_more (p := p) HN.out (by rw [HL.out]; exact HP.out) hm)
      go_wp2_with fail
      go_roundw
      case rel =>
        have hq9 : q < 9 := by have := hpl.out; have := HL.out; omega
        refine ⟨m / 128, q + 1, p ++ [UInt8.ofNat (m % 128 + 128)], by go_num, by go_num, ?_, ?_, by omega, ?_, H1.out.far (by simp) _, ?_, H3.out.setCell (by simp) _⟩
        · show (p ++ [_]).length = q + 1
          rw [List.length_append, HL.out]; rfl
        · show enc n = _
          rw [HE.out, enc_ge (by omega), List.append_assoc]; rfl
        · show m / 128 * 128 ^ (q + 1) ≤ n
          rw [Nat.pow_succ, Nat.mul_comm (128 ^ q) 128, ← Nat.mul_assoc]
          exact Nat.le_trans (Nat.mul_le_mul_right _ (Nat.div_mul_le_self m 128)) HP.out
        · show Blk _ _ _ _
          rw [orB]
          have := H2.out.set_ q (.int .u8 ((m % 128 + 128 : Nat) : Int))
          have e := ten_set (p := p) (by rw [HL.out]; omega) (m % 128 + 128) (by omega)
          rw [HL.out] at e
          rwa [e] at this
      case measure => simp [intOf]; omega
    · have hpt := ten_set (p := p) (by rw [HL.out]; omega) m (by omega)
      rw [HL.out] at hpt
      obtain ⟨x0, x1, x2, x3, x4, x5, x6, x7, x8, x9, hx⟩ := ten_lit (p := p ++ [UInt8.ofNat m]) (by simp; rw [HL.out]; omega)
      have HX := Lib.hid hx
      have HEN := Lib.hid (show enc n = p ++ [UInt8.ofNat m] by rw [HE.out, enc_lt (by omega)])
      have HT := Lib.hid (show Blk (wr.setCell ⟨w.heap.size + 1, q, none⟩ (.int .u8 (m : Int))) (w.heap.size + 1) 141 #[.int .u8 x0, .int .u8 x1, .int .u8 x2, .int .u8 x3, .int .u8 x4, .int .u8 x5, .int .u8 x6, .int .u8 x7, .int .u8 x8, .int .u8 x9] from by
        have := H2.out.set_ q (.int .u8 (m : Int)); rwa [hpt, hx] at this)
      have HZ := Lib.hid (show Blk (wr.setCell ⟨w.heap.size + 1, q, none⟩ (.int .u8 (m : Int))) w.heap.size 141 #[.int .u8 0, .int .u8 0, .int .u8 0, .int .u8 0, .int .u8 0, .int .u8 0, .int .u8 0, .int .u8 0, .int .u8 0, .int .u8 0] from H1.out.far (by simp) _)
      have HB := Lib.hid (show B w (wr.setCell ⟨w.heap.size + 1, q, none⟩ (.int .u8 (m : Int))) from H3.out.setCell (by simp) _)
      have hm256 : (m : Int) % 256 = m := by omega
      clear hpt hx
      go_wp2_with (refine wpList_load_row rfl 141 (.tmp 4) rfl (w.heap.size + 1) rfl 141 #[.int .u8 x0, .int .u8 x1, .int .u8 x2, .int .u8 x3, .int .u8 x4, .int .u8 x5, .int .u8 x6, .int .u8 x7, .int .u8 x8, .int .u8 x9] (0, 0) _ HT.out Try.underlying141 rfl (by kernel_rfl) ?_; have cz := fun i => HZ.out.cell i; have fz := fun i => HZ.out.frozen i; have HS := Lib.hid HB.out; generalize wr.setCell ⟨w.heap.size + 1, q, none⟩ (.int .u8 (m : Int)) = wz at *)
      refine bodyPost_ret (v := .tuple #[.agg #[.int .u8 x0, .int .u8 x1, .int .u8 x2, .int .u8 x3, .int .u8 x4, .int .u8 x5, .int .u8 x6, .int .u8 x7, .int .u8 x8, .int .u8 x9], .int .i64 ((q : Int) + 1)]) (by simp [results, Try.results115, go_sem, cz]) rfl ⟨?_, ?_⟩
      · rw [← HX.out, ← HEN.out]
        have e : ((q : Int) + 1) = ((enc n).length : Int) := by rw [HEN.out, List.length_append, HL.out]; simp
        rw [e]
      · repeat (refine Below.setCell ?_ (by simp) _)
        exact HB.out
end Go.Proofs.Ythgpkbhilkdckaa

/- What codec and its reference put: numbers, byte strings, lists. -/
namespace Go.Proofs.Ythgpkbhilkdckaa
open Go.RowKit
set_option linter.unusedVariables false

/-- a slice with no room behind it -/
def clipV : Value → Value | .slice A n _ => .slice A n n | v => v
set_option maxHeartbeats 400000 in
theorem clip116 {w : World} {v : Value} {bs : List UInt8} (h : Bs w v bs) : Calls Try.prog 116 #[v] w fun e w' => e = .returned (clipV v) ∧ w = w' := by
  obtain ⟨⟨A, cap, rfl, hn, hc, hm, hr⟩, hl⟩ := h
  have hm' : bs.length ≤ 9223372036854775807 := by unfold maxLen at hm; omega
  have hci : (bs.length : Int) ≤ (cap : Int) := by omega
  cases A with
  | none =>
    obtain ⟨rfl, rfl⟩ := hn rfl
    clear hr hn hc hm hl
    go_enter Try.func116, Try.ntmps116
    go_wp2
    go_ret
    exact ⟨rfl, rfl⟩
  | some ad =>
    clear hr hn hm hl
    go_enter Try.func116, Try.ntmps116
    go_wp2
    go_ret
    exact ⟨rfl, rfl⟩
/-- append where there is no room: a new row -/
theorem append_clip {P : Program} {t ty : TypeId} {w : World} {v u : Value} {bs news : List UInt8} (ht : P.underlying t = some (.slice 5)) (hi5 : (P.info? 5).map (fun i => (i.zero, i.size, i.bytes)) = some (some (.int .u8 0), 1, 1))
    (hv : Bs w v bs) (hu : Rd w u news.length 1 (cellsB news)) (hm : 0 < news.length) (hroom : bs.length + news.length ≤ big) :
    ∃ v' w', (Builtin.append_ #[t, t] ty #[clipV v, u]).run P w = .ok v' w' ∧ w'.ownsRow w.heap.size 5 1 v' (bs ++ news).length (cellsB (bs ++ news)) ∧ B w w' := by
  obtain ⟨⟨A, cap, rfl, hn, hc, hmx, hr⟩, hl⟩ := hv
  have hb1 : bs.length + news.length ≤ maxLen := by unfold big at hroom; unfold maxLen; omega
  have hb2 : (bs.length + news.length) * 1 ≤ 140737488355328 := by unfold big at hroom; omega
  cases A with
  | none =>
    obtain ⟨rfl, rfl⟩ := hn rfl
    obtain ⟨v', w', h1, h2, h3, h4⟩ := append_Rd (P := P) (t := t) (ty := ty) ht hi5 rfl Nat.zero_lt_one (ownNil w w.heap.size 5 1) hu (cellsB_one _) (by simpa using hb1) (by simpa using hb2) (Nat.le_refl _)
    exact ⟨v', w', h1, by simpa using h2, B.grown (Below.refl _ _) h3 (fun k hk => by simp [Value.ownBlock] at hk)⟩
  | some ad =>
    obtain ⟨i, hi, hz0, hs, hby⟩ := info_parts hi5
    obtain ⟨hul, A', c', rfl, hn', hc', hr'⟩ := hu
    cases A' with
    | none => have := (hn' rfl).1; omega
    | some ad' =>
      obtain ⟨v', w', h1, h2, h3⟩ := run_append_arg_grows (P := P) w t ty 5 i (.int .u8 0) 1 1 ht hi hz0 hs hby rfl Nat.zero_lt_one ad bs.length bs.length (cellsB bs) (by rw [cellsB_len]; omega) (hr ad rfl).2 ad' news.length c' (cellsB news) (by rw [cellsB_len]; omega) (hr' ad' rfl).2 (by omega) hb1 hb2
      exact ⟨v', w', h1, by rw [List.length_append, cellsB_app]; exact h2, B.grown (Below.refl _ _) h3 (fun k hk => by cases hk)⟩
theorem ten_rd {w : World} {g : Nat} {p : List UInt8} (hp : p.length ≤ 10) (h : Blk w g 141 (ten p)) : Rd w (.slice (some ⟨g, 0, none⟩) p.length 10) p.length 1 (cellsB p) := by
  refine ⟨by rw [cellsB_len]; omega, _, 10, rfl, fun e => (by cases e), hp, fun ad had => ?_⟩
  cases had
  refine ⟨fun _ => h.lt, fun j x hx => ?_⟩
  have ea : (⟨g, 0, none⟩ : Addr).add j = ⟨g, j, none⟩ := by unfold Addr.add; split <;> simp_all
  rw [ea, h.cell, ← hx]
  have hj : j < (cellsB p).length := by
    rcases Nat.lt_or_ge j (cellsB p).length with h | h
    · exact h
    · rw [List.getElem?_eq_none h] at hx; cases hx
  simp only [ten, List.getElem?_toArray]
  rw [List.getElem?_append_left hj]

/-- what is put: fresh bytes -/
def Fresh (w : World) (bs : List UInt8) (e : Ending) (w' : World) : Prop := ∃ v', e = .returned v' ∧ w'.ownsRow w.heap.size 5 1 v' bs.length (cellsB bs) ∧ B w w'

set_option maxRecDepth 20000 in
set_option maxHeartbeats 1000000 in
theorem putNum70 {w : World} {v : Value} {bs : List UInt8} (h : Bs w v bs) (n : Nat) (hn : n < 18446744073709551616) (hl : bs.length + 10 ≤ big) : Calls Try.prog 70 #[v, .int .u64 (n : Int)] w (Fresh w (bs ++ enc n)) := by
  have H := Lib.hid h
  have HF := Lib.hid (form115 w n hn)
  have HE := Lib.hid (enc_10 hn)
  have HL := Lib.hid hl
  obtain ⟨x0, x1, x2, x3, x4, x5, x6, x7, x8, x9, hx⟩ := ten_lit (p := enc n) (enc_10 hn)
  have HX := Lib.hid hx
  have hq : (enc n).length ≤ 10 := enc_10 hn
  have hqi : ((enc n).length : Int) ≤ 10 := by omega
  clear h hn hl hx
  go_enter Try.func70, Try.ntmps70
  go_wp2_with (go_at_call 115; refine HF.out.mono ?_; rintro e w1 ⟨rfl, hb1⟩; rw [HX.out])
  have hb2 := hb1.trans (B.alloc' w1 (.cells #[.int .u8 x0, .int .u8 x1, .int .u8 x2, .int .u8 x3, .int .u8 x4, .int .u8 x5, .int .u8 x6, .int .u8 x7, .int .u8 x8, .int .u8 x9] 141))
  have hk : Blk (w1.alloc (.cells #[.int .u8 x0, .int .u8 x1, .int .u8 x2, .int .u8 x3, .int .u8 x4, .int .u8 x5, .int .u8 x6, .int .u8 x7, .int .u8 x8, .int .u8 x9] 141)) w1.heap.size 141 #[.int .u8 x0, .int .u8 x1, .int .u8 x2, .int .u8 x3, .int .u8 x4, .int .u8 x5, .int .u8 x6, .int .u8 x7, .int .u8 x8, .int .u8 x9] := Blk.new w1 _ _
  generalize w1.alloc (.cells #[.int .u8 x0, .int .u8 x1, .int .u8 x2, .int .u8 x3, .int .u8 x4, .int .u8 x5, .int .u8 x6, .int .u8 x7, .int .u8 x8, .int .u8 x9] 141) = w2 at *
  have hk' : Blk w2.drew w1.heap.size 141 (ten (enc n)) := by rw [HX.out]; exact hk
  obtain ⟨v', w3, hrun, h2, h3⟩ := append_clip (P := Try.prog) (t := 47) (ty := 47) Try.underlying47 info5 (H.out.later (hb2.trans (Below.refl _ _).drew)) (ten_rd HE.out hk') (enc_pos n) (by have := HE.out; have := HL.out; omega)
  have HC := Lib.hid (clip116 (H.out.later (hb2.trans (Below.refl _ _).drew)))
  have HB := Lib.hid (hb2.trans ((Below.refl _ _).drew.trans h3))
  have hs2 := hb2.size
  have HO := Lib.hid (row_base h2 (show w.heap.size ≤ w2.drew.heap.size from hs2))
  clear hk hk' h2 h3 hb1 hb2 hs2
  go_region_law (first
    | (refine step_call rfl 116 #[.tmp 12] #[47] rfl Try.call116 HC.out rfl ?_; rintro e wn ⟨rfl, rfl⟩; refine ⟨_, rfl, ?_⟩)
    | (refine step_append_run rfl (.tmp 13) (.tmp 15) 47 rfl rfl rfl hrun ?_))
  all_goals
    go_wp2_with fail
    go_ret
    exact ⟨v', rfl, HO.out, HB.out⟩
end Go.Proofs.Ythgpkbhilkdckaa

/- What codec and its reference put: byte strings, lists; how long a number's form is. -/
namespace Go.Proofs.Ythgpkbhilkdckaa
open Go.RowKit
set_option linter.unusedVariables false

theorem Fresh.mk {w w' : World} {bs : List UInt8} {v : Value} {n : Nat} {xs : List Value} (h : w'.ownsRow w.heap.size 5 1 v n xs) (hn : n = bs.length) (hx : xs = cellsB bs) (hb : B w w') : Fresh w bs (.returned v) w' := by
  subst hn hx; exact ⟨v, rfl, h, hb⟩
/-- append onto a row of the call's own: the bytes behind it -/
theorem Fresh.app {w w1 w2 : World} {z xs : List UInt8} {A1 A2 : Option Addr} {c1 c2 : Nat} (r1 : w1.ownsRow w.heap.size 5 1 (.slice A1 z.length c1) z.length (cellsB z)) (hb : B w w1)
    (r2 : w2.ownsRow w.heap.size 5 1 (.slice A2 (z.length + xs.length) c2) (z.length + xs.length) (cellsB z ++ cellsB xs)) (x2 : w1.grownBy w2 (Value.slice A1 z.length c1).ownBlock) : Fresh w (z ++ xs) (.returned (.slice A2 (z.length + xs.length) c2)) w2 :=
  Fresh.mk r2 (by simp) (by rw [cellsB_app]) (B.grown hb x2 (fun k hk => row_ge r1 hk))

set_option maxHeartbeats 1000000 in
theorem numLen76 (w : World) (n : Nat) (hn : n < 18446744073709551616) : Calls Try.prog 76 #[.int .u64 (n : Int)] w fun e w' => e = .returned (.int .i64 ((enc n).length : Int)) ∧ B w w' := by
  have HF := Lib.hid (form115 w n hn)
  obtain ⟨x0, x1, x2, x3, x4, x5, x6, x7, x8, x9, hx⟩ := ten_lit (p := enc n) (enc_10 hn)
  have HX := Lib.hid hx
  clear hn hx
  go_enter Try.func76, Try.ntmps76
  go_wp2_with (go_at_call 115; refine HF.out.mono ?_; rintro e w1 ⟨rfl, hb1⟩; rw [HX.out])
  go_ret
  exact ⟨rfl, hb1.trans (B.alloc' _ _)⟩

theorem Rd.byte (w : World) (b : UInt8) (y : Int) (h : (b.toNat : Int) = y) : Rd (w.alloc (.cells #[.int .u8 y] 5)) (.slice (some ⟨w.heap.size, 0, none⟩) 1 1) 1 1 (cellsB [b]) := by
  subst h
  exact Rd.lit w #[.int .u8 (b.toNat : Int)] 5 1 rfl
theorem u8i (k : Nat) (h : k < 256) : ((UInt8.ofNat k).toNat : Int) = (k : Int) := by rw [UInt8.toNat_ofNat']; congr 1; omega
theorem u64_id {x : Int} (h : 0 ≤ x ∧ x < 18446744073709551616) : IntKind.u64.wrap x = x := by
  simp [IntKind.wrap, IntKind.signed, IntKind.bits]; omega
/-- PutBytes, whichever PutNum stands in it -/
theorem putNum71 {w : World} {v : Value} {bs : List UInt8} (h : Bs w v bs) (n : Nat) (hn : n < 18446744073709551616) (hl : bs.length + 10 ≤ big) : Calls Try.prog 71 #[v, .int .u64 (n : Int)] w (Fresh w (bs ++ enc n)) := by
  have H := Lib.hid h
  have HE := Lib.hid (enc_10 hn)
  have HL := Lib.hid hl
  have HN := Lib.hid hn
  have g1 : 0 + bs.length ≤ maxLen := by unfold big at hl; unfold maxLen; omega
  have g2 : (0 + bs.length) * 1 ≤ 140737488355328 := by unfold big at hl; omega
  have o1 := cellsB_one bs
  clear h hn hl
  go_enter Try.func71, Try.ntmps71
  go_wp2_with (at_builtin; refine wpList_append_Rd (v := .slice none 0 0) (base := w.heap.size) rfl (.tmp 6) (.tmp 7) 47 rfl Try.underlying47 info5 rfl Nat.zero_lt_one rfl rfl (ownNil _ _ 5 1) H.out.rd o1 g1 g2 (Nat.le_refl _) ?_; intro A1 c1 w1 r1 x1 y1; simp only [Nat.zero_add, List.nil_append] at r1 y1; have hB1 : B w w1 := B.grown (Below.refl _ _) x1 (fun k hk => by simp [Value.ownBlock] at hk))
  have R1 := Lib.hid r1
  have HB1 := Lib.hid hB1
  clear r1 x1 y1 hB1
  go_loopw [1, 5] (fun x v wr => ∃ (m k : Nat) (z : List UInt8) (A : Option Addr) (c : Nat), x = .int .u64 (m : Int) ∧ v = .slice A k c ∧ Hid (z.length = k) ∧ Hid (m ≤ n) ∧ Hid (bs ++ enc n = z ++ enc m) ∧ Hid (wr.ownsRow w.heap.size 5 1 (.slice A k c) k (cellsB z)) ∧ Hid (B w wr)) (fun x _ _ => (intOf x).toNat)
  case atStart => exact ⟨n, bs.length, bs, A1, c1, rfl, by simp, rfl, Nat.le_refl _, rfl, R1.out, HB1.out⟩
  case round =>
    obtain ⟨m, k, z, A, c, rfl, rfl, HZ, HM, HE', HR, HB⟩ := hrel
    have hk : k + 1 ≤ bs.length + 10 := by
      have h1 := congrArg List.length HE'.out
      simp only [List.length_append] at h1
      have := enc_pos m; have := HE.out; have := HZ.out; omega
    have g3 : k + 1 ≤ maxLen := by have := HL.out; unfold big at this; unfold maxLen; omega
    have g4 : (k + 1) * 1 ≤ 140737488355328 := by have := HL.out; unfold big at this; omega
    have hbs := Lib.hid HB.out.size
    by_cases hm : 128 ≤ m
    · have hmi : (128 : Int) ≤ m := by omega
      have hw : IntKind.u64.wrap ((m : Int) / 128) = (m : Int) / 128 := u64_id (by have := HN.out; have := HM.out; omega)
      have o2 := cellsB_one [UInt8.ofNat (m % 128 + 128)]
      have hcl := Lib.hid (show ((UInt8.ofNat (m % 128 + 128)).toNat : Int) = (m : Int) % 128 + 128 by rw [u8i _ (by omega)]; omega)
      go_wp2_with (at_builtin; refine wpList_append_Rd rfl (.tmp 11) (.tmp 16) 47 rfl Try.underlying47 info5 rfl Nat.zero_lt_one rfl rfl (row_later HR.out (B.alloc' _ _)) (Rd.byte wr (UInt8.ofNat (m % 128 + 128)) _ hcl.out) o2 g3 g4 (Nat.le_trans hbs.out (B.alloc' _ _).size) ?_; intro A2 c2 w2 r2 x2 y2; have R2 := Lib.hid r2; have X2 := Lib.hid x2; clear r2 x2 y2)
      go_roundw
      case rel =>
        refine ⟨m / 128, k + 1, z ++ [UInt8.ofNat (m % 128 + 128)], A2, c2, by go_num, rfl, ?_, Nat.le_trans (Nat.div_le_self _ _) HM.out, ?_, ?_, ?_⟩
        · show (z ++ [_]).length = k + 1
          rw [List.length_append, HZ.out]; rfl
        · show bs ++ enc n = _
          rw [HE'.out, enc_ge (by omega), List.append_assoc]; rfl
        · show World.ownsRow _ _ _ _ _ _ _
          rw [cellsB_app]; exact R2.out
        · exact B.grown (HB.out.trans (B.alloc' _ _)) X2.out (fun g hg => row_ge HR.out hg)
      case measure => simp [intOf]; omega
    · have hmi : ¬ (128 : Int) ≤ m := by omega
      have hm256 : (m : Int) % 256 = m := by omega
      have o2 := cellsB_one [UInt8.ofNat m]
      have hcl := Lib.hid (show ((UInt8.ofNat m).toNat : Int) = (m : Int) by rw [u8i _ (by omega)])
      have hez := Lib.hid (show bs ++ enc n = z ++ [UInt8.ofNat m] by rw [HE'.out, enc_lt (by omega)])
      clear hm
      go_wp2_with (at_builtin; refine wpList_append_Rd rfl (.tmp 20) (.tmp 23) 47 rfl Try.underlying47 info5 rfl Nat.zero_lt_one rfl rfl (row_later HR.out (B.alloc' _ _)) (Rd.byte wr (UInt8.ofNat m) _ hcl.out) o2 g3 g4 (Nat.le_trans hbs.out (B.alloc' _ _).size) ?_; intro A2 c2 w2 r2 x2 y2; have R2 := Lib.hid r2; have X2 := Lib.hid x2; clear r2 x2 y2)
      go_ret
      exact Fresh.mk R2.out (by rw [hez.out, List.length_append, HZ.out]; rfl) (by rw [hez.out, cellsB_app]) (B.grown (HB.out.trans (B.alloc' _ _)) X2.out (fun g hg => row_ge HR.out hg))

def putB (bs xs : List UInt8) : List UInt8 := bs ++ enc xs.length ++ xs
def putS (L : List (List UInt8)) : List UInt8 := (L.map fun x => enc x.length ++ x).flatten
def putL (bs : List UInt8) (L : List (List UInt8)) : List UInt8 := bs ++ enc L.length ++ putS L

set_option maxHeartbeats 1000000 in
theorem putBytes72 {w : World} {v u : Value} {bs xs : List UInt8} (h : Bs w v bs) (k : Bs w u xs) (hl : (bs ++ xs).length + 10 ≤ big) : Calls Try.prog 72 #[v, u] w (Fresh w (putB bs xs)) := by
  have hxl : xs.length < 18446744073709551616 := by have := k.len; unfold big at this; omega
  have hl' : bs.length + 10 + xs.length ≤ big := by simp at hl; omega
  have HP := Lib.hid (putNum70 h xs.length hxl (by omega))
  have h10 := enc_10 hxl
  have HK := Lib.hid k
  obtain ⟨z, hz⟩ : ∃ z, z = bs ++ enc xs.length := ⟨_, rfl⟩
  have hzl : z.length ≤ bs.length + 10 := by rw [hz, List.length_append]; omega
  rw [← hz] at HP
  have g1 : z.length + xs.length ≤ maxLen := by unfold big at hl'; unfold maxLen; omega
  have g2 : (z.length + xs.length) * 1 ≤ 140737488355328 := by unfold big at hl'; omega
  have o1 := cellsB_one xs
  have HZ := Lib.hid (show putB bs xs = z ++ xs by rw [hz]; rfl)
  have hxi : (xs.length : Int) ≤ 140737488355328 := by have := k.len; unfold big at this; omega
  rw [HZ.out]
  obtain ⟨B0, cp, rfl⟩ := HK.out.rd.slice
  clear h k hl hl' h10 hz hzl hxl
  go_enter Try.func72, Try.ntmps72
  go_wp2_with (first
    | (go_at_call 70; (with_reducible refine HP.out.mono ?_); rintro e w1 ⟨v1, rfl, r1, hb1⟩; obtain ⟨A1, c1, rfl⟩ := own_slice r1; have hb1s := hb1.size)
    | (at_builtin; refine wpList_append_Rd rfl (.tmp 9) (.tmp 10) 47 rfl Try.underlying47 info5 rfl Nat.zero_lt_one rfl rfl r1 (HK.out.later hb1).rd o1 g1 g2 hb1s ?_; intro A2 c2 w2 r2 x2 y2))
  go_ret
  exact Fresh.app r1 hb1 r2 x2

set_option maxHeartbeats 1000000 in
theorem putBytes73 {w : World} {v u : Value} {bs xs : List UInt8} (h : Bs w v bs) (k : Bs w u xs) (hl : (bs ++ xs).length + 10 ≤ big) : Calls Try.prog 73 #[v, u] w (Fresh w (putB bs xs)) := by
  have hxl : xs.length < 18446744073709551616 := by have := k.len; unfold big at this; omega
  have hl' : bs.length + 10 + xs.length ≤ big := by simp at hl; omega
  have HP := Lib.hid (putNum71 h xs.length hxl (by omega))
  have h10 := enc_10 hxl
  have HK := Lib.hid k
  obtain ⟨z, hz⟩ : ∃ z, z = bs ++ enc xs.length := ⟨_, rfl⟩
  have hzl : z.length ≤ bs.length + 10 := by rw [hz, List.length_append]; omega
  rw [← hz] at HP
  have g1 : z.length + xs.length ≤ maxLen := by unfold big at hl'; unfold maxLen; omega
  have g2 : (z.length + xs.length) * 1 ≤ 140737488355328 := by unfold big at hl'; omega
  have o1 := cellsB_one xs
  have HZ := Lib.hid (show putB bs xs = z ++ xs by rw [hz]; rfl)
  have hxi : (xs.length : Int) ≤ 140737488355328 := by have := k.len; unfold big at this; omega
  rw [HZ.out]
  obtain ⟨B0, cp, rfl⟩ := HK.out.rd.slice
  clear h k hl hl' h10 hz hzl hxl
  go_enter Try.func73, Try.ntmps73
  go_wp2_with (first
    | (go_at_call 71; (with_reducible refine HP.out.mono ?_); rintro e w1 ⟨v1, rfl, r1, hb1⟩; obtain ⟨A1, c1, rfl⟩ := own_slice r1; have hb1s := hb1.size)
    | (at_builtin; refine wpList_append_Rd rfl (.tmp 9) (.tmp 10) 47 rfl Try.underlying47 info5 rfl Nat.zero_lt_one rfl rfl r1 (HK.out.later hb1).rd o1 g1 g2 hb1s ?_; intro A2 c2 w2 r2 x2 y2))
  go_ret
  exact Fresh.app r1 hb1 r2 x2
end Go.Proofs.Ythgpkbhilkdckaa

/- What codec and its reference put: lists. -/
namespace Go.Proofs.Ythgpkbhilkdckaa
open Go.RowKit
set_option linter.unusedVariables false
theorem putS_app (a b : List (List UInt8)) : putS (a ++ b) = putS a ++ putS b := by simp [putS]
theorem putS_cons (x : List UInt8) (r : List (List UInt8)) : putS (x :: r) = enc x.length ++ x ++ putS r := by simp [putS]
theorem putS_at (L : List (List UInt8)) (q : Nat) (h : q < L.length) : (putS L).length = (putS (L.take q)).length + (enc L[q].length).length + L[q].length + (putS (L.drop (q + 1))).length := by
  have := congrArg putS (List.take_append_drop q L)
  rw [List.drop_eq_getElem_cons h, putS_app, putS_cons] at this
  rw [← this]; simp only [List.length_append]; omega

set_option maxHeartbeats 1000000 in
theorem putList74 {inn : Nat → Prop} {w : World} {v u : Value} {bs : List UInt8} {L : List (List UInt8)} (h : Bs w v bs) (k : Lss inn w u L) (hl : (putL bs L).length + 10 ≤ big) : Calls Try.prog 74 #[v, u] w (Fresh w (putL bs L)) := by
  obtain ⟨A, c, rfl, _, hc1, hm1, hr⟩ := k
  have HR := Lib.hid hr
  have hs : (L.length : Int) ≤ 9223372036854775807 := by unfold maxLen at hm1; omega
  have hxl : L.length < 18446744073709551616 := by omega
  have HT := Lib.hid hl
  have hpl : (putL bs L).length = bs.length + (enc L.length).length + (putS L).length := by simp [putL]; omega
  have HP := Lib.hid (putNum70 h L.length hxl (by omega))
  clear hr hc1 hm1 h hl hxl hpl
  go_enter Try.func74, Try.ntmps74
  go_wp2_with (first
    | (go_at_call 70; (with_reducible refine HP.out.mono ?_); rintro e w1 ⟨v1, rfl, r1, hb1⟩; have R1 := Lib.hid r1; have HB1 := Lib.hid hb1; clear r1 hb1))
  go_loopw [0, 14] (fun v x wr => ∃ (q : Nat) (z : List UInt8), q ≤ L.length ∧ x = .int .i64 (q : Int) ∧ Hid (z = bs ++ enc L.length ++ putS (L.take q)) ∧ Hid (wr.ownsRow w.heap.size 5 1 v z.length (cellsB z)) ∧ Hid (B w wr)) (fun _ x _ => L.length - (intOf x).toNat)
  case atStart => exact ⟨0, bs ++ enc L.length, Nat.zero_le _, rfl, by show _ = _; simp [putS], R1.out, HB1.out⟩
  case round =>
    obtain ⟨q, z, hq, rfl, HZ, HW, HB⟩ := hrel
    by_cases hlt : q < L.length
    · obtain ⟨b, off, rfl, hb, _, hc⟩ := HR.out (by omega)
      obtain ⟨u1, k1, k2, _⟩ := hc q _ (List.getElem?_eq_getElem hlt)
      have k1 := HB.out.cell k1
      have k2 := k2.later HB.out
      have HS := Lib.hid (show putS (L.take (q + 1)) = putS (L.take q) ++ (enc L[q].length ++ L[q]) by
        rw [List.take_add_one, List.getElem?_eq_getElem hlt, putS_app]; simp [putS])
      have HTl := Lib.hid (show (z ++ L[q]).length + 10 ≤ big from by
        have h1 := HT.out
        have h2 := putS_at L q hlt
        rw [HZ.out]
        simp only [putL, List.length_append] at h1 ⊢
        omega)
      have hqi : (q : Int) < L.length := by omega
      generalize L[q] = x at *
      have hzb := Lib.hid (Bs.of_own HW.out (by have := HTl.out; simp at this; omega))
      have HC := Lib.hid (putBytes72 hzb.out k2 HTl.out)
      have hws := Lib.hid HB.out.size
      clear hc k2
      go_wp2_with (first
        | (go_at_call 72; (with_reducible refine HC.out.mono ?_); rintro e w2 ⟨v2, rfl, r2, hb2⟩; have R2 := Lib.hid r2; have HB2 := Lib.hid hb2; clear r2 hb2))
      go_roundw
      case rel => exact ⟨q + 1, putB z x, by omega, by go_num, by show _ = _; rw [HS.out, putB, HZ.out]; simp only [List.append_assoc], row_base R2.out hws.out, HB.out.trans HB2.out⟩
      case measure => simp [intOf]; omega
    · have hqi : ¬ (q : Int) < L.length := by omega
      have e1 : q = L.length := by omega
      have HZ' := Lib.hid (show z = putL bs L by rw [HZ.out, e1, List.take_length]; rfl)
      clear e1
      go_wp2_with fail
      go_ret
      exact Fresh.mk HW.out (by rw [HZ'.out]) (by rw [HZ'.out]) HB.out

set_option maxHeartbeats 1000000 in
theorem putList75 {inn : Nat → Prop} {w : World} {v u : Value} {bs : List UInt8} {L : List (List UInt8)} (h : Bs w v bs) (k : Lss inn w u L) (hl : (putL bs L).length + 10 ≤ big) : Calls Try.prog 75 #[v, u] w (Fresh w (putL bs L)) := by
  obtain ⟨A, c, rfl, _, hc1, hm1, hr⟩ := k
  have HR := Lib.hid hr
  have hs : (L.length : Int) ≤ 9223372036854775807 := by unfold maxLen at hm1; omega
  have hxl : L.length < 18446744073709551616 := by omega
  have HT := Lib.hid hl
  have hpl : (putL bs L).length = bs.length + (enc L.length).length + (putS L).length := by simp [putL]; omega
  have HP := Lib.hid (putNum71 h L.length hxl (by omega))
  clear hr hc1 hm1 h hl hxl hpl
  go_enter Try.func75, Try.ntmps75
  go_wp2_with (first
    | (go_at_call 71; (with_reducible refine HP.out.mono ?_); rintro e w1 ⟨v1, rfl, r1, hb1⟩; have R1 := Lib.hid r1; have HB1 := Lib.hid hb1; clear r1 hb1))
  go_loopw [5, 6] (fun v x wr => ∃ (q : Nat) (z : List UInt8), q ≤ L.length ∧ x = .int .i64 (q : Int) ∧ Hid (z = bs ++ enc L.length ++ putS (L.take q)) ∧ Hid (wr.ownsRow w.heap.size 5 1 v z.length (cellsB z)) ∧ Hid (B w wr)) (fun _ x _ => L.length - (intOf x).toNat)
  case atStart => exact ⟨0, bs ++ enc L.length, Nat.zero_le _, rfl, by show _ = _; simp [putS], R1.out, HB1.out⟩
  case round =>
    obtain ⟨q, z, hq, rfl, HZ, HW, HB⟩ := hrel
    by_cases hlt : q < L.length
    · obtain ⟨b, off, rfl, hb, _, hc⟩ := HR.out (by omega)
      obtain ⟨u1, k1, k2, _⟩ := hc q _ (List.getElem?_eq_getElem hlt)
      have k1 := HB.out.cell k1
      have k2 := k2.later HB.out
      have HS := Lib.hid (show putS (L.take (q + 1)) = putS (L.take q) ++ (enc L[q].length ++ L[q]) by
        rw [List.take_add_one, List.getElem?_eq_getElem hlt, putS_app]; simp [putS])
      have HTl := Lib.hid (show (z ++ L[q]).length + 10 ≤ big from by
        have h1 := HT.out
        have h2 := putS_at L q hlt
        rw [HZ.out]
        simp only [putL, List.length_append] at h1 ⊢
        omega)
      have hqi : (q : Int) < L.length := by omega
      generalize L[q] = x at *
      have hzb := Lib.hid (Bs.of_own HW.out (by have := HTl.out; simp at this; omega))
      have HC := Lib.hid (putBytes73 hzb.out k2 HTl.out)
      have hws := Lib.hid HB.out.size
      clear hc k2
      go_wp2_with (first
        | (go_at_call 73; (with_reducible refine HC.out.mono ?_); rintro e w2 ⟨v2, rfl, r2, hb2⟩; have R2 := Lib.hid r2; have HB2 := Lib.hid hb2; clear r2 hb2))
      go_roundw
      case rel => exact ⟨q + 1, putB z x, by omega, by go_num, by show _ = _; rw [HS.out, putB, HZ.out]; simp only [List.append_assoc], row_base R2.out hws.out, HB.out.trans HB2.out⟩
      case measure => simp [intOf]; omega
    · have hqi : ¬ (q : Int) < L.length := by omega
      have e1 : q = L.length := by omega
      have HZ' := Lib.hid (show z = putL bs L by rw [HZ.out, e1, List.take_length]; rfl)
      clear e1
      go_wp2_with fail
      go_ret
      exact Fresh.mk HW.out (by rw [HZ'.out]) (by rw [HZ'.out]) HB.out
end Go.Proofs.Ythgpkbhilkdckaa

/- Byte slices cut; which number bytes say. -/
namespace Go.Proofs.Ythgpkbhilkdckaa
open Go.RowKit Go.Deep
set_option linter.unusedVariables false

/-- where the bytes lie -/
theorem Bs.form {w : World} {v : Value} {bs : List UInt8} (h : Bs w v bs) : ∃ (A : Option Addr) (cap : Nat), v = .slice A bs.length cap ∧ bs.length ≤ cap ∧ cap ≤ maxLen ∧ (0 < bs.length → ∃ b off, A = some ⟨b, off, none⟩ ∧ b < w.heap.size ∧ ∀ j x, bs[j]? = some x → w.cell? ⟨b, off + j, none⟩ = some (.int .u8 (x.toNat : Int))) := by
  obtain ⟨⟨A, cap, rfl, hn, hc, hm, hr⟩, hl⟩ := h
  refine ⟨A, cap, rfl, hc, hm, fun h0 => ?_⟩
  cases A with
  | none => have := (hn rfl).1; subst this; simp at h0
  | some ad =>
    obtain ⟨h1, h2⟩ := hr ad rfl
    have c0 := h2 0 _ (cellsB_get bs 0 h0)
    have za : ad = ⟨ad.block, ad.off, none⟩ := by
      have := cell_spot c0
      simp [Addr.add] at this
      exact this
    refine ⟨ad.block, ad.off, by rw [← za], h1 (fun e => by subst e; simp at h0), fun j x hx => ?_⟩
    have hj : j < bs.length := by
      rcases Nat.lt_or_ge j bs.length with h | h
      · exact h
      · rw [List.getElem?_eq_none h] at hx; cases hx
    have := h2 j _ (cellsB_get bs j hj)
    rw [za, addr_add] at this
    rw [this]
    rw [List.getElem?_eq_getElem hj] at hx
    cases hx; rfl
theorem size5 (w : World) : (sizeOf 5).run Try.prog w = .ok 1 w := by kernel_rfl
theorem elem47 : Try.prog.elem 47 = 5 := by kernel_rfl
theorem add_of_add (a : Addr) (i j : Nat) : (a.add i).add j = a.add (i + j) := by
  unfold Addr.add
  by_cases hi : i = 0 <;> by_cases hj : j = 0 <;> simp [hi, hj, Nat.add_assoc]
theorem cellsB_drop (bs : List UInt8) (k j : Nat) : (cellsB (bs.drop k))[j]? = (cellsB bs)[k + j]? := by
  simp [cellsB, List.getElem?_drop]
theorem cellsB_take (bs : List UInt8) (k j : Nat) (u : Value) (h : (cellsB (bs.take k))[j]? = some u) : (cellsB bs)[j]? = some u := by
  simp only [cellsB, List.getElem?_map, List.getElem?_take] at h ⊢
  split at h
  · exact h
  · simp at h
/-- 'v[k:]' -/
theorem Bs.cut {w : World} {v : Value} {bs : List UInt8} (h : Bs w v bs) (k : Nat) (hk : k ≤ bs.length) : ∃ A c, (∀ w' : World, (Instr.slice 47 v (some (.int .i64 (k : Int))) none none).run Try.prog w' = .ok (.slice A (bs.length - k) c) w') ∧ (∀ w' : World, (Instr.sliceAt 47 v (some (.int .i64 (k : Int))) none none).run Try.prog w' = .ok (.slice A (bs.length - k) c) w') ∧
    Bs w (.slice A (bs.length - k) c) (bs.drop k) ∧ ∀ g, (Value.slice A (bs.length - k) c).ownBlock = some g → v.ownBlock = some g := by
  obtain ⟨⟨A, cap, rfl, hn, hc, hm, hr⟩, hl⟩ := h
  have hs : ∀ w' : World, (Instr.slice 47 (.slice A bs.length cap) (some (.int .i64 (k : Int))) none none).run Try.prog w' = .ok (.slice (if cap = k then A else A.map (·.add k)) (bs.length - k) (cap - k)) w' := fun w' => by
    rw [run_slice_l (P := Try.prog) (w := w') (t := 47) (a := A) (len := bs.length) (cap := cap) (by rw [elem47]; exact Try.underlying47) .i64 (k : Int) (by omega) (by omega), elem47, size5]
    simp [Result.andThen, sliced]
  refine ⟨_, _, hs, fun w' => ?_, ⟨⟨_, _, by rw [List.length_drop], fun e => ?_, by simp; omega, by omega, fun ad had => ?_⟩, by simp; omega⟩, fun g hg => ?_⟩
  · rw [run_sliceAt_slice (P := Try.prog) (w := w') (t := 47) (h := by rw [elem47]; exact Try.underlying47)]
    exact hs w'
  · by_cases e1 : cap = k
    · rw [if_pos e1] at e
      obtain ⟨rfl, rfl⟩ := hn e
      exact ⟨by simp, by omega⟩
    · rw [if_neg e1] at e
      cases A with
      | none => obtain ⟨rfl, rfl⟩ := hn rfl; exact ⟨by simp, by omega⟩
      | some a => simp at e
  · by_cases e1 : cap = k
    · have : bs.drop k = [] := List.drop_eq_nil_of_le (by omega)
      rw [this]
      exact ⟨fun h => absurd rfl h, fun j u hu => by simp [cellsB] at hu⟩
    · rw [if_neg e1] at had
      cases A with
      | none => simp at had
      | some a =>
        simp at had
        subst had
        obtain ⟨h1, h2⟩ := hr a rfl
        refine ⟨fun hne => by rw [block_of_add]; exact h1 (fun e => hne (by rw [e]; simp)), fun j u hu => ?_⟩
        rw [add_of_add]
        rw [cellsB_drop] at hu
        exact h2 _ u hu
  · by_cases e1 : cap = k
    · rw [if_pos e1] at hg
      cases A with
      | none => simp [Value.ownBlock] at hg
      | some a => simpa [Value.ownBlock] using hg
    · rw [if_neg e1] at hg
      cases A with
      | none => simp [Value.ownBlock] at hg
      | some a => simpa [Value.ownBlock, block_of_add] using hg
/-- 'v[:k]' -/
theorem Bs.cutTo {w : World} {v : Value} {bs : List UInt8} (h : Bs w v bs) (k : Nat) (hk : k ≤ bs.length) : ∃ A c, (∀ w' : World, (Instr.slice 47 v none (some (.int .i64 (k : Int))) none).run Try.prog w' = .ok (.slice A k c) w') ∧ (∀ w' : World, (Instr.sliceAt 47 v none (some (.int .i64 (k : Int))) none).run Try.prog w' = .ok (.slice A k c) w') ∧
    Bs w (.slice A k c) (bs.take k) ∧ ∀ g, (Value.slice A k c).ownBlock = some g → v.ownBlock = some g := by
  obtain ⟨⟨A, cap, rfl, hn, hc, hm, hr⟩, hl⟩ := h
  have hs : ∀ w' : World, (Instr.slice 47 (.slice A bs.length cap) none (some (.int .i64 (k : Int))) none).run Try.prog w' = .ok (.slice A k cap) w' := fun w' => by
    rw [run_slice_h (P := Try.prog) (w := w') (t := 47) (a := A) (len := bs.length) (cap := cap) (by rw [elem47]; exact Try.underlying47) .i64 (k : Int) (by omega) (by omega), elem47, size5]
    simp [Result.andThen, sliced, Addr.add]
  refine ⟨_, _, hs, fun w' => ?_, ⟨⟨_, _, by rw [List.length_take, Nat.min_eq_left hk], fun e => ?_, by simp; omega, hm, fun ad had => ?_⟩, by simp; omega⟩, fun g hg => by
    cases A with
    | none => simp [Value.ownBlock] at hg
    | some a => simpa [Value.ownBlock] using hg⟩
  · rw [run_sliceAt_slice (P := Try.prog) (w := w') (t := 47) (h := by rw [elem47]; exact Try.underlying47)]
    exact hs w'
  · obtain ⟨rfl, rfl⟩ := hn e; exact ⟨by simp, rfl⟩
  · obtain ⟨h1, h2⟩ := hr ad had
    exact ⟨fun hne => h1 (fun e => hne (by rw [e]; simp)), fun j u hu => h2 j u (cellsB_take bs k j u hu)⟩

/-- which number bytes say: the number, what is left, the error -/
def numGo (most : Nat) : Nat → Nat → List UInt8 → Nat × List UInt8 × Int
  | _, _, [] => (0, [], 10)
  | i, acc, c :: r =>
    if i = 9 ∧ 1 < c.toNat then (0, [], 11)
    else if 127 < c.toNat then numGo most (i + 1) (acc + c.toNat % 128 * 128 ^ i) r
    else if (0 < i ∧ c.toNat = 0) ∨ most < acc + c.toNat * 128 ^ i then (0, [], 11)
    else (acc + c.toNat * 128 ^ i, r, 0)
def numS (bs : List UInt8) (e : Int) (most : Nat) : Nat × List UInt8 × Int := if e = 0 then numGo most 0 0 bs else (0, bs, e)
end Go.Proofs.Ythgpkbhilkdckaa

/- The reader of codec: its place in memory; stuck, Fail, Err, Left, Done, Read. -/
namespace Go.Proofs.Ythgpkbhilkdckaa
open Go.RowKit
set_option linter.unusedVariables false

theorem Bs.ne_blk {w : World} {v : Value} {bs : List UInt8} {p : Nat} {t : TypeId} {cs : Array Value} (h : Bs w v bs) (hne : bs ≠ []) (hk : Blk w p t cs) (hc : ∀ (i : Nat) (x : Int), cs[i]? ≠ some (.int .u8 x)) : v.ownBlock ≠ some p := by
  obtain ⟨A, cap, rfl, _, _, hr⟩ := h.form
  have h0 : 0 < bs.length := List.length_pos_iff.2 hne
  obtain ⟨b, off, rfl, _, hx⟩ := hr h0
  intro e
  have : b = p := by simpa [Value.ownBlock] using e
  subst this
  have := hx 0 _ (List.getElem?_eq_getElem h0)
  rw [hk.cell] at this
  exact hc _ _ this
/-- the reader: the bytes ahead, the first error -/
def RdAt (own : Nat → Prop) (w : World) (p : Nat) (bs : List UInt8) (e : Int) : Prop :=
  ∃ (A : Option Addr) (c : Nat) (b0 : List UInt8), own p ∧ Blk w p 94 #[.slice A b0.length c, .int .i64 e, .bool true] ∧ Bs w (.slice A b0.length c) b0 ∧ (∀ g, (Value.slice A b0.length c).ownBlock = some g → b0 ≠ [] → own g) ∧ (e = 0 → b0 = bs) ∧ (e ≠ 0 → bs = [])
def aRd (p : Nat) (bs : List UInt8) (e : Int) : Asn where
  at_ own w := RdAt own w p bs e
  ext := fun ⟨A, c, b0, h1, h2, h3, h4, h5, h6⟩ hx hd => ⟨A, c, b0, h1, h2.ext hx (hd _ h1), h3.ext hx (fun g hg hne => hd g (h4 g hg hne)), h4, h5, h6⟩
  bound := fun ⟨A, c, b0, h1, h2, h3, h4, h5, h6⟩ => ⟨A, c, b0, ⟨h1, h2.lt⟩, h2, h3, fun g hg hne => ⟨h4 g hg hne, h3.lt hne hg⟩, h5, h6⟩
theorem rd_nou8 (A : Option Addr) (n c : Nat) (e : Int) (i : Nat) (x : Int) : (#[Value.slice A n c, .int .i64 e, .bool true] : Array Value)[i]? ≠ some (.int .u8 x) := by
  rcases i with _ | _ | _ | i <;> simp
section
variable {W w : World} {p : Nat} {bs : List UInt8} {e : Int} {L : List Asn}
theorem stuck122 {vb : Value} (h : Blk w p 94 #[vb, .int .i64 e, .bool true]) (b : Bool) (hb : (e != 0) = b) : Calls Try.prog 122 #[.pointer (some ⟨p, 0, none⟩)] w fun e' w' => e' = .returned (.bool b) ∧ w = w' := by
  have c1 := h.cell 1
  have c2 := h.cell 2
  simp at c1 c2
  clear h
  go_enter Try.func122, Try.ntmps122
  go_wp2
  go_ret
  exact ⟨by simp, rfl⟩
theorem stuck_b (e : Int) : ∃ b, (e != 0) = b := ⟨_, rfl⟩
/-- the error and the bytes behind 'Fail k' -/
def failE (e k : Int) : Int := if e = 0 then k else e
def failB (bs : List UInt8) (e k : Int) : List UInt8 := if e = 0 ∧ k = 0 then bs else []
set_option maxHeartbeats 400000 in
theorem St.fail84 (h : St W w (aRd p bs e :: L)) (k : Int) : Calls Try.prog 84 #[.pointer (some ⟨p, 0, none⟩), .int .i64 k] w fun e' w' => e' = .returned (.tuple #[]) ∧ St W w' (aRd p (failB bs e k) (failE e k) :: L) := by
  obtain ⟨own, hR, ho, hback⟩ := h.focus
  obtain ⟨A, c, b0, h1, h2, h3, h4, h5, h6⟩ := id hR
  by_cases he : e = 0
  · subst he
    obtain rfl := h5 rfl
    have HS := Lib.hid (stuck122 h2 false (by simp))
    have c1 := h2.cell 1
    have f1 := h2.frozen 1
    simp at c1
    have hx : Ext own w (w.setCell ⟨p, 1, none⟩ (.int .i64 k)) := (Ext.refl own w).set (p := ⟨p, 1, none⟩) (fun _ => h1) _
    have E := Lib.hid (show St W (w.setCell ⟨p, 1, none⟩ (.int .i64 k)) (aRd p (failB b0 0 k) (failE 0 k) :: L) from by
      refine hback _ (aRd p (failB b0 0 k) (failE 0 k)) hx ?_
      have hp : Ext (fun g => g = p) w (w.setCell ⟨p, 1, none⟩ (.int .i64 k)) := (Ext.refl (fun g => g = p) w).set (p := ⟨p, 1, none⟩) (fun _ => rfl) _
      refine ⟨A, c, b0, .inl h1, by simpa [failE] using h2.set_ 1 (.int .i64 k), h3.ext hp (fun g hg hne e => ?_), fun g hg hne => .inl (h4 g hg hne), fun e0 => ?_, fun e0 => ?_⟩
      · subst e; exact h3.ne_blk hne h2 (rd_nou8 _ _ _ _) hg
      · simp [failE] at e0; simp [failB, e0]
      · simp [failE] at e0; simp [failB, e0])
    clear hR h1 h2 h3 h4 h5 h6 ho hback hx h
    go_enter Try.func84, Try.ntmps84
    go_wp2_with (first | (go_at_call 122; (with_reducible refine HS.out.mono ?_); rintro e wn ⟨rfl, rfl⟩))
    go_end0
    exact ⟨rfl, E.out⟩
  · obtain rfl := h6 he
    have HS := Lib.hid (stuck122 h2 true (by simp [he]))
    have E := Lib.hid (show St W w (aRd p (failB [] e k) (failE e k) :: L) from by rw [show failB [] e k = [] by simp [failB], show failE e k = e by simp [failE, he]]; exact h)
    clear hR h1 h2 h3 h4 h5 h6 ho hback h he
    go_enter Try.func84, Try.ntmps84
    go_wp2_with (first | (go_at_call 122; (with_reducible refine HS.out.mono ?_); rintro e wn ⟨rfl, rfl⟩))
    go_end0
    exact ⟨rfl, E.out⟩
theorem St.err80 (h : St W w (aRd p bs e :: L)) : Calls Try.prog 80 #[.pointer (some ⟨p, 0, none⟩)] w fun e' w' => e' = .returned (.int .i64 e) ∧ w = w' := by
  obtain ⟨own, ⟨A, c, b0, h1, h2, h3, h4, h5, h6⟩, ho⟩ := h.get
  have c1 := h2.cell 1
  have c2 := h2.cell 2
  simp at c1 c2
  clear h h2 h3 h4 h5 h6
  go_enter Try.func80, Try.ntmps80
  go_wp2
  go_ret
  exact ⟨rfl, rfl⟩
theorem St.left81 (h : St W w (aRd p bs e :: L)) : Calls Try.prog 81 #[.pointer (some ⟨p, 0, none⟩)] w fun e' w' => e' = .returned (.int .i64 (bs.length : Int)) ∧ w = w' := by
  obtain ⟨own, ⟨A, c, b0, h1, h2, h3, h4, h5, h6⟩, ho⟩ := h.get
  by_cases he : e = 0
  · subst he
    obtain rfl := h5 rfl
    have HS := Lib.hid (stuck122 h2 false (by simp))
    have c1 := h2.cell 0
    simp at c1
    clear h h2 h3 h4 h5 h6
    go_enter Try.func81, Try.ntmps81
    go_wp2_with (first | (go_at_call 122; (with_reducible refine HS.out.mono ?_); rintro e wn ⟨rfl, rfl⟩))
    go_ret
    exact ⟨rfl, rfl⟩
  · obtain rfl := h6 he
    have HS := Lib.hid (stuck122 h2 true (by simp [he]))
    clear h h2 h3 h4 h5 h6 he
    go_enter Try.func81, Try.ntmps81
    go_wp2_with (first | (go_at_call 122; (with_reducible refine HS.out.mono ?_); rintro e wn ⟨rfl, rfl⟩))
    go_ret
    exact ⟨rfl, rfl⟩
def doneE (bs : List UInt8) (e : Int) : Int := if e ≠ 0 then e else if bs = [] then 0 else 12
theorem St.done82 (h : St W w (aRd p bs e :: L)) : Calls Try.prog 82 #[.pointer (some ⟨p, 0, none⟩)] w fun e' w' => e' = .returned (.int .i64 (doneE bs e)) ∧ w = w' := by
  have HS := Lib.hid h.err80
  obtain ⟨own, ⟨A, c, b0, h1, h2, h3, h4, h5, h6⟩, ho⟩ := h.get
  by_cases he : e = 0
  · subst he
    obtain rfl := h5 rfl
    have c1 := h2.cell 0
    simp at c1
    by_cases hb : b0 = []
    · subst hb
      have E := Lib.hid (show (0 : Int) = doneE [] 0 by simp [doneE])
      clear h h2 h3 h4 h5 h6
      go_enter Try.func82, Try.ntmps82
      go_wp2_with (first | (go_at_call 80; (with_reducible refine HS.out.mono ?_); rintro e wn ⟨rfl, rfl⟩))
      go_ret
      exact ⟨retI E.out, rfl⟩
    · have E := Lib.hid (show (12 : Int) = doneE b0 0 by simp [doneE, hb])
      have hl : (0 : Int) < b0.length := by have := List.length_pos_iff.2 hb; omega
      clear h h2 h3 h4 h5 h6 hb
      go_enter Try.func82, Try.ntmps82
      go_wp2_with (first | (go_at_call 80; (with_reducible refine HS.out.mono ?_); rintro e wn ⟨rfl, rfl⟩))
      go_ret
      exact ⟨retI E.out, rfl⟩
  · have E := Lib.hid (show e = doneE bs e by simp [doneE, he])
    have q1 : (e != 0) = true := by simp [he]
    clear h h2 h3 h4 h5 h6 he
    go_enter Try.func82, Try.ntmps82
    go_wp2_with (first | (go_at_call 80; (with_reducible refine HS.out.mono ?_); rintro e wn ⟨rfl, rfl⟩))
    go_ret
    exact ⟨retI E.out, rfl⟩
theorem St.read77 {v : Value} (h : St W w L) (hb : Bs w v bs) : Calls Try.prog 77 #[v] w fun e' w' => ∃ p, e' = .returned (.pointer (some ⟨p, 0, none⟩)) ∧ St W w' (aRd p bs 0 :: L) := by
  have H := Lib.hid (Go.Proofs.Ythgpkbhilkdckaa.clone63 hb)
  have HL := Lib.hid hb.len
  clear hb
  go_enter Try.func77, Try.ntmps77
  go_wp2_with (first | (go_at_call 63; (with_reducible refine H.out.mono ?_); rintro e w1 ⟨v1, rfl, r1, hb1⟩; obtain ⟨A1, c1, rfl⟩ := own_slice r1))
  go_ret
  refine ⟨w1.heap.size, rfl, h.add (hb1.trans (B.alloc' _ _)) (A := aRd w1.heap.size bs 0) (own := fun x => w.heap.size ≤ x) ?_ (fun x e => e)⟩
  exact ⟨A1, c1, bs, hb1.size, Blk.new w1 _ _, (Bs.of_own r1 HL.out).later (B.alloc' _ _), fun g hg _ => row_ge r1 hg, fun _ => rfl, fun h => absurd rfl h⟩
end
end Go.Proofs.Ythgpkbhilkdckaa

/- Num of codec's reader. -/
namespace Go.Proofs.Ythgpkbhilkdckaa
open Go.RowKit
set_option linter.unusedVariables false

theorem andB (y : Nat) (h : y < 256) : bits BinOp.and IntKind.u8 (y : Int) 127 = ((y % 128 : Nat) : Int) := by
  have h' : ∀ k : Fin 256, bits BinOp.and IntKind.u8 ((k.val : Int)) 127 = ((k.val % 128 : Nat) : Int) := by decide +kernel
  exact h' ⟨y, h⟩
theorem or64 (a e : Nat) (ha : a < 18446744073709551616) (he : e < 18446744073709551616) : bits BinOp.or IntKind.u64 (a : Int) (e : Int) = ((a ||| e : Nat) : Int) := by
  have hlt : a ||| e < 2 ^ 64 := Nat.or_lt_two_pow (by omega) (by omega)
  have e0 : bits BinOp.or IntKind.u64 (a : Int) (e : Int) = IntKind.u64.wrap (((BitVec.ofInt 64 (a : Int) ||| BitVec.ofInt 64 (e : Int)).toNat : Nat) : Int) := rfl
  have e1 : (BitVec.ofInt 64 (a : Int)) = BitVec.ofNat 64 a := by simp
  have e2 : (BitVec.ofInt 64 (e : Int)) = BitVec.ofNat 64 e := by simp
  rw [e0, e1, e2, BitVec.toNat_or, BitVec.toNat_ofNat, BitVec.toNat_ofNat, Nat.mod_eq_of_lt (show a < 2 ^ 64 by omega), Nat.mod_eq_of_lt (show e < 2 ^ 64 by omega)]
  exact u64_id (by omega)
/-- one digit more -/
theorem numStep (acc q y : Nat) (hy : y < 256) (hq : q ≤ 9) (ha : acc < 128 ^ q) : ∃ d e s : Nat, IntKind.u64.wrap (bits BinOp.and IntKind.u8 (y : Int) 127) = (d : Int) ∧ IntKind.u64.wrap ((d : Int) * 2 ^ (7 * q)) = (e : Int) ∧ bits BinOp.or IntKind.u64 (acc : Int) (e : Int) = (s : Int) ∧
    ((q < 9 ∨ y ≤ 1) → s = acc + y % 128 * 128 ^ q) := by
  have hp9 : 128 ^ q ≤ 9223372036854775808 := Nat.le_trans (Nat.pow_le_pow_right (by omega) hq) (by decide)
  have hpw : (2 : Nat) ^ (7 * q) = 128 ^ q := by rw [Nat.pow_mul]
  refine ⟨y % 128, y % 128 * 128 ^ q % 18446744073709551616, acc ||| (y % 128 * 128 ^ q % 18446744073709551616), ?_, ?_, ?_, ?_⟩
  · rw [andB y hy, u64_id (by omega)]
  · have : ((y % 128 : Nat) : Int) * 2 ^ (7 * q) = ((y % 128 * 128 ^ q : Nat) : Int) := by rw [← hpw]; push_cast; rfl
    rw [this]
    simp [IntKind.wrap, IntKind.signed, IntKind.bits]
  · exact or64 _ _ (by omega) (Nat.mod_lt _ (by omega))
  · intro h
    have hlt : y % 128 * 128 ^ q < 18446744073709551616 := by
      rcases h with h | h
      · have h8 : 128 ^ q ≤ 72057594037927936 := Nat.le_trans (Nat.pow_le_pow_right (by omega) (show q ≤ 8 by omega)) (by decide)
        have := Nat.mul_le_mul (show y % 128 ≤ 127 by omega) h8
        omega
      · have := Nat.mul_le_mul (show y % 128 ≤ 1 by omega) hp9
        omega
    have ha' : acc < 2 ^ (7 * q) := by rw [hpw]; exact ha
    rw [Nat.mod_eq_of_lt hlt, ← hpw, Nat.or_comm, Nat.mul_comm, ← Nat.two_pow_add_eq_or_of_lt ha', Nat.add_comm]
theorem acc_lt {acc q d : Nat} (ha : acc < 128 ^ q) (hd : d < 128) : acc + d * 128 ^ q < 128 ^ (q + 1) := by
  rw [Nat.pow_succ]
  have := Nat.mul_le_mul_right (128 ^ q) (show d ≤ 127 by omega)
  omega
theorem numGo_end (most i acc : Nat) : numGo most i acc [] = (0, [], 10) := rfl
theorem numGo_more {most i acc : Nat} {c : UInt8} {r : List UInt8} (h : 127 < c.toNat) (h9 : i ≠ 9) : numGo most i acc (c :: r) = numGo most (i + 1) (acc + c.toNat % 128 * 128 ^ i) r := by
  rw [numGo, if_neg (by omega), if_pos h]
theorem numGo_over {most i acc : Nat} {c : UInt8} {r : List UInt8} (h9 : i = 9) (h : 1 < c.toNat) : numGo most i acc (c :: r) = (0, [], 11) := by
  rw [numGo, if_pos ⟨h9, h⟩]
theorem numGo_bad {most i acc : Nat} {c : UInt8} {r : List UInt8} (h : c.toNat ≤ 127) (hb : (0 < i ∧ c.toNat = 0) ∨ most < acc + c.toNat * 128 ^ i) : numGo most i acc (c :: r) = (0, [], 11) := by
  rw [numGo]
  split
  · rfl
  · split
    · omega
    · rfl
theorem numGo_good {most i acc : Nat} {c : UInt8} {r : List UInt8} (h : c.toNat ≤ 127) (h9 : ¬ (i = 9 ∧ 1 < c.toNat)) (hb : ¬ ((0 < i ∧ c.toNat = 0) ∨ most < acc + c.toNat * 128 ^ i)) : numGo most i acc (c :: r) = (acc + c.toNat * 128 ^ i, r, 0) := by
  rw [numGo, if_neg h9, if_neg (by omega), if_neg hb]
section
variable {W w : World} {p : Nat} {bs : List UInt8} {e : Int} {L : List Asn}
/-- the bytes stored anew -/
theorem RdAt.store {own : Nat → Prop} {bs' : List UInt8} (hR : RdAt own w p bs 0) {A' : Option Addr} {n' c' : Nat} (hb : Bs w (.slice A' n' c') bs') (hn : n' = bs'.length) (ho : ∀ A c, w.cell? ⟨p, 0, none⟩ = some (.slice A bs.length c) → ∀ g, (Value.slice A' n' c').ownBlock = some g → (Value.slice A bs.length c).ownBlock = some g) (hne : bs' ≠ [] → bs ≠ []) :
    RdAt own (w.setCell ⟨p, 0, none⟩ (.slice A' n' c')) p bs' 0 ∧ Ext own w (w.setCell ⟨p, 0, none⟩ (.slice A' n' c')) := by
  subst hn
  obtain ⟨A, c, b0, h1, h2, h3, h4, h5, h6⟩ := hR
  obtain rfl := h5 rfl
  have hp : Ext (fun g => g = p) w (w.setCell ⟨p, 0, none⟩ (.slice A' bs'.length c')) := (Ext.refl (fun g => g = p) w).set (p := ⟨p, 0, none⟩) (fun _ => rfl) _
  have hc := ho A c (by rw [h2.cell]; rfl)
  refine ⟨⟨A', c', bs', h1, by simpa using h2.set_ 0 (.slice A' bs'.length c'), hb.ext hp (fun g hg hne' e => ?_), fun g hg hne' => h4 g (hc g hg) (hne hne'), fun _ => rfl, fun h => absurd rfl h⟩, (Ext.refl own w).set (p := ⟨p, 0, none⟩) (fun _ => h1) _⟩
  subst e
  exact h3.ne_blk (hne hne') h2 (rd_nou8 _ _ _ _) (hc _ hg)
/-- what Num answers -/
def NumPost (W : World) (p : Nat) (L : List Asn) (r : Nat × List UInt8 × Int) (e' : Ending) (w' : World) : Prop :=
  e' = .returned (.int .u64 (r.1 : Int)) ∧ St W w' (aRd p r.2.1 r.2.2 :: L)
set_option maxRecDepth 20000 in
set_option maxHeartbeats 4000000 in
theorem St.num85_ok (h : St W w (aRd p bs 0 :: L)) (most : Nat) : Calls Try.prog 85 #[.pointer (some ⟨p, 0, none⟩), .int .u64 (most : Int)] w (NumPost W p L (numGo most 0 0 bs)) := by
  have HH := Lib.hid h
  obtain ⟨own, hR, ho, hback⟩ := h.focus
  have HR := Lib.hid hR
  have HBK := Lib.hid hback
  obtain ⟨A, c, b0, h1, h2, h3, h4, h5, h6⟩ := id hR
  obtain rfl := h5 rfl
  have HS := Lib.hid (stuck122 h2 false (by simp))
  have H3 := Lib.hid h3
  have c0 := h2.cell 0
  simp at c0
  have f0 := h2.frozen 0
  have hbl : (b0.length : Int) ≤ 140737488355328 := by have := h3.len; unfold big at this; omega
  obtain ⟨A', cap', hv, _, _, hF⟩ := h3.form
  injection hv with e1 _ e2
  subst e1 e2
  have HF := Lib.hid hF
  have HC0 := Lib.hid c0
  have fail := fun (k : Int) (r : Nat × List UInt8 × Int) (hr : r = (0, [], k)) (hk : k ≠ 0) => (St.fail84 h k).mono (R' := fun e' w' => e' = .returned (.tuple #[]) ∧ NumPost W p L r (.returned (.int .u64 0)) w') fun e' w' ⟨he, hS⟩ => ⟨he, by subst hr; exact ⟨rfl, by simpa [failB, failE, hk] using hS⟩⟩
  have FAIL := Lib.hid fail
  clear hF h3 h4 h5 h6 h2 hback hR h ho fail
  go_enter Try.func85, Try.ntmps85
  go_wp2_with (first | (go_at_call 122; (with_reducible refine HS.out.mono ?_); rintro e wn ⟨rfl, rfl⟩))
  go_loop [5, 10] (fun n i => ∃ (q acc : Nat), i = .int .i64 (q : Int) ∧ n = .int .u64 (acc : Int) ∧ q ≤ 10 ∧ Hid (q < 10 → q ≤ b0.length ∧ acc < 128 ^ q ∧ numGo most 0 0 b0 = numGo most q acc (b0.drop q)) ∧ Hid (q = 10 → numGo most 0 0 b0 = (0, [], 11))) (fun _ i => 10 - (intOf i).toNat)
  case atStart => exact ⟨0, 0, rfl, rfl, by omega, fun _ => ⟨by omega, by simp, by simp⟩, fun h => by omega⟩
  case round =>
    obtain ⟨q, acc, rfl, rfl, hq, HA, HB⟩ := hrel
    by_cases hlt : q < 10
    · have hq10 : (q : Int) < 10 := by omega
      have HL := Lib.hid (HA.out hlt)
      by_cases hl : q < b0.length
      · obtain ⟨b, off, rfl, hb, hc⟩ := HF.out (by omega)
        have k1 := hc q _ (List.getElem?_eq_getElem hl)
        have hqi : (q : Int) < b0.length := by omega
        have HD := Lib.hid (List.drop_eq_getElem_cons hl)
        obtain ⟨y, hy, hy2⟩ : ∃ y : Nat, y = b0[q].toNat ∧ y < 256 := ⟨_, rfl, b0[q].toNat_lt⟩
        obtain ⟨d, ee, s, s1, s2, s3, s4⟩ := numStep acc q y hy2 (by omega) HL.out.2.1
        have S4 := Lib.hid s4
        rw [← hy] at k1
        have HY := Lib.hid hy
        clear hc hy s4
        by_cases hc : 127 < y
        · have hci : (127 : Int) < y := by omega
          go_wp2_with fail
          go_round
          case rel =>
            refine ⟨q + 1, s, by go_num, rfl, by omega, fun h10 => ⟨by omega, ?_, ?_⟩, fun h10 => ?_⟩
            · rw [S4.out (by omega)]; exact acc_lt HL.out.2.1 (by omega)
            · rw [HL.out.2.2, HD.out, numGo_more (by rw [← HY.out]; exact hc) (by omega), S4.out (by omega), HY.out]
            · rw [HL.out.2.2, HD.out, numGo_over (by omega) (by rw [← HY.out]; omega)]
          case measure => simp [intOf]; omega
        · have hci : ¬ (127 : Int) < y := by omega
          have hym : y % 128 = y := by omega
          have HBAD := Lib.hid (fun (hb : (0 < q ∧ y = 0) ∨ most < acc + y * 128 ^ q) => show numGo most 0 0 b0 = (0, [], 11) by rw [HL.out.2.2, HD.out, numGo_bad (by rw [← HY.out]; omega) (by rw [← HY.out]; exact hb)])
          have HOV := Lib.hid (fun (h9 : q = 9) (hb : 1 < y) => show numGo most 0 0 b0 = (0, [], 11) by rw [HL.out.2.2, HD.out, numGo_over h9 (by rw [← HY.out]; exact hb)])
          have HGOOD := Lib.hid (fun (h9 : ¬ (q = 9 ∧ 1 < y)) (hb : ¬ ((0 < q ∧ y = 0) ∨ most < acc + y * 128 ^ q)) => show numGo most 0 0 b0 = (acc + y * 128 ^ q, b0.drop (q + 1), 0) by rw [HL.out.2.2, HD.out, numGo_good (by rw [← HY.out]; omega) (by rw [← HY.out]; exact h9) (by rw [← HY.out]; exact hb), HY.out])
          have HFZ := f0
          obtain ⟨A', c', r1, r2, hb', ho'⟩ := H3.out.cut (q + 1) (by omega)
          have r1 : ∀ w' : World, (Instr.slice 47 (.slice (some ⟨b, off, none⟩) b0.length c) (some (.int .i64 ((q : Int) + 1))) none none).run Try.prog w' = .ok (.slice A' (b0.length - (q + 1)) c') w' := fun w' => by have := r1 w'; rwa [show ((q + 1 : Nat) : Int) = (q : Int) + 1 by omega] at this
          have r2 : ∀ w' : World, (Instr.sliceAt 47 (.slice (some ⟨b, off, none⟩) b0.length c) (some (.int .i64 ((q : Int) + 1))) none none).run Try.prog w' = .ok (.slice A' (b0.length - (q + 1)) c') w' := fun w' => by have := r2 w'; rwa [show ((q + 1 : Nat) : Int) = (q : Int) + 1 by omega] at this
          have GD0 : ∀ (h9 : ¬ (q = 9 ∧ 1 < y)) (hb : ¬ ((0 < q ∧ y = 0) ∨ most < acc + y * 128 ^ q)) (hs : s = acc + y * 128 ^ q), NumPost W p L (numGo most 0 0 b0) (.returned (.int .u64 (s : Int))) (w.setCell ⟨p, 0, none⟩ (.slice A' (b0.length - (q + 1)) c')) := by
            intro h9 hb hs
            rw [HGOOD.out h9 hb, hs]
            have hst := HR.out.store hb' (by simp) (fun A c hc g hg => by rw [HC0.out] at hc; injection hc with hc; rw [← hc]; exact ho' g hg) (fun _ e => by rw [e] at hl; simp at hl)
            exact ⟨rfl, HBK.out _ (aRd p (b0.drop (q + 1)) 0) hst.2 (by obtain ⟨A, c, b1, h1, h2, h3, h4, h5, h6⟩ := hst.1; exact ⟨A, c, b1, .inl h1, h2, h3, fun g hg hne => .inl (h4 g hg hne), h5, h6⟩)⟩
          have GD1 := Lib.hid GD0
          clear hb' ho' GD0
          by_cases hq0 : 0 < q
          · have f1 : (0 : Int) < q := by omega
            by_cases hy0 : y = 0
            · have f2 : ((y : Int) == 0) = true := by simp; omega
              have hb := Lib.hid (HBAD.out (.inl ⟨hq0, hy0⟩))
              clear hy0
              go_wp2_with (first | (go_at_call 84; (with_reducible refine (FAIL.out 11 _ (hb.out) (by decide)).mono ?_); rintro e w1 ⟨rfl, hN⟩))
              go_ret
              exact hN
            · have f2 : ((y : Int) == 0) = false := by simp; omega
              by_cases h9 : q = 9
              · have f3 : ((q : Int) == 9) = true := by simp; omega
                by_cases h1 : 1 < y
                · have f4 : (1 : Int) < y := by omega
                  have hb := Lib.hid (HOV.out h9 h1)
                  clear h9
                  go_wp2_with (first | (go_at_call 84; (with_reducible refine (FAIL.out 11 _ (hb.out) (by decide)).mono ?_); rintro e w1 ⟨rfl, hN⟩))
                  go_ret
                  exact hN
                · have f4 : ¬ (1 : Int) < y := by omega
                  have H9 := Lib.hid h9
                  clear h9
                  by_cases hm : most < s
                  · have hmi : (most : Int) < s := by have := H9.out; omega
                    have hb := Lib.hid (HBAD.out (.inr (by have := S4.out (by have := H9.out; omega); rw [hym] at this; have := H9.out; omega)))
                    go_wp2_with (first | (go_at_call 84; (with_reducible refine (FAIL.out 11 _ (hb.out) (by decide)).mono ?_); rintro e w1 ⟨rfl, hN⟩))
                    go_ret
                    exact hN
                  · have hmi : ¬ (most : Int) < s := by have := H9.out; omega
                    have hs := Lib.hid (S4.out (by have := H9.out; omega))
                    have E := Lib.hid (GD1.out (by have := H9.out; omega) (by have := hs.out; rw [hym] at this; have := H9.out; omega) (by have := hs.out; rw [hym] at this; exact this))
                    go_wp2_with fail
                    go_ret
                    exact E.out
              · have f3 : ((q : Int) == 9) = false := by simp; omega
                by_cases hm : most < s
                · have hmi : (most : Int) < s := by omega
                  have hb := Lib.hid (HBAD.out (.inr (by have := S4.out (by omega); rw [hym] at this; omega)))
                  go_wp2_with (first | (go_at_call 84; (with_reducible refine (FAIL.out 11 _ (hb.out) (by decide)).mono ?_); rintro e w1 ⟨rfl, hN⟩))
                  go_ret
                  exact hN
                · have hmi : ¬ (most : Int) < s := by omega
                  have hs := Lib.hid (S4.out (by omega))
                  have E := Lib.hid (GD1.out (by omega) (by have := hs.out; rw [hym] at this; omega) (by have := hs.out; rw [hym] at this; exact this))
                  go_wp2_with fail
                  go_ret
                  exact E.out
          · have f1 : ¬ (0 : Int) < q := by omega
            have f3 : ((q : Int) == 9) = false := by simp; omega
            by_cases hm : most < s
            · have hmi : (most : Int) < s := by omega
              have hb := Lib.hid (HBAD.out (.inr (by have := S4.out (by omega); rw [hym] at this; omega)))
              go_wp2_with (first | (go_at_call 84; (with_reducible refine (FAIL.out 11 _ (hb.out) (by decide)).mono ?_); rintro e w1 ⟨rfl, hN⟩))
              go_ret
              exact hN
            · have hmi : ¬ (most : Int) < s := by omega
              have hs := Lib.hid (S4.out (by omega))
              have E := Lib.hid (GD1.out (by omega) (by have := hs.out; rw [hym] at this; omega) (by have := hs.out; rw [hym] at this; exact this))
              go_wp2_with fail
              go_ret
              exact E.out
      · have hqi : ¬ (q : Int) < b0.length := by omega
        have hb := Lib.hid (show numGo most 0 0 b0 = (0, [], 10) by rw [HL.out.2.2, List.drop_eq_nil_of_le (by omega)]; rfl)
        go_wp2_with (first | (go_at_call 84; (with_reducible refine (FAIL.out 10 _ hb.out (by decide)).mono ?_); rintro e w1 ⟨rfl, hN⟩))
        go_ret
        exact hN
    · have hqi : ¬ (q : Int) < 10 := by omega
      have hb := Lib.hid (HB.out (by omega))
      go_wp2_with (first | (go_at_call 84; (with_reducible refine (FAIL.out 11 _ hb.out (by decide)).mono ?_); rintro e w1 ⟨rfl, hN⟩))
      go_ret
      exact hN
end
end Go.Proofs.Ythgpkbhilkdckaa

/- Take, Bytes of codec's reader. -/
namespace Go.Proofs.Ythgpkbhilkdckaa
open Go.RowKit
set_option linter.unusedVariables false

def takeS (bs : List UInt8) (e n : Int) : List UInt8 × List UInt8 × Int :=
  if e ≠ 0 then ([], [], e) else if n < 0 then ([], [], 1) else if (bs.length : Int) < n then ([], [], 10) else (bs.take n.toNat, bs.drop n.toNat, 0)
def aBy (v : Value) (bs : List UInt8) : Asn := aRow 5 1 v bs.length (cellsB bs)
theorem aBy.nil {W w : World} {L : List Asn} (h : St W w L) : St W w (aBy (.slice none 0 0) [] :: L) :=
  h.add (Below.refl _ _) (A := aBy (.slice none 0 0) []) (own := fun _ => False) ⟨ownNil _ _ _ _, fun g hg => by simp [Value.ownBlock] at hg⟩ (fun x e => e.elim)
section
variable {W w : World} {p : Nat} {bs : List UInt8} {e : Int} {L : List Asn}
theorem St.rdE (h : St W w (aRd p bs e :: L)) (he : e ≠ 0) : bs = [] := by
  obtain ⟨own, ⟨A, c, b0, h1, h2, h3, h4, h5, h6⟩, ho⟩ := h.get
  exact h6 he
theorem St.stuck122 (h : St W w (aRd p bs e :: L)) (b : Bool) (hb : (e != 0) = b) : Calls Try.prog 122 #[.pointer (some ⟨p, 0, none⟩)] w fun e' w' => e' = .returned (.bool b) ∧ w = w' := by
  obtain ⟨own, ⟨A, c, b0, h1, h2, h3, h4, h5, h6⟩, ho⟩ := h.get
  exact Go.Proofs.Ythgpkbhilkdckaa.stuck122 h2 b hb
def TakePost (W : World) (p : Nat) (L : List Asn) (r : List UInt8 × List UInt8 × Int) (e' : Ending) (w' : World) : Prop :=
  ∃ v, e' = .returned v ∧ St W w' (aBy v r.1 :: aRd p r.2.1 r.2.2 :: L)
set_option maxHeartbeats 2000000 in
theorem St.take86_stuck (h : St W w (aRd p bs e :: L)) (he : e ≠ 0) (n : Int) : Calls Try.prog 86 #[.pointer (some ⟨p, 0, none⟩), .int .i64 n] w (TakePost W p L (takeS bs e n)) := by
  obtain rfl := h.rdE he
  have H := Lib.hid h
  have hf := (St.fail84 h 1)
  rw [show failB [] e 1 = [] by simp [failB], show failE e 1 = e by simp [failE, he]] at hf
  have HF := Lib.hid hf
  have HS := Lib.hid (fun w' (hS : St W w' (aRd p [] e :: L)) => St.stuck122 hS true (by simp [he]))
  have E := Lib.hid (fun w' (hS : St W w' (aRd p [] e :: L)) => show TakePost W p L (takeS [] e n) (.returned (.slice none 0 0)) w' from ⟨_, rfl, by simp only [takeS, if_pos he]; exact aBy.nil hS⟩)
  clear h hf he
  by_cases hn : n < 0
  · go_enter Try.func86, Try.ntmps86
    go_wp2_with (first
      | (go_at_call 84; (with_reducible refine HF.out.mono ?_); rintro e w1 ⟨rfl, hS⟩; have H1 := Lib.hid hS; clear hS)
      | (go_at_call 122; (with_reducible refine (HS.out _ H1.out).mono ?_); rintro e w1 ⟨rfl, rfl⟩))
    go_ret
    exact E.out _ H1.out
  · go_enter Try.func86, Try.ntmps86
    go_wp2_with (first
      | (go_at_call 122; (with_reducible refine (HS.out _ H.out).mono ?_); rintro e w1 ⟨rfl, rfl⟩))
    go_ret
    exact E.out _ H.out
set_option maxHeartbeats 2000000 in
theorem St.take86_neg (h : St W w (aRd p bs 0 :: L)) (n : Int) (hn : n < 0) : Calls Try.prog 86 #[.pointer (some ⟨p, 0, none⟩), .int .i64 n] w (TakePost W p L (takeS bs 0 n)) := by
  have hf := (St.fail84 h 1)
  rw [show failB bs 0 1 = [] by simp [failB], show failE 0 1 = 1 by simp [failE]] at hf
  have HF := Lib.hid hf
  have HS := Lib.hid (fun w' (hS : St W w' (aRd p [] 1 :: L)) => St.stuck122 hS true (by simp))
  have E := Lib.hid (fun w' (hS : St W w' (aRd p [] 1 :: L)) => show TakePost W p L (takeS bs 0 n) (.returned (.slice none 0 0)) w' from ⟨_, rfl, by simp only [takeS, if_pos hn]; exact aBy.nil hS⟩)
  clear h hf
  go_enter Try.func86, Try.ntmps86
  go_wp2_with (first
    | (go_at_call 84; (with_reducible refine HF.out.mono ?_); rintro e w1 ⟨rfl, hS⟩; have H1 := Lib.hid hS; clear hS)
    | (go_at_call 122; (with_reducible refine (HS.out _ H1.out).mono ?_); rintro e w1 ⟨rfl, rfl⟩))
  go_ret
  exact E.out _ H1.out
set_option maxHeartbeats 2000000 in
theorem St.take86_cut (h : St W w (aRd p bs 0 :: L)) (n : Int) (hn : ¬ n < 0) (hl : (bs.length : Int) < n) : Calls Try.prog 86 #[.pointer (some ⟨p, 0, none⟩), .int .i64 n] w (TakePost W p L (takeS bs 0 n)) := by
  have hf := (St.fail84 h 10)
  rw [show failB bs 0 10 = [] by simp [failB], show failE 0 10 = 10 by simp [failE]] at hf
  have HF := Lib.hid hf
  have HS0 := Lib.hid (St.stuck122 h false (by simp))
  have HS := Lib.hid (fun w' (hS : St W w' (aRd p [] 10 :: L)) => St.stuck122 hS true (by simp))
  have E := Lib.hid (fun w' (hS : St W w' (aRd p [] 10 :: L)) => show TakePost W p L (takeS bs 0 n) (.returned (.slice none 0 0)) w' from ⟨_, rfl, by simp only [takeS, if_neg hn, if_pos hl]; exact aBy.nil hS⟩)
  obtain ⟨own, ⟨A, c, b0, h1, h2, h3, h4, h5, h6⟩, ho⟩ := h.get
  obtain rfl := h5 rfl
  have c0 := h2.cell 0
  simp at c0
  clear h hf h1 h2 h3 h4 h5 h6 ho
  go_enter Try.func86, Try.ntmps86
  go_wp2_with (first
    | (go_at_call 84; (with_reducible refine HF.out.mono ?_); rintro e w1 ⟨rfl, hS⟩; have H1 := Lib.hid hS; clear hS)
    | (go_at_call 122; (with_reducible refine HS0.out.mono ?_); rintro e w1 ⟨rfl, rfl⟩)
    | (go_at_call 122; (with_reducible refine (HS.out _ H1.out).mono ?_); rintro e w1 ⟨rfl, rfl⟩))
  go_ret
  exact E.out _ H1.out
theorem RdAt.inl {own own' : Nat → Prop} (h : RdAt own w p bs e) : RdAt (fun x => own x ∨ own' x) w p bs e := by
  obtain ⟨A, c, b1, h1, h2, h3, h4, h5, h6⟩ := h
  exact ⟨A, c, b1, .inl h1, h2, h3, fun g hg hne => .inl (h4 g hg hne), h5, h6⟩
/-- the bytes stored anew, over St -/
theorem St.rdStore (h : St W w (aRd p bs 0 :: L)) {bs' : List UInt8} {A' : Option Addr} {n' c' : Nat} (hb : Bs w (.slice A' n' c') bs') (hn : n' = bs'.length) (ho : ∀ A c, w.cell? ⟨p, 0, none⟩ = some (.slice A bs.length c) → ∀ g, (Value.slice A' n' c').ownBlock = some g → (Value.slice A bs.length c).ownBlock = some g) (hne : bs' ≠ [] → bs ≠ []) :
    St W (w.setCell ⟨p, 0, none⟩ (.slice A' n' c')) (aRd p bs' 0 :: L) := by
  obtain ⟨own, hR, ho', hback⟩ := h.focus
  have hst := RdAt.store hR hb hn ho hne
  exact hback _ (aRd p bs' 0) hst.2 hst.1.inl
set_option maxHeartbeats 2000000 in
theorem St.take86_ok (h : St W w (aRd p bs 0 :: L)) (n : Nat) (hl : n ≤ bs.length) : Calls Try.prog 86 #[.pointer (some ⟨p, 0, none⟩), .int .i64 (n : Int)] w (TakePost W p L (takeS bs 0 n)) := by
  have HH := Lib.hid h
  have HS0 := Lib.hid (St.stuck122 h false (by simp))
  obtain ⟨own, ⟨A, c, b0, h1, h2, h3, h4, h5, h6⟩, ho⟩ := h.get
  obtain rfl := h5 rfl
  have c0 := h2.cell 0
  simp at c0
  have f0 := h2.frozen 0
  obtain ⟨A1, c1, r1, r2, hb1, ho1⟩ := h3.cutTo n hl
  obtain ⟨A2, c2, r3, r4, hb2, ho2⟩ := h3.cut n hl
  have HC := Lib.hid (Go.Proofs.Ythgpkbhilkdckaa.clone63 hb1)
  have HB2 := Lib.hid hb2
  have HO2 := Lib.hid ho2
  have C0 := Lib.hid c0
  have F0 := Lib.hid f0
  have HP := Lib.hid (World.block_lt_of_cell? w _ c0)
  have hnl : (n : Int) ≤ b0.length := by omega
  have htl : (b0.take n).length = n := by simp; omega
  have HTL := Lib.hid htl
  have TE := Lib.hid (show takeS b0 0 n = (b0.take n, b0.drop n, 0) by unfold takeS; rw [if_neg (by simp), if_neg (by omega), if_neg (by omega)]; simp)
  clear h h1 h2 h3 h4 h5 h6 ho hb1 hb2 ho1 ho2 htl
  go_enter Try.func86, Try.ntmps86
  go_wp2_with (first
    | (go_at_call 122; (with_reducible refine HS0.out.mono ?_); rintro e w1 ⟨rfl, rfl⟩)
    | (go_at_call 63; (with_reducible refine HC.out.mono ?_); rintro e w1 ⟨v1, rfl, hr1, hb1⟩; have c01 := hb1.cell C0.out; have f01 := (Below.frozen hb1 HP.out).trans F0.out; have R1 := Lib.hid hr1; have B1 := Lib.hid hb1; clear c0 f0 hr1 hb1))
  go_ret
  refine ⟨v1, rfl, ?_⟩
  rw [TE.out]
  exact St.swap ((HH.out.addRow B1.out R1.out).swap.rdStore (HB2.out.later B1.out) (by simp) (fun A c hc g hg => by rw [B1.out.cell C0.out] at hc; injection hc with hc; rw [← hc]; exact HO2.out g hg) (fun hne e => hne (by rw [e]; simp)))
theorem St.take86 (h : St W w (aRd p bs e :: L)) (n : Int) (hn : -9223372036854775808 ≤ n ∧ n ≤ 9223372036854775807) : Calls Try.prog 86 #[.pointer (some ⟨p, 0, none⟩), .int .i64 n] w (TakePost W p L (takeS bs e n)) := by
  by_cases he : e = 0
  · subst he
    by_cases h0 : n < 0
    · exact h.take86_neg n h0
    · by_cases hl : (bs.length : Int) < n
      · exact h.take86_cut n h0 hl
      · obtain ⟨k, hk⟩ := Int.eq_ofNat_of_zero_le (show 0 ≤ n by omega)
        subst hk
        exact h.take86_ok k (by omega)
  · exact h.take86_stuck he n
/-- Num, in whatever state -/
theorem St.num85 (h : St W w (aRd p bs e :: L)) (most : Nat) : Calls Try.prog 85 #[.pointer (some ⟨p, 0, none⟩), .int .u64 (most : Int)] w (NumPost W p L (numS bs e most)) := by
  by_cases he : e = 0
  · subst he
    unfold numS
    rw [if_pos rfl]
    exact h.num85_ok most
  · have hs := Lib.hid (h.stuck122 true (by simp [he]))
    have E := Lib.hid (show NumPost W p L (numS bs e most) (.returned (.int .u64 0)) w from by unfold numS; rw [if_neg he]; exact ⟨rfl, h⟩)
    clear h he
    go_enter Try.func85, Try.ntmps85
    go_wp2_with (first | (go_at_call 122; (with_reducible refine hs.out.mono ?_); rintro e w1 ⟨rfl, rfl⟩))
    go_ret
    exact E.out
/-- the number is at most what was asked -/
theorem numGo_le (most : Nat) : ∀ (bs : List UInt8) (i acc : Nat), (numGo most i acc bs).1 ≤ most
  | [], _, _ => Nat.zero_le _
  | c :: r, i, acc => by
    unfold numGo
    split
    · exact Nat.zero_le _
    · split
      · exact numGo_le most r _ _
      · split
        · exact Nat.zero_le _
        · rename_i h; show acc + c.toNat * 128 ^ i ≤ most; omega
theorem numS_le (bs : List UInt8) (e : Int) (most : Nat) : (numS bs e most).1 ≤ most := by
  unfold numS; split
  · exact numGo_le _ _ _ _
  · exact Nat.zero_le _
def mostN (m : Int) : Nat := m.toNat
def bytesS (bs : List UInt8) (e m : Int) : List UInt8 × List UInt8 × Int :=
  let r := numS bs e m.toNat
  takeS r.2.1 r.2.2 (r.1 : Int)
set_option maxHeartbeats 2000000 in
theorem St.bytes87 (h : St W w (aRd p bs e :: L)) (m : Int) (hm : m ≤ 9223372036854775807) : Calls Try.prog 87 #[.pointer (some ⟨p, 0, none⟩), .int .i64 m] w (TakePost W p L (bytesS bs e m)) := by
  have HN := Lib.hid (h.num85 m.toNat)
  have HL := numS_le bs e m.toNat
  have hq : m.toNat ≤ 9223372036854775807 := by omega
  have hv : (numS bs e m.toNat).1 ≤ 9223372036854775807 := by omega
  have HT := Lib.hid (fun w' (hS : St W w' (aRd p (numS bs e m.toNat).2.1 (numS bs e m.toNat).2.2 :: L)) => hS.take86 ((numS bs e m.toNat).1 : Int) (by omega))
  rw [show bytesS bs e m = takeS (numS bs e m.toNat).2.1 (numS bs e m.toNat).2.2 ((numS bs e m.toNat).1 : Int) from rfl]
  generalize numS bs e m.toNat = r at *
  obtain ⟨v, b1, e1⟩ := r
  simp only at hv HL HT
  have hv3 : IntKind.i64.wrap (v : Int) = (v : Int) := by simp [IntKind.wrap, IntKind.signed, IntKind.bits]; omega
  by_cases h0 : 0 < m
  · obtain ⟨k, hk⟩ := Int.eq_ofNat_of_zero_le (show 0 ≤ m by omega)
    subst hk
    simp only [Int.toNat_natCast] at HN hq
    have hv2 : IntKind.u64.wrap (k : Int) = (k : Int) := u64_id (by omega)
    have hk9 : (k : Int) ≤ 9223372036854775807 := by omega
    have hm0 : (0 : Int) < k := h0
    clear h HL hq hm
    go_enter Try.func87, Try.ntmps87
    go_wp2_with (first
      | (go_at_call 85; (with_reducible refine HN.out.mono ?_); rintro e w1 ⟨rfl, hS⟩; have H1 := Lib.hid hS; clear hS)
      | (go_at_call 86; (with_reducible refine (HT.out _ H1.out).mono ?_); rintro e w1 ⟨v2, rfl, hS⟩; have H2 := Lib.hid hS; clear hS))
    all_goals
      go_ret
      exact ⟨_, rfl, H2.out⟩
  · have hm0 : ¬ 0 < m := by omega
    have hv2 : IntKind.u64.wrap 0 = 0 := by decide
    rw [show m.toNat = 0 by omega] at HN
    have HN' := Lib.hid (show Calls Try.prog 85 #[.pointer (some ⟨p, 0, none⟩), .int .u64 0] w _ from HN.out)
    clear h HL hq hm h0 HN
    go_enter Try.func87, Try.ntmps87
    go_wp2_with (first
      | (go_at_call 85; (with_reducible refine HN'.out.mono ?_); rintro e w1 ⟨rfl, hS⟩; have H1 := Lib.hid hS; clear hS)
      | (go_at_call 86; (with_reducible refine (HT.out _ H1.out).mono ?_); rintro e w1 ⟨v2, rfl, hS⟩; have H2 := Lib.hid hS; clear hS))
    all_goals
      go_ret
      exact ⟨_, rfl, H2.out⟩
end
end Go.Proofs.Ythgpkbhilkdckaa

/- List of codec's reader; rows of byte slices appended to. -/
namespace Go.Proofs.Ythgpkbhilkdckaa
open Go.RowKit
set_option linter.unusedVariables false

/-- two objects as one -/
def aSep (A C : Asn) : Asn where
  at_ own w := ∃ o1 o2 : Nat → Prop, (∀ x, o1 x → own x) ∧ (∀ x, o2 x → own x) ∧ (∀ x, o1 x → ¬ o2 x) ∧ A.at_ o1 w ∧ C.at_ o2 w
  ext := fun ⟨o1, o2, h1, h2, h3, h4, h5⟩ hx hd => ⟨o1, o2, h1, h2, h3, A.ext h4 hx (fun b hb => hd b (h1 b hb)), C.ext h5 hx (fun b hb => hd b (h2 b hb))⟩
  bound := fun ⟨o1, o2, h1, h2, h3, h4, h5⟩ => ⟨_, _, fun x hx => ⟨h1 x hx.1, hx.2⟩, fun x hx => ⟨h2 x hx.1, hx.2⟩, fun x hx hy => h3 x hx.1 hy.1, A.bound h4, C.bound h5⟩
theorem St.merge {W w : World} {A C : Asn} {L : List Asn} (h : St W w (A :: C :: L)) : St W w (aSep A C :: L) := by
  obtain ⟨hb, o1, h1, h2, o2, h3, h4, h5⟩ := h
  refine ⟨hb, fun x => o1 x ∨ o2 x, fun b hb' => ?_, ⟨o1, o2, fun _ => .inl, fun _ => .inr, fun x hx hy => (h3 x hy).1.2 hx, h2, h4⟩, h5.mono (fun b _ hb' => ⟨hb'.1.1, fun e => e.elim hb'.1.2 hb'.2⟩)⟩
  rcases hb' with e | e
  · exact h1 b e
  · exact ⟨(h3 b e).1.1, (h3 b e).2⟩
theorem St.unmerge {W w : World} {A C : Asn} {L : List Asn} (h : St W w (aSep A C :: L)) : St W w (A :: C :: L) := by
  obtain ⟨hb, own, h1, ⟨o1, o2, k1, k2, k3, k4, k5⟩, h3⟩ := h
  exact ⟨hb, o1, fun b hb' => h1 b (k1 b hb'), k4, o2, fun b hb' => ⟨⟨(h1 b (k2 b hb')).1, fun e => k3 b e hb'⟩, (h1 b (k2 b hb')).2⟩, k5, h3.mono (fun b _ hb' => ⟨⟨hb'.1, fun e => hb'.2 (k1 b e)⟩, fun e => hb'.2 (k2 b e)⟩)⟩
theorem aPl.nil {W w : World} {L : List Asn} (h : St W w L) : St W w (aPl (.slice none 0 0) [] :: L) :=
  h.add (Below.refl _ _) (A := aPl (.slice none 0 0) []) (own := fun _ => False) ⟨[], ⟨ownNil _ _ _ _, fun g hg => by simp [Value.ownBlock] at hg⟩, Els.nil _ _⟩ (fun x e => e.elim)
theorem aPl.slice {W w : World} {v : Value} {M : List (List UInt8)} {L : List Asn} (h : St W w (aPl v M :: L)) : ∃ A c, v = .slice A M.length c := by
  obtain ⟨own, ⟨vs, ⟨h1, h2⟩, h3⟩, ho⟩ := h.get
  exact own_slice h1
/-- 'append(l, x)': a byte slice of its own goes over to the rows -/
theorem St.plAppend {W w : World} {L : List Asn} {x v : Value} {b : List UInt8} {M : List (List UInt8)} {ty : TypeId} (h : St W w (aPl v M :: aBy x b :: L)) (hb : b.length ≤ big) (hl : M.length + 1 ≤ 1099511627776) :
    ∃ A c w', (Builtin.append_ #[46, 46] ty #[v, .slice (some ⟨w.heap.size, 0, none⟩) 1 1]).run Try.prog (w.alloc (.cells #[x] 47)) = .ok (.slice A (M.length + 1) c) w' ∧ St W w' (aPl (.slice A (M.length + 1) c) (M ++ [b]) :: L) := by
  obtain ⟨own, ⟨o1, o2, k1, k2, k3, ⟨vs, ⟨h1, h2⟩, h3⟩, ⟨h4, h5⟩⟩, ho, hback⟩ := h.merge.focus
  obtain ⟨Ax, cx, rfl⟩ := own_slice h4
  have hBa := B.alloc' w (.cells #[.slice Ax b.length cx] 47)
  have hq1 := row_later h1 hBa
  obtain ⟨v', w', hrun, r4, x4, y4⟩ := append_Rd (P := Try.prog) (t := 46) (ty := ty) Try.underlying46 info47 rfl Nat.zero_lt_one hq1 (Rd.one w (.slice Ax b.length cx) 47) (by simp [Value.oneCell']) (by unfold maxLen; omega) (by omega) (Nat.zero_le _)
  obtain ⟨A, c, rfl⟩ := own_slice r4
  refine ⟨A, c, w', hrun, ?_⟩
  have hgx : Ext (fun g => some g = v.ownBlock) (w.alloc (.cells #[.slice Ax b.length cx] 47)) w' := (Ext.refl _ _).grown x4 (fun g e _ => e.symm)
  have f7 := (h3.later hBa).ext hgx (fun g cs _ hB' e => row_ne hq1 hB' (by decide) e.symm)
  have q2 := row_later h4 hBa
  have q3 := row_ext q2 hgx (fun g hg e => row_row hq1 q2 (by decide) e.symm hg)
  have f8 := (f7.mono (own' := fun x => own x ∨ w.heap.size ≤ x) (fun g hg => .inl (k1 g hg))).snoc q3 hb (fun g hg => .inl (k2 g (h5 g hg)))
  refine hback w' (aPl (.slice A (M.length + 1) c) (M ++ [b])) ((Ext.of_B hBa).grown x4 (fun g e _ => k1 g (h2 g e))) ⟨_, ⟨by rw [List.length_append]; exact r4, fun g hg => ?_⟩, f8⟩
  rcases y4 with e | e
  · exact .inl (k1 g (h2 g (by rw [← e, hg])))
  · right; rw [e] at hg; injection hg with hg; simp at hg; omega

def listGo (each : Int) : Nat → List UInt8 → Int → List (List UInt8) → List (List UInt8) × List UInt8 × Int
  | 0, bs, e, acc => (acc, bs, e)
  | n + 1, bs, e, acc => let r := bytesS bs e each; if r.2.2 ≠ 0 then ([], r.2.1, r.2.2) else listGo each n r.2.1 r.2.2 (acc ++ [r.1])
def listS (bs : List UInt8) (e most each : Int) : List (List UInt8) × List UInt8 × Int :=
  let r := numS bs e most.toNat
  listGo each r.1 r.2.1 r.2.2 []
theorem takeS_len (bs : List UInt8) (e n : Int) : (takeS bs e n).2.1.length + (takeS bs e n).1.length ≤ bs.length := by
  unfold takeS
  split
  · simp
  · split
    · simp
    · split
      · simp
      · simp; omega
theorem numGo_len (most : Nat) : ∀ (bs : List UInt8) (i acc : Nat), (numGo most i acc bs).2.1.length ≤ bs.length ∧ ((numGo most i acc bs).2.2 = 0 → (numGo most i acc bs).2.1.length < bs.length)
  | [], _, _ => ⟨by simp [numGo], by simp [numGo]⟩
  | c :: r, i, acc => by
    have ih := numGo_len most r (i + 1) (acc + c.toNat % 128 * 128 ^ i)
    unfold numGo
    split
    · simp
    · split
      · exact ⟨by simp; omega, fun h => by have := ih.2 h; simp; omega⟩
      · split
        · simp
        · simp
theorem bytesS_len (bs : List UInt8) (m : Int) (h : (bytesS bs 0 m).2.2 = 0) : (bytesS bs 0 m).2.1.length + 1 ≤ bs.length := by
  unfold bytesS at h ⊢
  have h1 := numGo_len m.toNat bs 0 0
  simp only [numS, if_pos] at h ⊢
  generalize numGo m.toNat 0 0 bs = r at *
  have h2 := takeS_len r.2.1 r.2.2 (r.1 : Int)
  have : r.2.2 = 0 := by
    by_cases e : r.2.2 = 0
    · exact e
    · simp [takeS, e] at h
  have := h1.2 this
  omega
section
variable {W w : World} {p : Nat} {bs : List UInt8} {e : Int} {L : List Asn}
def ListPost (W : World) (p : Nat) (L : List Asn) (r : List (List UInt8) × List UInt8 × Int) (e' : Ending) (w' : World) : Prop :=
  ∃ v, e' = .returned v ∧ St W w' (aPl v r.1 :: aRd p r.2.1 r.2.2 :: L)
end
end Go.Proofs.Ythgpkbhilkdckaa

/- List of codec's reader. -/
namespace Go.Proofs.Ythgpkbhilkdckaa
open Go.RowKit
set_option linter.unusedVariables false

theorem numGo_pos (most : Nat) : ∀ (bs : List UInt8) (i acc : Nat), (numGo most i acc bs).2.2 ≠ 0 → (numGo most i acc bs).1 = 0
  | [], _, _ => fun _ => rfl
  | c :: r, i, acc => by
    have ih := numGo_pos most r (i + 1) (acc + c.toNat % 128 * 128 ^ i)
    unfold numGo
    split
    · simp
    · split
      · exact ih
      · split
        · simp
        · simp
theorem numS_pos (bs : List UInt8) (e : Int) (most : Nat) (h : 0 < (numS bs e most).1) : (numS bs e most).2.2 = 0 := by
  unfold numS at h ⊢
  by_cases he : e = 0
  · rw [if_pos he] at h ⊢
    by_cases h2 : (numGo most 0 0 bs).2.2 = 0
    · exact h2
    · have := numGo_pos most bs 0 0 h2; omega
  · rw [if_neg he] at h; simp at h
theorem numS_len (bs : List UInt8) (e : Int) (most : Nat) : (numS bs e most).2.1.length ≤ bs.length := by
  unfold numS; split
  · exact (numGo_len _ _ _ _).1
  · exact Nat.le_refl _
theorem bytesS_all (bs : List UInt8) (e m : Int) : (bytesS bs e m).2.1.length + (bytesS bs e m).1.length ≤ bs.length := by
  unfold bytesS
  exact Nat.le_trans (takeS_len _ _ _) (numS_len _ _ _)
section
variable {W w : World} {p : Nat} {bs : List UInt8} {e : Int} {L : List Asn}
set_option maxRecDepth 20000 in
set_option maxHeartbeats 4000000 in
theorem St.list88 (h : St W w (aRd p bs e :: L)) (most each : Int) (hm : most ≤ 9223372036854775807) (hea : each ≤ 9223372036854775807) (hbs : bs.length ≤ 1099511627775) :
    Calls Try.prog 88 #[.pointer (some ⟨p, 0, none⟩), .int .i64 most, .int .i64 each] w (ListPost W p L (listS bs e most each)) := by
  have HN := Lib.hid (h.num85 most.toNat)
  have HL := numS_le bs e most.toNat
  have hps := numS_pos bs e most.toNat
  have hln := numS_len bs e most.toNat
  have HEA := Lib.hid hea
  have HBS := Lib.hid hbs
  rw [show listS bs e most each = listGo each (numS bs e most.toNat).1 (numS bs e most.toNat).2.1 (numS bs e most.toNat).2.2 [] from rfl]
  generalize numS bs e most.toNat = r at *
  obtain ⟨n, b1, e1⟩ := r
  simp only at HL hps hln
  have HPS := Lib.hid hps
  have HLN := Lib.hid hln
  have hn : (n : Int) ≤ 9223372036854775807 := by omega
  clear hps hln hbs hea
  by_cases h0 : 0 < most
  case' pos =>
    obtain ⟨k, hk⟩ := Int.eq_ofNat_of_zero_le (show 0 ≤ most by omega)
    subst hk
    simp only [Int.toNat_natCast] at HN
    have hv2 : IntKind.u64.wrap (k : Int) = (k : Int) := u64_id (by omega)
    have hm0 : (0 : Int) < k := h0
    have HM := Lib.hid hm
    clear h HL h0 hm
  case' neg =>
    have hv2 : IntKind.u64.wrap 0 = 0 := by decide
    rw [show most.toNat = 0 by omega] at HN
    have HN := Lib.hid (show Calls Try.prog 85 #[.pointer (some ⟨p, 0, none⟩), .int .u64 0] w _ from HN.out)
    have HM := Lib.hid hm
    clear h HL hm
  all_goals
    go_enter Try.func88, Try.ntmps88
    go_wp2_with (first
      | (go_at_call 85; (with_reducible refine HN.out.mono ?_); rintro e w1 ⟨rfl, hS⟩; have H1 := Lib.hid (St.swap (aPl.nil hS)); clear hS))
    go_loopw [8, 16] (fun l i wr => ∃ (q : Nat) (acc : List (List UInt8)) (b2 : List UInt8) (e2 : Int), q ≤ n ∧ i = .int .u64 (q : Int) ∧ Hid (q < n → e2 = 0) ∧ Hid (listGo each (n - q) b2 e2 acc = listGo each n b1 e1 []) ∧ Hid (acc.length + b2.length ≤ bs.length) ∧ Hid (St W wr (aRd p b2 e2 :: aPl l acc :: L))) (fun _ i _ => n - (intOf i).toNat)
    case atStart => exact ⟨0, [], b1, e1, Nat.zero_le _, rfl, fun h => HPS.out h, rfl, by show _ ≤ _; simpa using HLN.out, H1.out⟩
    case round =>
      obtain ⟨q, acc, b2, e2, hq, rfl, HE, HG, HB, HS⟩ := hrel
      obtain ⟨Al, cl, hvl⟩ := aPl.slice HS.out.swap
      subst hvl
      by_cases hlt : q < n
      · have hqi : (q : Int) < n := by omega
        have he2 := HE.out hlt
        subst he2
        have hall := bytesS_all b2 0 each
        have hbl := bytesS_len b2 each
        have hw : IntKind.u64.wrap ((q : Int) + 1) = (q : Int) + 1 := u64_id (by omega)
        have hg : listGo each (n - q) b2 0 acc = (let r := bytesS b2 0 each; if r.2.2 ≠ 0 then ([], r.2.1, r.2.2) else listGo each (n - (q + 1)) r.2.1 r.2.2 (acc ++ [r.1])) := by
          rw [show n - q = (n - (q + 1)) + 1 by omega]; rfl
        have HT := Lib.hid (HS.out.bytes87 each HEA.out)
        generalize bytesS b2 0 each = r at *
        obtain ⟨x, b3, e3⟩ := r
        simp only at hall hbl hg
        have HALL := Lib.hid hall
        have HBL := Lib.hid hbl
        have HGG := Lib.hid (HG.out.symm.trans hg)
        clear hall hbl hg
        by_cases he3 : e3 = 0
        · subst he3
          have HGZ := Lib.hid (show listGo each n b1 e1 [] = listGo each (n - (q + 1)) b3 0 (acc ++ [x]) by rw [HGG.out]; simp)
          have hlen1 : acc.length + 1 ≤ 1099511627776 := by have := HB.out; have := HBS.out; omega
          have hxb : x.length ≤ big := by have := HALL.out; have := HB.out; have := HBS.out; unfold big; omega
          go_wp2_with (first
            | (go_at_call 87; (with_reducible refine HT.out.mono ?_); rintro e w2 ⟨v2, rfl, hS⟩; have HS2 := Lib.hid hS; obtain ⟨A3, c3, w3, hrun, hS3⟩ := St.plAppend (ty := 46) hS.rot3 hxb hlen1; have HS3 := Lib.hid hS3; obtain ⟨A4, c4, hv2'⟩ := hS.rowSlice; subst hv2'; clear hS hS3)
            | (go_at_call 122; (with_reducible refine (HS2.out.swap.stuck122 false (by simp)).mono ?_); rintro e w4 ⟨rfl, rfl⟩)
            | (at_builtin; refine wpList_append_run rfl (.tmp 23) (.tmp 25) 46 rfl rfl rfl hrun ?_))
          go_roundw
          case rel =>
            refine ⟨q + 1, acc ++ [x], b3, 0, by omega, by go_num, fun _ => rfl, HGZ.out.symm, ?_, HS3.out.swap⟩
            have h1 := HBL.out trivial
            have h2 := HB.out
            show (acc ++ [x]).length + b3.length ≤ _
            rw [List.length_append, List.length_singleton]; omega
          case measure => simp [intOf]; omega
        · have HGZ := Lib.hid (show listGo each n b1 e1 [] = ([], b3, e3) by rw [HGG.out]; simp [he3])
          have HE3 := Lib.hid he3
          clear he3
          go_wp2_with (first
            | (go_at_call 87; (with_reducible refine HT.out.mono ?_); rintro e w2 ⟨v2, rfl, hS⟩; have HS2 := Lib.hid hS; clear hS)
            | (go_at_call 122; (with_reducible refine (HS2.out.swap.stuck122 true (by have := HE3.out; simpa using this)).mono ?_); rintro e w4 ⟨rfl, rfl⟩))
          go_ret
          rw [HGZ.out]
          exact ⟨_, rfl, aPl.nil HS2.out.drop.drop2⟩
      · have hqi : ¬ (q : Int) < n := by omega
        have HGZ := Lib.hid (show listGo each n b1 e1 [] = (acc, b2, e2) by rw [← HG.out, show n - q = 0 by omega]; rfl)
        go_wp2_with fail
        go_ret
        rw [HGZ.out]
        exact ⟨_, rfl, HS.out.swap⟩
end
end Go.Proofs.Ythgpkbhilkdckaa

/- The reference's reader. -/
namespace Go.Proofs.Ythgpkbhilkdckaa
open Go.RowKit
set_option linter.unusedVariables false

/-- the reference's reader: its bytes lie in memory that was there at W -/
def RrAt (W : World) (own : Nat → Prop) (w : World) (p : Nat) (bs : List UInt8) (e : Int) : Prop :=
  ∃ (A : Option Addr) (c : Nat), own p ∧ Blk w p 91 #[.slice A bs.length c, .int .i64 e] ∧ Bs W (.slice A bs.length c) bs ∧ (e ≠ 0 → bs = [])
def aRr (W : World) (p : Nat) (bs : List UInt8) (e : Int) : Asn where
  at_ own w := RrAt W own w p bs e
  ext := fun ⟨A, c, h1, h2, h3, h4⟩ hx hd => ⟨A, c, h1, h2.ext hx (hd _ h1), h3, h4⟩
  bound := fun ⟨A, c, h1, h2, h3, h4⟩ => ⟨A, c, ⟨h1, h2.lt⟩, h2, h3, h4⟩
section
variable {W w : World} {p : Nat} {bs : List UInt8} {e : Int} {L : List Asn}
theorem St.rr (h : St W w (aRr W p bs e :: L)) : ∃ A c, w.cell? ⟨p, 0, none⟩ = some (.slice A bs.length c) ∧ w.cell? ⟨p, 1, none⟩ = some (.int .i64 e) ∧ (∀ i, w.frozen? ⟨p, i, none⟩ = false) ∧ Bs W (.slice A bs.length c) bs ∧ (e ≠ 0 → bs = []) := by
  obtain ⟨own, ⟨A, c, h1, h2, h3, h4⟩, ho⟩ := h.get
  exact ⟨A, c, by rw [h2.cell]; rfl, by rw [h2.cell]; rfl, h2.frozen, h3, h4⟩
theorem St.rrSet0 (h : St W w (aRr W p bs e :: L)) {A : Option Addr} {n c : Nat} {bs' : List UInt8} (hb : Bs W (.slice A n c) bs') (hn : n = bs'.length) (he : e ≠ 0 → bs' = []) : St W (w.setCell ⟨p, 0, none⟩ (.slice A n c)) (aRr W p bs' e :: L) := by
  subst hn
  obtain ⟨own, ⟨A0, c0, h1, h2, h3, h4⟩, ho, hback⟩ := h.focus
  exact hback _ (aRr W p bs' e) ((Ext.refl own w).set (p := ⟨p, 0, none⟩) (fun _ => h1) _) ⟨A, c, .inl h1, by simpa using h2.set_ 0 (.slice A bs'.length c), hb, he⟩
theorem St.rrSet1 (h : St W w (aRr W p [] e :: L)) (k : Int) : St W (w.setCell ⟨p, 1, none⟩ (.int .i64 k)) (aRr W p [] k :: L) := by
  obtain ⟨own, ⟨A0, c0, h1, h2, h3, h4⟩, ho, hback⟩ := h.focus
  exact hback _ (aRr W p [] k) ((Ext.refl own w).set (p := ⟨p, 1, none⟩) (fun _ => h1) _) ⟨A0, c0, .inl h1, by simpa using h2.set_ 1 (.int .i64 k), h3, fun _ => rfl⟩
theorem St.rrSet10 (h : St W w (aRr W p bs 0 :: L)) (k : Int) : St W ((w.setCell ⟨p, 1, none⟩ (.int .i64 k)).setCell ⟨p, 0, none⟩ (.slice none 0 0)) (aRr W p [] k :: L) := by
  obtain ⟨own, ⟨A0, c0, h1, h2, h3, h4⟩, ho, hback⟩ := h.focus
  have hx : Ext own w ((w.setCell ⟨p, 1, none⟩ (.int .i64 k)).setCell ⟨p, 0, none⟩ (.slice none 0 0)) := ((Ext.refl own w).set (p := ⟨p, 1, none⟩) (fun _ => h1) _).set (p := ⟨p, 0, none⟩) (fun _ => h1) _
  exact hback _ (aRr W p [] k) hx ⟨none, 0, .inl h1, by simpa using (h2.set_ 1 (.int .i64 k)).set_ 0 (.slice none 0 0), Bs.nil W, fun _ => rfl⟩
theorem St.rrSame (h : St W w (aRr W p bs 0 :: L)) : St W (w.setCell ⟨p, 1, none⟩ (.int .i64 0)) (aRr W p bs 0 :: L) := by
  obtain ⟨own, ⟨A0, c0, h1, h2, h3, h4⟩, ho, hback⟩ := h.focus
  exact hback _ (aRr W p bs 0) ((Ext.refl own w).set (p := ⟨p, 1, none⟩) (fun _ => h1) _) ⟨A0, c0, .inl h1, by simpa using h2.set_ 1 (.int .i64 0), h3, h4⟩
set_option maxHeartbeats 1000000 in
theorem St.fail121 (h : St W w (aRr W p bs e :: L)) (k : Int) : Calls Try.prog 121 #[.pointer (some ⟨p, 0, none⟩), .int .i64 k] w fun e' w' => e' = .returned (.tuple #[]) ∧ St W w' (aRr W p (failB bs e k) (failE e k) :: L) := by
  have H := Lib.hid h
  obtain ⟨A, c, c0, c1, f, hb, he⟩ := h.rr
  have f0 := f 0
  have f1 := f 1
  by_cases e0 : e = 0
  · subst e0
    by_cases k0 : k = 0
    · subst k0
      rw [show failB bs 0 0 = bs by simp [failB], show failE 0 0 = 0 by simp [failE]]
      clear h f hb he
      go_enter Try.func121, Try.ntmps121
      go_wp2
      go_end0
      exact ⟨rfl, H.out.rrSame⟩
    · rw [show failB bs 0 k = [] by simp [failB, k0], show failE 0 k = k by simp [failE]]
      have q1 : (k != 0) = true := by simp [k0]
      clear h f hb he k0
      go_enter Try.func121, Try.ntmps121
      go_wp2
      go_end0
      exact ⟨rfl, H.out.rrSet10 k⟩
  · obtain rfl := he e0
    rw [show failB [] e k = [] by simp [failB], show failE e k = e by simp [failE, e0]]
    have q1 : (e != 0) = true := by simp [e0]
    have q2 : (e == 0) = false := by simp [e0]
    have E := Lib.hid (H.out.rrSet0 (Bs.nil W) rfl (fun _ => rfl))
    clear h f hb he e0
    go_enter Try.func121, Try.ntmps121
    go_wp2
    go_end0
    exact ⟨rfl, E.out⟩
theorem St.done83 (h : St W w (aRr W p bs e :: L)) : Calls Try.prog 83 #[.pointer (some ⟨p, 0, none⟩)] w fun e' w' => e' = .returned (.int .i64 (doneE bs e)) ∧ w = w' := by
  obtain ⟨A, c, c0, c1, f, hb, he⟩ := h.rr
  by_cases e0 : e = 0
  · subst e0
    by_cases hn : bs = []
    · subst hn
      have E := Lib.hid (show (0 : Int) = doneE [] 0 by simp [doneE])
      clear h f hb he
      go_enter Try.func83, Try.ntmps83
      go_wp2
      go_ret
      exact ⟨retI E.out, rfl⟩
    · have E := Lib.hid (show (12 : Int) = doneE bs 0 by simp [doneE, hn])
      have hl : (0 : Int) < bs.length := by have := List.length_pos_iff.2 hn; omega
      clear h f hb he hn
      go_enter Try.func83, Try.ntmps83
      go_wp2
      go_ret
      exact ⟨retI E.out, rfl⟩
  · have E := Lib.hid (show e = doneE bs e by simp [doneE, e0])
    have q2 : (e == 0) = false := by simp [e0]
    clear h f hb he e0
    go_enter Try.func83, Try.ntmps83
    go_wp2
    go_ret
    exact ⟨retI E.out, rfl⟩
theorem St.read78 {A : Option Addr} {c : Nat} (h : St W w L) (hb : Bs W (.slice A bs.length c) bs) : Calls Try.prog 78 #[.slice A bs.length c] w fun e' w' => ∃ p, e' = .returned (.pointer (some ⟨p, 0, none⟩)) ∧ St W w' (aRr W p bs 0 :: L) := by
  have E := Lib.hid (show St W (w.alloc (.cells #[.slice A bs.length c, .int .i64 0] 91)) (aRr W w.heap.size bs 0 :: L) from
    h.add (B.alloc' _ _) (A := aRr W w.heap.size bs 0) (own := fun x => x = w.heap.size) ⟨A, c, rfl, Blk.new w _ _, hb, fun h => absurd rfl h⟩ (fun x e => by omega))
  clear h hb
  go_enter Try.func78, Try.ntmps78
  go_wp2
  go_ret
  exact ⟨_, rfl, E.out⟩
end
end Go.Proofs.Ythgpkbhilkdckaa

/- Num of the reference's reader. -/
namespace Go.Proofs.Ythgpkbhilkdckaa
open Go.RowKit
set_option linter.unusedVariables false

theorem refStep (acc q y bv : Nat) (hq : q ≤ 9) (ha : acc < 128 ^ q) (hb : bv = 128 ^ q) : ∃ e1 s b2 : Nat, IntKind.u64.wrap ((y : Int) % 128 * (bv : Int)) = (e1 : Int) ∧ IntKind.u64.wrap ((acc : Int) + (e1 : Int)) = (s : Int) ∧ IntKind.u64.wrap ((bv : Int) * 128) = (b2 : Int) ∧
    ((q < 9 ∨ y ≤ 1) → s = acc + y % 128 * 128 ^ q) ∧ (q < 9 → b2 = 128 ^ (q + 1)) := by
  have hp9 : 128 ^ q ≤ 9223372036854775808 := Nat.le_trans (Nat.pow_le_pow_right (by omega) hq) (by decide)
  have wrapN : ∀ k : Nat, IntKind.u64.wrap (k : Int) = ((k % 18446744073709551616 : Nat) : Int) := fun k => by simp [IntKind.wrap, IntKind.signed, IntKind.bits]
  refine ⟨y % 128 * bv % 18446744073709551616, (acc + y % 128 * bv % 18446744073709551616) % 18446744073709551616, bv * 128 % 18446744073709551616, ?_, ?_, ?_, ?_, ?_⟩
  · rw [show (y : Int) % 128 * (bv : Int) = ((y % 128 * bv : Nat) : Int) by push_cast; rfl]; exact wrapN _
  · rw [← Int.natCast_add]; exact wrapN _
  · rw [show (bv : Int) * 128 = ((bv * 128 : Nat) : Int) by push_cast; rfl]; exact wrapN _
  · intro h
    subst hb
    have hlt : acc + y % 128 * 128 ^ q < 18446744073709551616 := by
      rcases h with h | h
      · have h8 : 128 ^ q ≤ 72057594037927936 := Nat.le_trans (Nat.pow_le_pow_right (by omega) (show q ≤ 8 by omega)) (by decide)
        have := Nat.mul_le_mul (show y % 128 ≤ 127 by omega) h8
        omega
      · have := Nat.mul_le_mul (show y % 128 ≤ 1 by omega) hp9
        omega
    rw [Nat.mod_eq_of_lt (show y % 128 * 128 ^ q < 18446744073709551616 by omega), Nat.mod_eq_of_lt hlt]
  · intro h
    subst hb
    have h8 : 128 ^ q ≤ 72057594037927936 := Nat.le_trans (Nat.pow_le_pow_right (by omega) (show q ≤ 8 by omega)) (by decide)
    rw [Nat.mod_eq_of_lt (by omega), Nat.pow_succ]
section
variable {W w : World} {p : Nat} {bs : List UInt8} {e : Int} {L : List Asn}
def NumPostR (W : World) (p : Nat) (L : List Asn) (r : Nat × List UInt8 × Int) (e' : Ending) (w' : World) : Prop :=
  e' = .returned (.int .u64 (r.1 : Int)) ∧ St W w' (aRr W p r.2.1 r.2.2 :: L)
theorem St.rrE (h : St W w (aRr W p bs e :: L)) : w.cell? ⟨p, 1, none⟩ = some (.int .i64 e) := by
  obtain ⟨A, c, c0, c1, _⟩ := h.rr; exact c1
set_option maxRecDepth 20000 in
set_option maxHeartbeats 1000000 in
theorem St.num117_stuck (h : St W w (aRr W p bs e :: L)) (he : e ≠ 0) (most : Nat) : Calls Try.prog 117 #[.pointer (some ⟨p, 0, none⟩), .int .u64 (most : Int)] w (NumPostR W p L (numS bs e most)) := by
  obtain ⟨A, c, c0, c1, f, hb, he'⟩ := h.rr
  obtain rfl := he' he
  have hf := h.fail121 10
  rw [show failB [] e 10 = [] by simp [failB], show failE e 10 = e by simp [failE, he]] at hf
  have HF := Lib.hid hf
  have q1 : (e != 0) = true := by simp [he]
  have E := Lib.hid (fun w' (hS : St W w' (aRr W p [] e :: L)) => show NumPostR W p L (numS [] e most) (.returned (.int .u64 0)) w' from ⟨by simp [numS, he], by simpa [numS, he] using hS⟩)
  clear hb he he' hf f h
  go_enter Try.func117, Try.ntmps117
  go_wp2_with fail
  go_loop [5, 6, 7] (fun n b i => i = .int .i64 0) (fun _ _ i => 0)
  case atStart => exact rfl
  case round =>
    subst hrel
    go_wp2_with (first | (go_at_call 121; (with_reducible refine HF.out.mono ?_); rintro e' w1 ⟨rfl, hS⟩; have HS := Lib.hid hS; have d1 := hS.rrE; clear hS))
    go_ret
    exact E.out _ HS.out
set_option maxRecDepth 20000 in
set_option maxHeartbeats 4000000 in
theorem St.num117_ok (h : St W w (aRr W p bs 0 :: L)) (most : Nat) : Calls Try.prog 117 #[.pointer (some ⟨p, 0, none⟩), .int .u64 (most : Int)] w (NumPostR W p L (numGo most 0 0 bs)) := by
  have HH := Lib.hid h
  obtain ⟨A, c, c0, c1, f, hb, he⟩ := h.rr
  have H3 := Lib.hid hb
  have f0 := f 0
  have hbl : (bs.length : Int) ≤ 140737488355328 := by have := hb.len; unfold big at this; omega
  obtain ⟨A', cap', hv, _, _, hF⟩ := (hb.later h.b).form
  injection hv with e1 _ e2
  subst e1 e2
  have HF := Lib.hid hF
  have fail := fun (k : Int) (r : Nat × List UInt8 × Int) (hr : r = (0, [], k)) (hk : k ≠ 0) => (St.fail121 h k).mono (R' := fun e' w' => e' = .returned (.tuple #[]) ∧ w'.cell? ⟨p, 1, none⟩ = some (.int .i64 k) ∧ Hid (NumPostR W p L r (.returned (.int .u64 0)) w')) fun e' w' ⟨he, hS⟩ => ⟨he, by
    have hS' : St W w' (aRr W p [] k :: L) := by simpa [failB, failE, hk] using hS
    exact ⟨hS'.rrE, by subst hr; exact ⟨rfl, hS'⟩⟩⟩
  have FAIL := Lib.hid fail
  clear hF hb he f h fail
  go_enter Try.func117, Try.ntmps117
  go_wp2_with fail
  go_loop [5, 6, 7] (fun n b i => ∃ (q acc bv : Nat), i = .int .i64 (q : Int) ∧ n = .int .u64 (acc : Int) ∧ b = .int .u64 (bv : Int) ∧ q ≤ 9 ∧ Hid (bv = 128 ^ q) ∧ Hid (q ≤ bs.length ∧ acc < 128 ^ q ∧ numGo most 0 0 bs = numGo most q acc (bs.drop q))) (fun _ _ i => 10 - (intOf i).toNat)
  case atStart => exact ⟨0, 0, 1, rfl, rfl, rfl, by omega, rfl, ⟨by omega, by omega, by simp⟩⟩
  case round =>
    obtain ⟨q, acc, bv, rfl, rfl, rfl, hq, HBV, HL⟩ := hrel
    have hq10 : (q : Int) ≤ 9 := by omega
    by_cases hl : q < bs.length
    · obtain ⟨b, off, rfl, hb, hc⟩ := HF.out (by omega)
      have k1 := hc q _ (List.getElem?_eq_getElem hl)
      have hqi : (q : Int) < bs.length := by omega
      have hne : ((q : Int) == (bs.length : Int)) = false := by simp; omega
      have HD := Lib.hid (List.drop_eq_getElem_cons hl)
      obtain ⟨y, hy, hy2⟩ : ∃ y : Nat, y = bs[q].toNat ∧ y < 256 := ⟨_, rfl, bs[q].toNat_lt⟩
      obtain ⟨ee, s, b2, s1, s2, s3, s4, s5⟩ := refStep acc q y bv hq HL.out.2.1 HBV.out
      have S4 := Lib.hid s4
      have S5 := Lib.hid s5
      rw [← hy] at k1
      have HY := Lib.hid hy
      clear hc hy s4 s5
      have HOV := Lib.hid (fun (h9 : q = 9) (hb : 1 < y) => show numGo most 0 0 bs = (0, [], 11) by rw [HL.out.2.2, HD.out, numGo_over h9 (by rw [← HY.out]; exact hb)])
      by_cases h91 : q = 9 ∧ 1 < y
      · have f3 : ((q : Int) == 9) = true := by simp; omega
        have f4 : (1 : Int) < y := by omega
        have hb := Lib.hid (HOV.out h91.1 h91.2)
        clear h91
        go_wp2_with (first | (go_at_call 121; (with_reducible refine (FAIL.out 11 _ hb.out (by decide)).mono ?_); rintro e w1 ⟨rfl, d1, hN⟩))
        go_ret
        exact hN.out
      · have H91 := Lib.hid h91
        by_cases hc : 127 < y
        · have f3 : ((q : Int) == 9) = false := by simp; omega
          have hci : ¬ (y : Int) < 128 := by omega
          have hq8 : q < 9 := by omega
          clear h91
          go_wp2_with fail
          go_round
          case rel =>
            refine ⟨q + 1, s, b2, by go_num, rfl, rfl, by omega, S5.out hq8, ⟨by omega, ?_, ?_⟩⟩
            · rw [S4.out (by omega)]; exact acc_lt HL.out.2.1 (by omega)
            · rw [HL.out.2.2, HD.out, numGo_more (by rw [← HY.out]; exact hc) (by omega), S4.out (by omega), HY.out]
          case measure => simp [intOf]; omega
        · have hci : (y : Int) < 128 := by omega
          have hym : y % 128 = y := by omega
          have hymi : (y : Int) % 128 = y := by omega
          rw [hymi] at s1
          have HBAD := Lib.hid (fun (hb : (0 < q ∧ y = 0) ∨ most < acc + y * 128 ^ q) => show numGo most 0 0 bs = (0, [], 11) by rw [HL.out.2.2, HD.out, numGo_bad (by rw [← HY.out]; omega) (by rw [← HY.out]; exact hb)])
          have HGOOD := Lib.hid (fun (h9 : ¬ (q = 9 ∧ 1 < y)) (hb : ¬ ((0 < q ∧ y = 0) ∨ most < acc + y * 128 ^ q)) => show numGo most 0 0 bs = (acc + y * 128 ^ q, bs.drop (q + 1), 0) by rw [HL.out.2.2, HD.out, numGo_good (by rw [← HY.out]; omega) (by rw [← HY.out]; exact h9) (by rw [← HY.out]; exact hb), HY.out])
          obtain ⟨A', c', r1, r2, hb', ho'⟩ := H3.out.cut (q + 1) (by omega)
          have r1 : ∀ w' : World, (Instr.slice 47 (.slice (some ⟨b, off, none⟩) bs.length c) (some (.int .i64 ((q : Int) + 1))) none none).run Try.prog w' = .ok (.slice A' (bs.length - (q + 1)) c') w' := fun w' => by have := r1 w'; rwa [show ((q + 1 : Nat) : Int) = (q : Int) + 1 by omega] at this
          have r2 : ∀ w' : World, (Instr.sliceAt 47 (.slice (some ⟨b, off, none⟩) bs.length c) (some (.int .i64 ((q : Int) + 1))) none none).run Try.prog w' = .ok (.slice A' (bs.length - (q + 1)) c') w' := fun w' => by have := r2 w'; rwa [show ((q + 1 : Nat) : Int) = (q : Int) + 1 by omega] at this
          have GD1 := Lib.hid (show ∀ (hb : ¬ ((0 < q ∧ y = 0) ∨ most < acc + y * 128 ^ q)) (hs : s = acc + y * 128 ^ q), NumPostR W p L (numGo most 0 0 bs) (.returned (.int .u64 (s : Int))) (w.setCell ⟨p, 0, none⟩ (.slice A' (bs.length - (q + 1)) c')) from fun hb hs => by
            rw [HGOOD.out H91.out hb, hs]
            exact ⟨rfl, HH.out.rrSet0 hb' (by simp) (fun h => absurd rfl h)⟩)
          clear hb' ho' h91
          by_cases hq0 : 0 < q
          · have f1 : (0 : Int) < q := by omega
            by_cases h9 : q = 9
            · have f3 : ((q : Int) == 9) = true := by simp; omega
              have f4 : ¬ (1 : Int) < y := by have := H91.out; omega
              have H9 := Lib.hid h9
              clear h9
              by_cases hy0 : y = 0
              · have f2 : ((y : Int) == 0) = true := by simp; omega
                have hb := Lib.hid (HBAD.out (.inl ⟨hq0, hy0⟩))
                clear hy0
                go_wp2_with (first | (go_at_call 121; (with_reducible refine (FAIL.out 11 _ (hb.out) (by decide)).mono ?_); rintro e w1 ⟨rfl, d1, hN⟩))
                go_ret
                exact hN.out
              · have f2 : ((y : Int) == 0) = false := by simp; omega
                by_cases hm : most < s
                · have hmi : (most : Int) < s := by omega
                  have hb := Lib.hid (HBAD.out (.inr (by have := S4.out (by have := H91.out; omega); rw [hym] at this; omega)))
                  go_wp2_with (first | (go_at_call 121; (with_reducible refine (FAIL.out 11 _ (hb.out) (by decide)).mono ?_); rintro e w1 ⟨rfl, d1, hN⟩))
                  go_ret
                  exact hN.out
                · have hmi : ¬ (most : Int) < s := by omega
                  have hs := Lib.hid (S4.out (by have := H91.out; omega))
                  have E := Lib.hid (GD1.out (by have := hs.out; rw [hym] at this; omega) (by have := hs.out; rw [hym] at this; exact this))
                  go_wp2_with fail
                  go_ret
                  exact E.out
            · have f3 : ((q : Int) == 9) = false := by simp; omega
              by_cases hy0 : y = 0
              · have f2 : ((y : Int) == 0) = true := by simp; omega
                have hb := Lib.hid (HBAD.out (.inl ⟨hq0, hy0⟩))
                clear hy0
                go_wp2_with (first | (go_at_call 121; (with_reducible refine (FAIL.out 11 _ (hb.out) (by decide)).mono ?_); rintro e w1 ⟨rfl, d1, hN⟩))
                go_ret
                exact hN.out
              · have f2 : ((y : Int) == 0) = false := by simp; omega
                by_cases hm : most < s
                · have hmi : (most : Int) < s := by omega
                  have hb := Lib.hid (HBAD.out (.inr (by have := S4.out (by have := H91.out; omega); rw [hym] at this; omega)))
                  go_wp2_with (first | (go_at_call 121; (with_reducible refine (FAIL.out 11 _ (hb.out) (by decide)).mono ?_); rintro e w1 ⟨rfl, d1, hN⟩))
                  go_ret
                  exact hN.out
                · have hmi : ¬ (most : Int) < s := by omega
                  have hs := Lib.hid (S4.out (by have := H91.out; omega))
                  have E := Lib.hid (GD1.out (by have := hs.out; rw [hym] at this; omega) (by have := hs.out; rw [hym] at this; exact this))
                  go_wp2_with fail
                  go_ret
                  exact E.out
          · have f1 : ¬ (0 : Int) < q := by omega
            have f3 : ((q : Int) == 9) = false := by simp; omega
            by_cases hm : most < s
            · have hmi : (most : Int) < s := by omega
              have hb := Lib.hid (HBAD.out (.inr (by have := S4.out (by have := H91.out; omega); rw [hym] at this; omega)))
              go_wp2_with (first | (go_at_call 121; (with_reducible refine (FAIL.out 11 _ (hb.out) (by decide)).mono ?_); rintro e w1 ⟨rfl, d1, hN⟩))
              go_ret
              exact hN.out
            · have hmi : ¬ (most : Int) < s := by omega
              have hs := Lib.hid (S4.out (by have := H91.out; omega))
              have E := Lib.hid (GD1.out (by have := hs.out; rw [hym] at this; omega) (by have := hs.out; rw [hym] at this; exact this))
              go_wp2_with fail
              go_ret
              exact E.out
    · have hqi : ((q : Int) == (bs.length : Int)) = true := by have := HL.out.1; simp; omega
      have hb := Lib.hid (show numGo most 0 0 bs = (0, [], 10) by rw [HL.out.2.2, List.drop_eq_nil_of_le (by omega)]; rfl)
      go_wp2_with (first | (go_at_call 121; (with_reducible refine (FAIL.out 10 _ hb.out (by decide)).mono ?_); rintro e w1 ⟨rfl, d1, hN⟩))
      go_ret
      exact hN.out
theorem St.num117 (h : St W w (aRr W p bs e :: L)) (most : Nat) : Calls Try.prog 117 #[.pointer (some ⟨p, 0, none⟩), .int .u64 (most : Int)] w (NumPostR W p L (numS bs e most)) := by
  by_cases he : e = 0
  · subst he
    unfold numS
    rw [if_pos rfl]
    exact h.num117_ok most
  · exact h.num117_stuck he most
end
end Go.Proofs.Ythgpkbhilkdckaa

/- Take, Bytes, List of the reference's reader. -/
namespace Go.Proofs.Ythgpkbhilkdckaa
open Go.RowKit
set_option linter.unusedVariables false

section
variable {W w : World} {p : Nat} {bs : List UInt8} {e : Int} {L : List Asn}
def TakePostR (W : World) (p : Nat) (L : List Asn) (r : List UInt8 × List UInt8 × Int) (e' : Ending) (w' : World) : Prop :=
  ∃ v, e' = .returned v ∧ St W w' (aBy v r.1 :: aRr W p r.2.1 r.2.2 :: L)
set_option maxHeartbeats 2000000 in
theorem St.take118_stuck (h : St W w (aRr W p bs e :: L)) (he : e ≠ 0) (n : Int) : Calls Try.prog 118 #[.pointer (some ⟨p, 0, none⟩), .int .i64 n] w (TakePostR W p L (takeS bs e n)) := by
  obtain ⟨A, c, c0, c1, f, hb, he'⟩ := h.rr
  obtain rfl := he' he
  have H := Lib.hid h
  have hf := h.fail121 1
  rw [show failB [] e 1 = [] by simp [failB], show failE e 1 = e by simp [failE, he]] at hf
  have HF := Lib.hid hf
  have q1 : (e != 0) = true := by simp [he]
  have q2 : (e == 0) = false := by simp [he]
  have E := Lib.hid (fun w' (hS : St W w' (aRr W p [] e :: L)) => show TakePostR W p L (takeS [] e n) (.returned (.slice none 0 0)) w' from ⟨_, rfl, by simp only [takeS, if_pos he]; exact aBy.nil hS⟩)
  clear h hf he he' hb f
  by_cases hn : n < 0
  · clear c1
    go_enter Try.func118, Try.ntmps118
    go_wp2_with (first
      | (go_at_call 121; (with_reducible refine HF.out.mono ?_); rintro e w1 ⟨rfl, hS⟩; have H1 := Lib.hid hS; have d1 := hS.rrE; clear hS))
    go_ret
    exact E.out _ H1.out
  · go_enter Try.func118, Try.ntmps118
    go_wp2_with fail
    go_ret
    exact E.out _ H.out
set_option maxHeartbeats 2000000 in
theorem St.take118_neg (h : St W w (aRr W p bs 0 :: L)) (n : Int) (hn : n < 0) : Calls Try.prog 118 #[.pointer (some ⟨p, 0, none⟩), .int .i64 n] w (TakePostR W p L (takeS bs 0 n)) := by
  have hf := h.fail121 1
  rw [show failB bs 0 1 = [] by simp [failB], show failE 0 1 = 1 by simp [failE]] at hf
  have HF := Lib.hid hf
  have E := Lib.hid (fun w' (hS : St W w' (aRr W p [] 1 :: L)) => show TakePostR W p L (takeS bs 0 n) (.returned (.slice none 0 0)) w' from ⟨_, rfl, by simp only [takeS, if_pos hn]; exact aBy.nil hS⟩)
  clear h hf
  go_enter Try.func118, Try.ntmps118
  go_wp2_with (first
    | (go_at_call 121; (with_reducible refine HF.out.mono ?_); rintro e w1 ⟨rfl, hS⟩; have H1 := Lib.hid hS; have d1 := hS.rrE; clear hS))
  go_ret
  exact E.out _ H1.out
set_option maxHeartbeats 2000000 in
theorem St.take118_cut (h : St W w (aRr W p bs 0 :: L)) (n : Int) (hn : ¬ n < 0) (hl : (bs.length : Int) < n) : Calls Try.prog 118 #[.pointer (some ⟨p, 0, none⟩), .int .i64 n] w (TakePostR W p L (takeS bs 0 n)) := by
  have hf := h.fail121 10
  rw [show failB bs 0 10 = [] by simp [failB], show failE 0 10 = 10 by simp [failE]] at hf
  have HF := Lib.hid hf
  have E := Lib.hid (fun w' (hS : St W w' (aRr W p [] 10 :: L)) => show TakePostR W p L (takeS bs 0 n) (.returned (.slice none 0 0)) w' from ⟨_, rfl, by simp only [takeS, if_neg hn, if_pos hl]; exact aBy.nil hS⟩)
  obtain ⟨A, c, c0, c1, f, hb, he'⟩ := h.rr
  clear h hf f hb he'
  go_enter Try.func118, Try.ntmps118
  go_wp2_with (first
    | (go_at_call 121; (with_reducible refine HF.out.mono ?_); rintro e w1 ⟨rfl, hS⟩; have H1 := Lib.hid hS; have d1 := hS.rrE; clear hS))
  go_ret
  exact E.out _ H1.out
set_option maxHeartbeats 2000000 in
theorem St.take118_ok (h : St W w (aRr W p bs 0 :: L)) (n : Nat) (hl : n ≤ bs.length) : Calls Try.prog 118 #[.pointer (some ⟨p, 0, none⟩), .int .i64 (n : Int)] w (TakePostR W p L (takeS bs 0 n)) := by
  have HH := Lib.hid h
  obtain ⟨A, c, c0, c1, f, hb, he'⟩ := h.rr
  have f0 := f 0
  obtain ⟨A1, c1', r1, r2, hb1, ho1⟩ := hb.cutTo n hl
  obtain ⟨A2, c2', r3, r4, hb2, ho2⟩ := hb.cut n hl
  have HB1 := Lib.hid (hb1.later h.b)
  have HB2 := Lib.hid hb2
  have C0 := Lib.hid c0
  have F0 := Lib.hid f0
  have HP := Lib.hid (World.block_lt_of_cell? w _ c0)
  have hnl : (n : Int) ≤ bs.length := by omega
  have htl : (bs.take n).length = n := by simp; omega
  have HTL := Lib.hid htl
  have g1 : 0 + n ≤ maxLen := by have := hb.len; unfold big at this; unfold maxLen; omega
  have g2 : (0 + n) * 1 ≤ 140737488355328 := by have := hb.len; unfold big at this; omega
  have o1 := cellsB_one (bs.take n)
  have hrd := HB1.out.rd
  rw [htl] at hrd
  have HRD := Lib.hid hrd
  have TE := Lib.hid (show takeS bs 0 n = (bs.take n, bs.drop n, 0) by unfold takeS; rw [if_neg (by simp), if_neg (by omega), if_neg (by omega)]; simp)
  clear h hb hb1 hb2 ho1 ho2 htl he' f hrd
  go_enter Try.func118, Try.ntmps118
  go_wp2_with (first
    | (at_builtin; refine wpList_append_Rd (v := .slice none 0 0) (base := w.heap.size) rfl (.tmp 31) (.tmp 37) 47 rfl Try.underlying47 info5 rfl Nat.zero_lt_one rfl rfl (ownNil _ _ 5 1) HRD.out o1 g1 g2 (Nat.le_refl _) ?_; intro A3 c3 w3 r5 x3 y3; simp only [Nat.zero_add, List.nil_append] at r5 y3; have hb3 : B w w3 := B.grown (Below.refl _ _) x3 (fun k hk => by simp [Value.ownBlock] at hk); have R5 := Lib.hid r5; have B3 := Lib.hid hb3; have c03 := hb3.cell C0.out; have f03 := (Below.frozen hb3 HP.out).trans F0.out; clear c0 f0 r5 x3 y3 hb3))
  go_ret
  refine ⟨_, rfl, ?_⟩
  rw [TE.out]
  have h5 := HH.out.addRow B3.out R5.out
  exact St.swap (h5.swap.rrSet0 HB2.out (by simp) (fun h => absurd rfl h)) |> fun h => by
    have e : aRow 5 1 (Value.slice A3 n c3) n (cellsB (bs.take n)) = aBy (Value.slice A3 n c3) (bs.take n) := by unfold aBy; rw [HTL.out]
    simpa [e] using h
theorem St.take118 (h : St W w (aRr W p bs e :: L)) (n : Int) (hn : -9223372036854775808 ≤ n ∧ n ≤ 9223372036854775807) : Calls Try.prog 118 #[.pointer (some ⟨p, 0, none⟩), .int .i64 n] w (TakePostR W p L (takeS bs e n)) := by
  by_cases he : e = 0
  · subst he
    by_cases h0 : n < 0
    · exact h.take118_neg n h0
    · by_cases hl : (bs.length : Int) < n
      · exact h.take118_cut n h0 hl
      · obtain ⟨k, hk⟩ := Int.eq_ofNat_of_zero_le (show 0 ≤ n by omega)
        subst hk
        exact h.take118_ok k (by omega)
  · exact h.take118_stuck he n
set_option maxHeartbeats 2000000 in
theorem St.bytes119 (h : St W w (aRr W p bs e :: L)) (m : Int) (hm : m ≤ 9223372036854775807) : Calls Try.prog 119 #[.pointer (some ⟨p, 0, none⟩), .int .i64 m] w (TakePostR W p L (bytesS bs e m)) := by
  have HN := Lib.hid (h.num117 m.toNat)
  have HL := numS_le bs e m.toNat
  have hq : m.toNat ≤ 9223372036854775807 := by omega
  have hv : (numS bs e m.toNat).1 ≤ 9223372036854775807 := by omega
  have HT := Lib.hid (fun w' (hS : St W w' (aRr W p (numS bs e m.toNat).2.1 (numS bs e m.toNat).2.2 :: L)) => hS.take118 ((numS bs e m.toNat).1 : Int) (by omega))
  rw [show bytesS bs e m = takeS (numS bs e m.toNat).2.1 (numS bs e m.toNat).2.2 ((numS bs e m.toNat).1 : Int) from rfl]
  generalize numS bs e m.toNat = r at *
  obtain ⟨v, b1, e1⟩ := r
  simp only at hv HL HT
  have hv3 : IntKind.i64.wrap (v : Int) = (v : Int) := by simp [IntKind.wrap, IntKind.signed, IntKind.bits]; omega
  by_cases h0 : 0 ≤ m
  case' pos =>
    obtain ⟨k, hk⟩ := Int.eq_ofNat_of_zero_le (show 0 ≤ m by omega)
    subst hk
    simp only [Int.toNat_natCast] at HN hq
    have hv2 : IntKind.u64.wrap (k : Int) = (k : Int) := u64_id (by omega)
    have hk9 : (k : Int) ≤ 9223372036854775807 := by omega
    have hm0 : (0 : Int) ≤ k := h0
    clear h HL hq hm h0
  case' neg =>
    have hm0 : m < 0 := by omega
    have hv2 : IntKind.u64.wrap 0 = 0 := by decide
    rw [show m.toNat = 0 by omega] at HN
    have HN := Lib.hid (show Calls Try.prog 117 #[.pointer (some ⟨p, 0, none⟩), .int .u64 0] w _ from HN.out)
    clear h HL hq hm h0
  all_goals
    go_enter Try.func119, Try.ntmps119
    go_wp2_with (first
      | (go_at_call 117; (with_reducible refine HN.out.mono ?_); rintro e w1 ⟨rfl, hS⟩; have H1 := Lib.hid hS; clear hS)
      | (go_at_call 118; (with_reducible refine (HT.out _ H1.out).mono ?_); rintro e w1 ⟨v2, rfl, hS⟩; have H2 := Lib.hid hS; clear hS))
    go_ret
    exact ⟨_, rfl, H2.out⟩
def ListPostR (W : World) (p : Nat) (L : List Asn) (r : List (List UInt8) × List UInt8 × Int) (e' : Ending) (w' : World) : Prop :=
  ∃ v, e' = .returned v ∧ St W w' (aPl v r.1 :: aRr W p r.2.1 r.2.2 :: L)
set_option maxRecDepth 20000 in
set_option maxHeartbeats 4000000 in
theorem St.list120 (h : St W w (aRr W p bs e :: L)) (most each : Int) (hm : most ≤ 9223372036854775807) (hea : each ≤ 9223372036854775807) (hbs : bs.length ≤ 1099511627775) :
    Calls Try.prog 120 #[.pointer (some ⟨p, 0, none⟩), .int .i64 most, .int .i64 each] w (ListPostR W p L (listS bs e most each)) := by
  have HN := Lib.hid (h.num117 most.toNat)
  have HL := numS_le bs e most.toNat
  have hps := numS_pos bs e most.toNat
  have hln := numS_len bs e most.toNat
  have HEA := Lib.hid hea
  have HBS := Lib.hid hbs
  rw [show listS bs e most each = listGo each (numS bs e most.toNat).1 (numS bs e most.toNat).2.1 (numS bs e most.toNat).2.2 [] from rfl]
  generalize numS bs e most.toNat = r at *
  obtain ⟨n, b1, e1⟩ := r
  simp only at HL hps hln
  have HPS := Lib.hid hps
  have HLN := Lib.hid hln
  have hn : (n : Int) ≤ 9223372036854775807 := by omega
  have HINI := Lib.hid (show (e1 = 0 ∧ listGo each n b1 e1 [] = listGo each n b1 e1 []) ∨ (e1 ≠ 0 ∧ listGo each n b1 e1 [] = ([], b1, e1)) from by
    by_cases h : e1 = 0
    · exact .inl ⟨h, rfl⟩
    · right
      refine ⟨h, ?_⟩
      rcases Nat.eq_zero_or_pos n with e | e
      · subst e; rfl
      · exact absurd (hps e) h)
  clear hps hln hbs hea
  by_cases h0 : 0 ≤ most
  case' pos =>
    obtain ⟨k, hk⟩ := Int.eq_ofNat_of_zero_le (show 0 ≤ most by omega)
    subst hk
    simp only [Int.toNat_natCast] at HN
    have hv2 : IntKind.u64.wrap (k : Int) = (k : Int) := u64_id (by omega)
    have hm0 : (0 : Int) ≤ k := h0
    have HM := Lib.hid hm
    clear h HL h0 hm
  case' neg =>
    have hm0 : most < 0 := by omega
    have hv2 : IntKind.u64.wrap 0 = 0 := by decide
    rw [show most.toNat = 0 by omega] at HN
    have HN := Lib.hid (show Calls Try.prog 117 #[.pointer (some ⟨p, 0, none⟩), .int .u64 0] w _ from HN.out)
    have HM := Lib.hid hm
    clear h HL hm h0
  all_goals
    go_enter Try.func120, Try.ntmps120
    go_wp2_with (first
      | (go_at_call 117; (with_reducible refine HN.out.mono ?_); rintro e w1 ⟨rfl, hS⟩; have H1 := Lib.hid (St.swap (aPl.nil hS)); clear hS))
    go_loopw [8, 9] (fun l i wr => ∃ (q : Nat) (acc : List (List UInt8)) (b2 : List UInt8) (e2 : Int), q ≤ n ∧ i = .int .u64 (q : Int) ∧ Hid ((e2 = 0 ∧ listGo each (n - q) b2 e2 acc = listGo each n b1 e1 [] ∧ acc.length + b2.length ≤ bs.length) ∨ (e2 ≠ 0 ∧ listGo each n b1 e1 [] = ([], b2, e2))) ∧ Hid (St W wr (aRr W p b2 e2 :: aPl l acc :: L))) (fun _ i _ => n - (intOf i).toNat)
    case atStart =>
      refine ⟨0, [], b1, e1, Nat.zero_le _, rfl, ?_, H1.out⟩
      rcases HINI.out with ⟨h, h2⟩ | h
      · exact .inl ⟨h, rfl, by simpa using HLN.out⟩
      · exact .inr h
    case round =>
      obtain ⟨q, acc, b2, e2, hq, rfl, HG, HS⟩ := hrel
      obtain ⟨Al, cl, hvl⟩ := aPl.slice HS.out.swap
      subst hvl
      have d1 := HS.out.rrE
      by_cases he2 : e2 = 0
      · subst he2
        have HG1 := Lib.hid (show listGo each (n - q) b2 0 acc = listGo each n b1 e1 [] ∧ acc.length + b2.length ≤ bs.length from by
          rcases HG.out with ⟨_, h⟩ | ⟨h, _⟩
          · exact h
          · exact absurd rfl h)
        clear HG
        by_cases hlt : q < n
        · have hqi : (q : Int) < n := by omega
          have hall := bytesS_all b2 0 each
          have hbl := bytesS_len b2 each
          have hw : IntKind.u64.wrap ((q : Int) + 1) = (q : Int) + 1 := u64_id (by omega)
          have hg : listGo each (n - q) b2 0 acc = (let r := bytesS b2 0 each; if r.2.2 ≠ 0 then ([], r.2.1, r.2.2) else listGo each (n - (q + 1)) r.2.1 r.2.2 (acc ++ [r.1])) := by
            rw [show n - q = (n - (q + 1)) + 1 by omega]; rfl
          have HT := Lib.hid (HS.out.bytes119 each HEA.out)
          generalize bytesS b2 0 each = r at *
          obtain ⟨x, b3, e3⟩ := r
          simp only at hall hbl hg
          have HALL := Lib.hid hall
          have HBL := Lib.hid hbl
          have HGG := Lib.hid (HG1.out.1.symm.trans hg)
          clear hall hbl hg
          have hlen1 : acc.length + 1 ≤ 1099511627776 := by have := HG1.out.2; have := HBS.out; omega
          have hxb : x.length ≤ big := by have := HALL.out; have := HG1.out.2; have := HBS.out; unfold big; omega
          go_wp2_with (first
            | (go_at_call 119; (with_reducible refine HT.out.mono ?_); rintro e w2 ⟨v2, rfl, hS⟩; have HS2 := Lib.hid hS; obtain ⟨A3, c3, w3, hrun, hS3⟩ := St.plAppend (ty := 46) hS.rot3 hxb hlen1; have HS3 := Lib.hid hS3; obtain ⟨A4, c4, hv2'⟩ := hS.rowSlice; subst hv2'; clear hS hS3)
            | (at_builtin; refine wpList_append_run rfl (.tmp 27) (.tmp 31) 46 rfl rfl rfl hrun ?_))
          go_roundw
          case rel =>
            refine ⟨q + 1, acc ++ [x], b3, e3, by omega, by go_num, ?_, HS3.out.swap⟩
            by_cases he3 : e3 = 0
            · subst he3
              refine .inl ⟨rfl, by rw [HGG.out]; simp, ?_⟩
              have h1 := HBL.out (by trivial)
              have h2 := HG1.out.2
              show (acc ++ [x]).length + b3.length ≤ _
              rw [List.length_append, List.length_singleton]; omega
            · exact .inr ⟨he3, by rw [HGG.out]; simp [he3]⟩
          case measure => simp [intOf]; omega
        · have hqi : ¬ (q : Int) < n := by omega
          have HGZ := Lib.hid (show listGo each n b1 e1 [] = (acc, b2, 0) by rw [← HG1.out.1, show n - q = 0 by omega]; rfl)
          go_wp2_with fail
          go_ret
          rw [HGZ.out]
          exact ⟨_, rfl, HS.out.swap⟩
      · have HGZ := Lib.hid (show listGo each n b1 e1 [] = ([], b2, e2) from by
          rcases HG.out with ⟨h, _⟩ | ⟨_, h⟩
          · exact absurd h he2
          · exact h)
        have q1 : (e2 == 0) = false := by simpa using he2
        have q2 : (e2 != 0) = true := by simpa using he2
        clear he2 HG
        by_cases hlt : q < n
        · have hqi : (q : Int) < n := by omega
          go_wp2_with fail
          go_ret
          rw [HGZ.out]
          exact ⟨_, rfl, aPl.nil HS.out.drop2⟩
        · have hqi : ¬ (q : Int) < n := by omega
          go_wp2_with fail
          go_ret
          rw [HGZ.out]
          exact ⟨_, rfl, aPl.nil HS.out.drop2⟩
end
end Go.Proofs.Ythgpkbhilkdckaa

/- Arguments opened where their bulk is bounded: []byte, [][]byte. -/
namespace Go.Proofs.Ythgpkbhilkdckaa
open Go.ChangeShapes Go.WideShapes Go.ChangeAt Go.RowKit Go.Deep
set_option linter.unusedVariables false

theorem bulk_one {H : Type} (d : DataW H) : 1 ≤ Rows.uptoBulk d := by
  cases d with
  | lit l => cases l <;> simp [Rows.uptoBulk]
  | nil => simp [Rows.uptoBulk]
  | ptr d => simp [Rows.uptoBulk]
  | slice elems spare => simp [Rows.uptoBulk]
  | agg parts => simp [Rows.uptoBulk]
  | iface t d => simp [Rows.uptoBulk]
  | map entries => simp [Rows.uptoBulk]
  | held h => simp [Rows.uptoBulk]
theorem bulk_len {H : Type} (l : List (DataW H)) : l.length ≤ Rows.uptoBulkAll l := by
  induction l with
  | nil => simp [Rows.uptoBulkAll]
  | cons x r ih => have := bulk_one x; simp only [Rows.uptoBulkAll, List.length_cons]; omega
theorem bulk_sum {H α : Type} (f : α → Nat) : ∀ (L : List α) (E : List (DataW H)), L.length = E.length → (∀ (i : Nat) (x : α) (d : DataW H), L[i]? = some x → E[i]? = some d → f x ≤ Rows.uptoBulk d) → (L.map f).sum ≤ Rows.uptoBulkAll E
  | [], [], _, _ => by simp
  | [], _ :: _, h, _ => by simp at h
  | _ :: _, [], h, _ => by simp at h
  | x :: L, d :: E, h, hf => by
    have h0 := hf 0 x d rfl rfl
    have := bulk_sum f L E (by simpa using h) (fun i y c h1 h2 => hf (i + 1) y c (by simpa using h1) (by simpa using h2))
    simp only [List.map_cons, List.sum_cons, Rows.uptoBulkAll]
    omega
theorem bulk_slice {H : Type} (E S : List (DataW H)) : Rows.uptoBulkAll E + Rows.uptoBulkAll S + 1 = Rows.uptoBulk (.slice E S) := by simp only [Rows.uptoBulk]
section
variable {H : Type} {enc : TypeId × Value → H} {P : Program} {w : World} {base : Nat} {held : Bool} {spare : Nat → Bool}
theorem bs_upto {fuel : Nat} {t e : TypeId} {c : Value} {x : DataW H × List MemPlace} (ht : P.underlying t = some (.slice e)) (he : P.underlying e = some (.int .u8)) (hC : P.cellsOf e = 1)
    (h : DataW.trod enc P w base spare held fuel t [c] = some x) (hB : Rows.uptoBulk x.1 ≤ 1048576) : ∃ bs, Bs w c bs ∧ bs.length + 1 ≤ Rows.uptoBulk x.1 := by
  have hlen : ∀ len cap a, c = .slice a len cap → len + 1 ≤ Rows.uptoBulk x.1 := by
    intro len cap a hc
    subst hc
    rcases open_slice ht h with ⟨h2, h3⟩ | ⟨a, len, cap, m, n, D, Pl, hcs, hb, hl, hm, hmm, rfl, hi⟩
    · simp at h2; have := bulk_one x.1; omega
    · simp at hcs
      obtain ⟨_, rfl, _⟩ := hcs
      have h1 := bulk_len ((List.range len).map D)
      rw [List.length_map, List.length_range] at h1
      simp only [Rows.uptoBulk]
      omega
  obtain ⟨bs, hb⟩ := bs_of_trod ht he hC h (fun len cap a hc => by have := hlen len cap a hc; unfold big; omega)
  obtain ⟨⟨A, cap0, hv, _⟩, _⟩ := id hb
  exact ⟨bs, hb, hlen _ _ _ hv⟩
theorem open_bsU {r : Reach} {b0 : Nat} {t e : TypeId} {v : Value} {d : DataW H} {p : List MemPlace} (ht : P.underlying t = some (.slice e)) (he : P.underlying e = some (.int .u8)) (hC : P.cellsOf e = 1)
    (hv : Value.okWide P w r b0 t v) (h : DataW.Trod enc P w base spare held t v d p) (hB : Rows.uptoBulk d ≤ 1048576) : ∃ bs, Bs w v bs ∧ bs.length + 1 ≤ Rows.uptoBulk d := by
  obtain ⟨A, len, cap, rfl⟩ := okWide_slice ht hv
  obtain ⟨fuel, hf⟩ := h
  simp only [Value.cells] at hf
  exact bs_upto ht he hC hf hB
/-- how much a list of byte strings holds -/
def bulkL (L : List (List UInt8)) : Nat := (L.map (fun x => x.length + 1)).sum
theorem open_bssU {r : Reach} {b0 : Nat} {T t e : TypeId} {v : Value} {d : DataW H} {p : List MemPlace} (hT : P.underlying T = some (.slice t)) (ht : P.underlying t = some (.slice e)) (he : P.underlying e = some (.int .u8)) (hCt : P.cellsOf t = 1) (hC : P.cellsOf e = 1)
    (hv : Value.okWide P w r b0 T v) (h : DataW.Trod enc P w base spare held T v d p) (hB : Rows.uptoBulk d ≤ 1048576) : ∃ L, Lss (fun g => g < w.heap.size) w v L ∧ bulkL L + 1 ≤ Rows.uptoBulk d := by
  obtain ⟨A, len, cap, rfl⟩ := okWide_slice hT hv
  obtain ⟨fuel, hf⟩ := h
  rcases open_slice1 hT hCt hf with ⟨h2, h3⟩ | ⟨a, len', cap', m, n, V, D, Pl, hcs, hb, hl, hm, hmm, hx, hi⟩
  · simp [Value.cells] at h2
    obtain ⟨rfl, rfl, rfl⟩ := h2
    exact ⟨[], ⟨none, 0, rfl, fun _ => ⟨rfl, rfl⟩, Nat.le_refl _, by unfold maxLen; omega, fun h => by simp at h⟩, by have := bulk_one d; simpa [bulkL] using this⟩
  · simp [Value.cells] at hcs
    obtain ⟨rfl, rfl, rfl⟩ := hcs
    have hlm : len ≤ m := by rw [hmm]; split <;> omega
    simp only [Prod.mk.injEq] at hx
    have hall : Rows.uptoBulkAll ((List.range len).map D) + 1 ≤ Rows.uptoBulk d := by rw [hx.1, ← bulk_slice]; omega
    have hat : ∀ i, i < len → Rows.uptoBulk (D i) ≤ Rows.uptoBulkAll ((List.range len).map D) := by
      intro i hil
      have : ∀ (l : List (DataW H)) (y : DataW H), y ∈ l → Rows.uptoBulk y ≤ Rows.uptoBulkAll l := by
        intro l y hy
        induction l with
        | nil => cases hy
        | cons z r ih =>
          simp only [Rows.uptoBulkAll]
          rcases List.mem_cons.1 hy with e | e
          · subst e; omega
          · have := ih e; omega
      exact this _ _ (List.mem_map.2 ⟨i, by simpa using hil, rfl⟩)
    obtain ⟨L, hLl, hL⟩ := list_choose (P := fun i (x : List UInt8) => (∃ u, w.cell? (a.add i) = some u ∧ Bs w u x) ∧ x.length + 1 ≤ Rows.uptoBulk (D i)) len (fun i hil => by
      obtain ⟨hc, htr⟩ := hi i (by omega)
      obtain ⟨bs, hbs, hbl⟩ := bs_upto ht he hC htr (by have := hat i hil; show Rows.uptoBulk (D i) ≤ _; omega)
      exact ⟨bs, ⟨V i, hc, hbs⟩, hbl⟩)
    refine ⟨L, ⟨some a, cap, by rw [hLl], fun h => (by cases h), by omega, hm, fun hn => ?_⟩, ?_⟩
    · obtain ⟨⟨u0, z, _⟩, _⟩ := hL 0 _ (List.getElem?_eq_getElem hn)
      have za : a = ⟨a.block, a.off, none⟩ := by
        have := cell_spot z
        simp [Addr.add] at this
        exact this
      have hblt := World.block_lt_of_cell? w _ z
      rw [block_of_add] at hblt
      refine ⟨a.block, a.off, by rw [← za], hblt, hblt, fun i x hx => ?_⟩
      obtain ⟨⟨u, h1, h2⟩, _⟩ := hL i x hx
      rw [za, addr_add] at h1
      exact ⟨u, h1, h2, fun g hg hne => h2.lt hne hg⟩
    · have := bulk_sum (fun x : List UInt8 => x.length + 1) L ((List.range len).map D) (by simp [hLl]) (fun i x d hx hd => by
        have hil : i < len := by
          rcases Nat.lt_or_ge i L.length with h | h
          · omega
          · rw [List.getElem?_eq_none h] at hx; cases hx
        rw [List.getElem?_map, List.getElem?_range hil] at hd
        cases hd
        exact (hL i x hx).2)
      unfold bulkL
      omega
theorem uptoBound {l : List (DataW H)} (hk : Rows.uptoSmall H l = true) : Rows.uptoBulkAll l ≤ 1048576 := of_decide_eq_true hk
end
end Go.Proofs.Ythgpkbhilkdckaa

/- The law's 'live' of chapter 1: it returns true. Fresh bytes over St. -/
namespace Go.Proofs.Ythgpkbhilkdckaa
open Go.RowKit
set_option linter.unusedVariables false

section
variable {W w : World} {L : List Asn} {v : Value} {bs : List UInt8}
theorem St.fresh {P : Program} {f : FuncId} {args : Array Value} (h : St W w L) (hc : Calls P f args w (Fresh w bs)) : Calls P f args w fun e w' => ∃ v, e = .returned v ∧ St W w' (aBy v bs :: L) :=
  hc.mono fun e w' ⟨v, he, hr, hb⟩ => ⟨v, he, h.addRow hb hr⟩
theorem St.byBs (h : St W w (aBy v bs :: L)) (hl : bs.length ≤ big) : Bs w v bs := h.rowBs rfl hl
theorem St.bySlice (h : St W w (aBy v bs :: L)) : ∃ A c, v = .slice A bs.length c := h.rowSlice
/-- bytes written out -/
theorem Bs.lit (w : World) (cs : Array Value) (bs : List UInt8) (n : Nat) (h : cs = (cellsB bs).toArray) (hn : n = bs.length) (hl : bs.length ≤ big) : Bs (w.alloc (.cells cs 5)) (.slice (some ⟨w.heap.size, 0, none⟩) n n) bs := by
  subst h hn
  refine ⟨⟨_, _, rfl, fun e => (by cases e), Nat.le_refl _, by unfold big at hl; unfold maxLen; omega, fun ad had => ?_⟩, hl⟩
  cases had
  refine ⟨fun _ => by simp, fun j u hu => ?_⟩
  have ea : (⟨w.heap.size, 0, none⟩ : Addr).add j = ⟨w.heap.size, j, none⟩ := by unfold Addr.add; split <;> simp_all
  rw [ea, (Blk.new w 5 _).cell]
  simpa using hu
end
theorem enc300 : enc 300 = [172, 2] := by rw [enc_ge (by decide), enc_lt (by decide)]; rfl
theorem enc2 : enc 2 = [2] := by rw [enc_lt (by decide)]; rfl
theorem live69a : putB ([] ++ enc 300) [7, 8] = [172, 2, 2, 7, 8] := by
  unfold putB
  rw [enc300, show ([7, 8] : List UInt8).length = 2 from rfl, enc2]; rfl
theorem live69b : numS [172, 2, 2, 7, 8] 0 1000 = (300, [2, 7, 8], 0) := by decide
theorem live69c : bytesS [2, 7, 8] 0 9 = ([7, 8], [], 0) := by decide
set_option maxRecDepth 20000 in
set_option maxHeartbeats 2000000 in
theorem live69 {W w : World} {L : List Asn} (h : St W w L) : Calls Try.prog 69 #[] w fun e w' => e = .returned (.bool true) ∧ St W w' L := by
  have H := Lib.hid h
  have HP := Lib.hid (show Calls Try.prog 70 #[.slice none 0 0, .int .u64 300] w _ from h.fresh (putNum70 (Bs.nil w) 300 (by decide) (by unfold big; decide)))
  have q1 : (([172, 2, 2, 7, 8] : List UInt8) == [172, 2, 2, 7, 8]) = true := by decide
  have q2 : (([7, 8] : List UInt8) == [7, 8]) = true := by decide
  have q3 : doneE [] 0 = 0 := by decide
  clear h
  go_enter Try.func69, Try.ntmps69
  go_wp2_with (first
    | (go_at_call 70; (with_reducible refine HP.out.mono ?_); rintro e w1 ⟨v1, rfl, hS⟩; have H1 := Lib.hid hS; clear hS)
    | (go_at_call 72; (with_reducible refine ((H1.out.later (B.alloc' w1 (.cells #[.int .u8 7, .int .u8 8] 5))).fresh (putBytes72 ((H1.out.byBs (by rw [enc300]; unfold big; decide)).later (B.alloc' w1 (.cells #[.int .u8 7, .int .u8 8] 5))) (Bs.lit w1 #[.int .u8 7, .int .u8 8] [7, 8] 2 rfl rfl (by unfold big; decide)) (by rw [enc300]; unfold big; decide))).mono ?_); rintro e w2 ⟨v2, rfl, hS⟩; rw [live69a] at hS; have H2 := Lib.hid hS; clear hS)
    | (go_at_call 77; (with_reducible refine (St.read77 H2.out (H2.out.byBs (by unfold big; decide))).mono ?_); rintro e w3 ⟨p, rfl, hS⟩; have H3 := Lib.hid hS; have H4 := Lib.hid (hS.later (B.alloc' w3 (.cells #[.int .u8 172, .int .u8 2, .int .u8 2, .int .u8 7, .int .u8 8] 5))); clear hS)
    | (go_at_call 68; (with_reducible refine (equal68 (H4.out.drop.byBs (by unfold big; decide)) (Bs.lit w3 #[.int .u8 172, .int .u8 2, .int .u8 2, .int .u8 7, .int .u8 8] [172, 2, 2, 7, 8] 5 rfl rfl (by unfold big; decide))).mono ?_); rintro e w4 ⟨rfl, rfl⟩; simp only [q1])
    | (go_at_call 85; (with_reducible refine (show Calls Try.prog 85 #[.pointer (some ⟨p, 0, none⟩), .int .u64 1000] _ _ from St.num85 H4.out 1000).mono ?_); rintro e w4 ⟨rfl, hS⟩; rw [live69b] at hS ⊢; have H5 := Lib.hid hS; clear hS)
    | (go_at_call 87; (with_reducible refine (St.bytes87 H5.out 9 (by decide)).mono ?_); rintro e w5 ⟨v5, rfl, hS⟩; rw [live69c] at hS; have H6 := Lib.hid (hS.later (B.alloc' w5 (.cells #[.int .u8 7, .int .u8 8] 5))); clear hS)
    | (go_at_call 68; (with_reducible refine (equal68 (H6.out.byBs (by unfold big; decide)) (Bs.lit w5 #[.int .u8 7, .int .u8 8] [7, 8] 2 rfl rfl (by unfold big; decide))).mono ?_); rintro e w4 ⟨rfl, rfl⟩; simp only [q2])
    | (go_at_call 82; (with_reducible refine (St.done82 H6.out.drop).mono ?_); rintro e w4 ⟨rfl, rfl⟩; simp only [q3]))
  go_ret
  exact ⟨rfl, H6.out.drop.drop.drop.drop⟩
end Go.Proofs.Ythgpkbhilkdckaa

/- Are two lists of byte strings the same: the reference's Same. -/
namespace Go.Proofs.Ythgpkbhilkdckaa
open Go.RowKit
set_option linter.unusedVariables false

set_option maxRecDepth 20000 in
set_option maxHeartbeats 2000000 in
theorem same90 {inn inn' : Nat → Prop} {w : World} {v u : Value} {s t : List (List UInt8)} (h : Lss inn w v s) (k : Lss inn' w u t) : Calls Try.prog 90 #[v, u] w fun e w' => e = .returned (.bool (decide (s = t))) ∧ B w w' := by
  obtain ⟨A, c, rfl, _, hc1, hm1, hr⟩ := h
  obtain ⟨A', c', rfl, _, _, _, hr'⟩ := k
  have HR := Lib.hid hr
  have HR' := Lib.hid hr'
  have hs : s.length ≤ 9223372036854775807 := by unfold maxLen at hm1; omega
  clear hr hr' hc1 hm1
  by_cases hl : s.length = t.length
  · have q1 : ((s.length : Int) != (t.length : Int)) = false := by simp; omega
    rw [← hl]
    have HL := Lib.hid hl
    clear hl
    go_enter Try.func90, Try.ntmps90
    go_wp2_with fail
    go_loopw [5] (fun i wr => ∃ q : Nat, q ≤ s.length ∧ i = .int .i64 q ∧ Hid (∀ j, j < q → s[j]? = t[j]?) ∧ Hid (B w wr)) (fun i _ => s.length - (intOf i).toNat)
    case atStart => exact ⟨0, Nat.zero_le _, rfl, fun j h => by omega, Below.refl _ _⟩
    case round =>
      obtain ⟨q, hq, rfl, HP, HB⟩ := hrel
      by_cases hlt : q < s.length
      · obtain ⟨b, off, rfl, hb, _, hc⟩ := HR.out (by omega)
        obtain ⟨b', off', rfl, hb', _, hc'⟩ := HR'.out (by have := HL.out; omega)
        have hq' : q < t.length := by have := HL.out; omega
        obtain ⟨u1, k1, k2, _⟩ := hc q _ (List.getElem?_eq_getElem hlt)
        obtain ⟨u2, k3, k4, _⟩ := hc' q _ (List.getElem?_eq_getElem hq')
        have K1 := Lib.hid (HB.out.cell k1)
        have K3 := Lib.hid (HB.out.cell k3)
        have K2 := Lib.hid (k2.later HB.out)
        have K4 := Lib.hid (k4.later HB.out)
        have HS := Lib.hid (List.getElem?_eq_getElem hlt)
        have HT := Lib.hid (List.getElem?_eq_getElem hq')
        have hqi : (q : Int) < s.length := by omega
        generalize s[q] = x at *
        generalize t[q] = y at *
        clear hc hc' hq' k1 k2 k3 k4
        have l1 : ∀ w', B wr w' → w'.cell? ⟨b, off + q, none⟩ = some u1 := fun w' hb => hb.cell K1.out
        have l2 : ∀ w', B wr w' → w'.cell? ⟨b', off' + q, none⟩ = some u2 := fun w' hb => hb.cell K3.out
        have l3 : ∀ w', B wr w' → (convert 47 9 u1).run Try.prog w' = .ok (.string (bstr x)) w' := fun w' h => (K2.out.later h).conv Try.underlying47 Try.underlying5 Try.underlying9
        have l4 : ∀ w', B wr w' → (convert 47 9 u2).run Try.prog w' = .ok (.string (bstr y)) w' := fun w' h => (K4.out.later h).conv Try.underlying47 Try.underlying5 Try.underlying9
        by_cases e1 : x = y
        · have E := Lib.hid e1
          subst e1
          go_wp2_with fail
          go_region_held3 (fun w' => B wr w') (first | exact B.trans (by assumption) hb | exact (Below.refl _ _).drew | assumption) (fail)
          have hlast := ‹B wr _›
          go_wp2_with fail
          go_roundw
          case rel => exact ⟨q + 1, by omega, by go_num, fun j hj => by
            by_cases e : j = q
            · rw [e, HS.out, HT.out]
            · exact HP.out j (by omega), HB.out.trans hlast⟩
          case measure => simp [intOf]; omega
        · have g0 : (bstr x == bstr y) = false := by rw [bstr_beq]; simpa using e1
          have g1 : (bstr x != bstr y) = true := by simp [bne, g0]
          have g2 : ((bstr x).toList == (bstr y).toList) = false := by rw [bstr_toList, bstr_toList]; simpa using e1
          have E := Lib.hid (show decide (s = t) = false from decide_eq_false (fun e => e1 (by have h1 := HS.out; rw [e, HT.out] at h1; injection h1 with h1; rw [h1])))
          clear e1
          go_wp2_with fail
          go_region_held3 (fun w' => B wr w') (first | exact B.trans (by assumption) hb | exact (Below.refl _ _).drew | assumption) (fail)
          have hlast := ‹B wr _›
          go_wp2_with fail
          go_ret
          exact ⟨retB E.out.symm, HB.out.trans hlast⟩
      · have E := Lib.hid (show decide (s = t) = true from decide_eq_true (List.ext_getElem? fun j => by
          by_cases hj : j < q
          · exact HP.out j hj
          · rw [List.getElem?_eq_none (by omega), List.getElem?_eq_none (by have := HL.out; omega)]))
        have hqi : ¬ (q : Int) < s.length := by omega
        go_wp2_with fail
        go_ret
        exact ⟨retB E.out.symm, HB.out⟩
  · have q1 : ((s.length : Int) != (t.length : Int)) = true := by simp; omega
    have E := Lib.hid (show decide (s = t) = false from decide_eq_false (fun e => hl (by rw [e])))
    clear hl
    go_enter Try.func90, Try.ntmps90
    go_wp2
    go_ret
    exact ⟨retB E.out.symm, Below.refl _ _⟩
end Go.Proofs.Ythgpkbhilkdckaa

/- CodecPuts: the walk. -/
namespace Go.Proofs.Ythgpkbhilkdckaa
open Go.RowKit
set_option linter.unusedVariables false

theorem enc_small {x : List UInt8} (h : x.length ≤ 1048576) : (enc x.length).length ≤ 10 := enc_10 (by omega)
theorem bulk_at {L : List (List UInt8)} {i : Nat} {x : List UInt8} (h : L[i]? = some x) : x.length + 1 ≤ bulkL L := by
  unfold bulkL
  have hm : x ∈ L := List.mem_of_getElem? h
  induction L generalizing i with
  | nil => cases hm
  | cons y r ih =>
    simp only [List.map_cons, List.sum_cons]
    rcases List.mem_cons.1 hm with e | e
    · subst e; omega
    · obtain ⟨j, hj, hj2⟩ := List.mem_iff_getElem.1 e
      have := ih (i := j) (by rw [List.getElem?_eq_getElem hj, hj2]) e; omega
theorem bulk_length (L : List (List UInt8)) : L.length ≤ bulkL L := by
  unfold bulkL
  induction L with
  | nil => simp
  | cons x r ih => simp only [List.map_cons, List.sum_cons, List.length_cons]; omega
theorem putS_bulk (L : List (List UInt8)) (h : bulkL L ≤ 1048576) : (putS L).length ≤ 11 * bulkL L := by
  induction L with
  | nil => simp [putS]
  | cons x r ih =>
    have hx : x.length + 1 + bulkL r = bulkL (x :: r) := by simp [bulkL]
    have := ih (by omega)
    have he := enc_small (x := x) (by omega)
    rw [putS_cons]
    simp only [List.length_append]
    omega
theorem putL_bulk {bs : List UInt8} {L : List (List UInt8)} (h : bulkL L ≤ 1048576) (hb : bs.length ≤ 1048576) : (putL bs L).length + 10 ≤ 20000000 := by
  have h1 := putS_bulk L h
  have h2 := bulk_length L
  have h3 : (enc L.length).length ≤ 10 := enc_10 (by omega)
  simp only [putL, List.length_append]
  omega

theorem Bs.zero (w : World) (a : Addr) : Bs w (.slice (some a) 0 0) [] :=
  ⟨⟨some a, 0, rfl, fun e => (by cases e), Nat.le_refl _, by unfold maxLen; omega, fun ad had => ⟨fun h => absurd rfl h, fun j u hu => by simp [cellsB] at hu⟩⟩, by simp [big]⟩
set_option maxRecDepth 20000 in
set_option maxHeartbeats 4000000 in
theorem codecPuts_walk {W : World} {u ul : Value} {bs : List UInt8} {n : Nat} {L : List (List UInt8)} (hb : Bs W u bs) (hn : n < 18446744073709551616) (hL : Lss (fun g => g < W.heap.size) W ul L) (h1 : bs.length ≤ 1048576) (h2 : bulkL L ≤ 1048576) :
    Calls Try.prog 10 #[u, .int .u64 (n : Int), ul] W fun e w' => e = .returned (.bool true) ∧ B W w' := by
  have HB := Lib.hid hb
  have HN := Lib.hid hn
  have HL := Lib.hid hL
  have H1 := Lib.hid h1
  have H2 := Lib.hid h2
  have HPL := Lib.hid (putL_bulk h2 h1)
  have HE := Lib.hid (enc_10 hn)
  obtain ⟨A, c, rfl, _, hc1, hm1, hr⟩ := hL
  have hs : (L.length : Int) ≤ 9223372036854775807 := by unfold maxLen at hm1; omega
  have HR := Lib.hid hr
  clear hr hc1 hm1 hb hn h1 h2
  by_cases h0 : 0 < L.length
  case' pos =>
    obtain ⟨b, off, rfl, hb, _, hc⟩ := HR.out h0
    obtain ⟨u1, k1, k2, _⟩ := hc 0 _ (List.getElem?_eq_getElem h0)
    have hX := bulk_at (List.getElem?_eq_getElem h0)
    have hli : (0 : Int) < L.length := by omega
    generalize L[0] = x at *
    have K2 := Lib.hid k2
    have K1 := Lib.hid (show W.cell? ⟨b, off, none⟩ = some u1 by simpa using k1)
    have HXL := Lib.hid (show x.length ≤ 1048576 by have := H2.out; omega)
    clear hc k2 hX h0 k1 HR
    go_enter Try.func10, Try.ntmps10
    go_wp2_with (first
      | (go_at_call 69; (with_reducible refine (live69 (St.nil W)).mono ?_); rintro e w1 ⟨rfl, hS⟩; have HS1 := Lib.hid (hS.later (B.alloc' w1 (.cells #[] 5))); have k1 := HS1.out.b.cell K1.out; clear hS))
    have HX := Lib.hid (fun w' (hb : B W w') => K2.out.later hb)
  case' neg =>
    have hli : ¬ (0 : Int) < L.length := by omega
    have HXL := Lib.hid (show ([] : List UInt8).length ≤ 1048576 by simp)
    obtain ⟨x, hx⟩ : ∃ x : List UInt8, x = [] := ⟨_, rfl⟩
    rw [← hx] at HXL
    have HXE := Lib.hid hx
    clear h0 HR hx
    go_enter Try.func10, Try.ntmps10
    go_wp2_with (first
      | (go_at_call 69; (with_reducible refine (live69 (St.nil W)).mono ?_); rintro e w1 ⟨rfl, hS⟩; have HS1 := Lib.hid (hS.later (B.alloc' w1 (.cells #[] 5))); clear hS))
    have HX := Lib.hid (fun w' (hb : B W w') => show Bs w' (.slice (some ⟨w1.heap.size, 0, none⟩) 0 0) x from by rw [HXE.out]; exact Bs.zero _ _)
  all_goals
    generalize w1.alloc (.cells #[] 5) = w2 at *
    have LB := Lib.hid (show bs.length + 10 ≤ big by have := H1.out; unfold big; omega)
    have LX := Lib.hid (show (bs ++ x).length + 10 ≤ big by have := H1.out; have := HXL.out; unfold big; simp; omega)
    have LP := Lib.hid (show (putL bs L).length + 10 ≤ big by have := HPL.out; unfold big; omega)
    have LQ := Lib.hid (show (putL bs L).length ≤ big by have := LP.out; omega)
    have LN := Lib.hid (show ([] : List UInt8).length + 10 ≤ big by unfold big; decide)
    have LZ := Lib.hid (show (bs ++ enc n).length ≤ big by have := H1.out; have := HE.out; unfold big; simp; omega)
    have LY := Lib.hid (show (putB bs x).length ≤ big by have := H1.out; have := enc_small HXL.out; have := HXL.out; unfold big; simp [putB]; omega)
    go_wp2_with (first
      | (go_at_call 70; (with_reducible refine (HS1.out.fresh (putNum70 (HB.out.later HS1.out.b) n HN.out LB.out)).mono ?_); rintro e w3 ⟨v3, rfl, hS⟩; have HS3 := Lib.hid hS; clear hS)
      | (go_at_call_of 71 u; (with_reducible refine (HS3.out.fresh (putNum71 (HB.out.later HS3.out.b) n HN.out LB.out)).mono ?_); rintro e w4 ⟨v4, rfl, hS⟩; have HS4 := Lib.hid hS; clear hS)
      | (go_at_call 68; (with_reducible refine (equal68 (HS4.out.drop.byBs LZ.out) (HS4.out.byBs LZ.out)).mono ?_); rintro e w9 ⟨rfl, rfl⟩; simp only [beq_self_eq_true])
      | (go_at_call 72; (with_reducible refine (HS4.out.fresh (putBytes72 (HB.out.later HS4.out.b) (HX.out _ HS4.out.b) LX.out)).mono ?_); rintro e w5 ⟨v5, rfl, hS⟩; have HS5 := Lib.hid hS; clear hS)
      | (go_at_call 73; (with_reducible refine (HS5.out.fresh (putBytes73 (HB.out.later HS5.out.b) (HX.out _ HS5.out.b) LX.out)).mono ?_); rintro e w6 ⟨v6, rfl, hS⟩; have HS6 := Lib.hid hS; clear hS)
      | (go_at_call 68; (with_reducible refine (equal68 (HS6.out.drop.byBs LY.out) (HS6.out.byBs LY.out)).mono ?_); rintro e w9 ⟨rfl, rfl⟩; simp only [beq_self_eq_true])
      | (go_at_call 74; (with_reducible refine (HS6.out.fresh (putList74 (HB.out.later HS6.out.b) (HL.out.later HS6.out.b) LP.out)).mono ?_); rintro e w7 ⟨v7, rfl, hS⟩; have HS7 := Lib.hid hS; clear hS)
      | (go_at_call 75; (with_reducible refine (HS7.out.fresh (putList75 (HB.out.later HS7.out.b) (HL.out.later HS7.out.b) LP.out)).mono ?_); rintro e w8 ⟨v8, rfl, hS⟩; have HS8 := Lib.hid hS; clear hS)
      | (go_at_call 68; (with_reducible refine (equal68 (HS8.out.drop.byBs LQ.out) (HS8.out.byBs LQ.out)).mono ?_); rintro e w9 ⟨rfl, rfl⟩; simp only [beq_self_eq_true])
      | (go_at_call 76; (with_reducible refine (numLen76 _ n HN.out).mono ?_); rintro e w9 ⟨rfl, hb9⟩; have HS9 := Lib.hid (HS8.out.later hb9); clear hb9)
      | (go_at_call 71; (with_reducible refine (HS9.out.fresh (putNum71 (Bs.nil _) n HN.out LN.out)).mono ?_); rintro e w10 ⟨v10, rfl, hS⟩; have HS10 := Lib.hid hS; obtain ⟨A10, c10, rfl⟩ := hS.bySlice; clear hS))
    go_ret
    exact ⟨by simp, HS10.out.b⟩
end Go.Proofs.Ythgpkbhilkdckaa
