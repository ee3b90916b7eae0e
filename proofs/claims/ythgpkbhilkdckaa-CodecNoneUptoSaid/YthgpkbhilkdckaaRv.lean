/- From of the two tables. -/
import Derived.Test.YthgpkbhilkdckaaRu
namespace Go.Proofs.Ythgpkbhilkdckaa
open Go.RowKit
set_option linter.unusedVariables false

/-- the code From answers -/
def fromC (L : List (List UInt8)) : Int := if 1048576 < L.length then 3 else if L.Nodup then 0 else 5
def FromPost (TA : (Nat → Prop) → World → Nat → List (List UInt8) → Prop) (w : World) (L : List (List UInt8)) (e : Ending) (w' : World) : Prop :=
  B w w' ∧ ((fromC L = 0 ∧ ∃ p, e = .returned (.tuple #[.pointer (some ⟨p, 0, none⟩), .int .i64 0]) ∧ TA (fun x => w.heap.size ≤ x) w' p L) ∨ (fromC L ≠ 0 ∧ e = .returned (.tuple #[.pointer none, .int .i64 (fromC L)])))
theorem B_of_ext {own : Nat → Prop} {w0 w w' : World} (h : B w0 w) (hx : Ext own w w') (ho : ∀ x, own x → w0.heap.size ≤ x) : B w0 w' :=
  h.trans' hx (fun x hx h => by have := ho x h; omega)
theorem fromC_dup {L : List (List UInt8)} {q : Nat} {x : List UInt8} (hl : L.length ≤ 1048576) (hx : L[q]? = some x) (hm : x ∈ L.take q) : fromC L = 5 := by
  unfold fromC
  rw [if_neg (by omega), if_neg]
  intro hn
  obtain ⟨j, hj, e⟩ := List.mem_iff_getElem.1 hm
  have hj' : j < q ∧ j < L.length := by simp at hj; omega
  have hq : q < L.length := by
    rcases Nat.lt_or_ge q L.length with h | h
    · exact h
    · rw [List.getElem?_eq_none h] at hx; cases hx
  have e2 : L[q] = x := by rw [List.getElem?_eq_getElem hq] at hx; simpa using hx
  have e1 : L[j] = x := by rw [← e]; simp
  have := (List.getElem_inj hn).1 (e1.trans e2.symm)
  omega
theorem nodup_snoc {L : List (List UInt8)} {q : Nat} {x : List UInt8} (hx : L[q]? = some x) (hm : x ∉ L.take q) (h : (L.take q).Nodup) : (L.take (q + 1)).Nodup := by
  rw [List.take_add_one, hx]
  simp only [Option.toList]
  rw [List.nodup_append]
  exact ⟨h, by simp, fun a ha b hb => by simp at hb; subst hb; exact fun e => hm (e ▸ ha)⟩
theorem fromC_all {L : List (List UInt8)} {q : Nat} (hl : L.length ≤ 1048576) (hq : ¬ q < L.length) (h : (L.take q).Nodup) : fromC L = 0 ∧ L.take q = L := by
  rw [List.take_of_length_le (by omega)] at *
  unfold fromC
  rw [if_neg (by omega), if_pos h]
  exact ⟨rfl, rfl⟩
theorem lkB_true {M : List (List UInt8)} {b : List UInt8} (h : b ∈ M) : lkB M b = true := by rw [lkB_iff]; simpa using h
theorem lkB_false {M : List (List UInt8)} {b : List UInt8} (h : b ∉ M) : lkB M b = false := by rw [lkB_iff]; simpa using h
theorem sumM_new {L : List (List UInt8)} {q : Nat} {x : List UInt8} (hl : L.length ≤ 1048576) (hx : L[q]? = some x) (hm : x ∉ L.take q) : sumM (L.take q) x = L.take (q + 1) := by
  have hq : q < L.length := by
    rcases Nat.lt_or_ge q L.length with h | h
    · exact h
    · rw [List.getElem?_eq_none h] at hx; cases hx
  unfold sumM
  rw [if_neg hm, if_neg (by simp; omega), List.take_add_one, hx]
  rfl

set_option maxRecDepth 20000 in
set_option maxHeartbeats 1000000 in
theorem from48 {inn : Nat → Prop} {w : World} {v : Value} {L : List (List UInt8)} (h : Lss inn w v L) : Calls Try.prog 48 #[v] w (FromPost TableAt w L) := by
  obtain ⟨A, c, rfl, _, hc1, hm1, hr⟩ := h
  have HR := Lib.hid hr
  have hs : (L.length : Int) ≤ 9223372036854775807 := by unfold maxLen at hm1; omega
  clear hr hc1 hm1
  by_cases hl : 1048576 < L.length
  · have E := Lib.hid (show FromPost TableAt w L (.returned (.tuple #[.pointer none, .int .i64 3])) w from ⟨Below.refl _ _, .inr (by unfold fromC; rw [if_pos hl]; exact ⟨by decide, rfl⟩)⟩)
    have hd : decide ((1048576 : Int) < (L.length : Int)) = true := decide_eq_true (by omega)
    clear hl
    go_enter Try.func48, Try.ntmps48
    go_wp2
    go_ret2
    exact E.out
  · have hd : decide ((1048576 : Int) < (L.length : Int)) = false := decide_eq_false (by omega)
    have HL := Lib.hid (show L.length ≤ 1048576 by omega)
    clear hl
    go_enter Try.func48, Try.ntmps48
    go_wp2_with (first | (go_at_call 61; refine (newTable61 w).mono ?_; rintro e w1 ⟨rfl, hw1⟩; have T1 := (TableAt.new w).mono (own' := fun x => w.heap.size ≤ x) (fun b hb => by omega); have B1 : B w ((w.alloc (.map #[] 0)).alloc (.cells #[.slice none 0 0, .map (some w.heap.size)] 105)) := (B.alloc' _ _).trans (B.alloc' _ _); rw [← hw1] at T1 B1; clear hw1))
    generalize w.heap.size + 1 = p at *
    go_loopw [15] (fun i wr => ∃ q : Nat, q ≤ L.length ∧ i = .int .i64 q ∧ (L.take q).Nodup ∧ TableAt (fun x => w.heap.size ≤ x) wr p (L.take q) ∧ B w wr) (fun i _ => L.length - (intOf i).toNat)
    case atStart => exact ⟨0, Nat.zero_le _, rfl, by simp, by simpa using T1, B1⟩
    case round =>
      obtain ⟨q, hq, rfl, hnd, hT, hB⟩ := hrel
      have HN := Lib.hid hnd
      have HT := Lib.hid hT
      clear hnd hT T1 B1
      by_cases hlt : q < L.length
      · obtain ⟨b, off, rfl, hb, _, hc⟩ := HR.out (by omega)
        obtain ⟨u1, k1, k2, k3⟩ := hc q _ (List.getElem?_eq_getElem hlt)
        have k1 := hB.cell k1
        have K2 := Lib.hid k2
        have K3 := Lib.hid k3
        have k4 := k2.later hB
        have HS := Lib.hid (List.getElem?_eq_getElem hlt)
        have hqi : (q : Int) < L.length := by omega
        generalize L[q] = x at *
        clear hc k2 k3
        have hvo := Lib.hid (show ∀ g, u1.ownBlock = some g → x ≠ [] → ¬ w.heap.size ≤ g from fun g hg hne h => by have := K2.out.lt hne hg; omega)
        by_cases e1 : x ∈ L.take q
        · have g1 := lkB_true e1
          have E := Lib.hid (fromC_dup HL.out HS.out e1)
          clear e1
          go_wp2_with (first | (go_at_call 66; refine (look66 HT.out k4).mono ?_; rintro e wn ⟨rfl, hbn⟩; simp only [g1]))
          go_ret2
          exact ⟨hB.trans hbn, .inr ⟨by rw [E.out]; decide, by rw [E.out]; rfl⟩⟩
        · have g1 := lkB_false e1
          have E := Lib.hid (sumM_new HL.out HS.out e1)
          have E2 := Lib.hid (nodup_snoc HS.out e1 HN.out)
          clear e1
          go_wp2_with (first
            | (go_at_call 66; refine (look66 HT.out k4).mono ?_; rintro e wn ⟨rfl, hbn⟩; simp only [g1])
            | (go_at_call 52; refine (sum52 (HT.out.later hbn) (k4.later hbn) hvo.out).mono ?_; rintro e wm ⟨rfl, hTm, hxm⟩))
          rw [E.out] at hTm
          have hBm := B_of_ext (hB.trans hbn) hxm (fun x h => h)
          have hTm := hTm.mono (own' := fun x => w.heap.size ≤ x) (fun x h => by have := (hB.trans hbn).size; omega)
          go_roundw
          case rel => exact ⟨q + 1, by omega, by go_num, E2.out, hTm, hBm⟩
          case measure => simp [intOf]; omega
      · have E := Lib.hid (fromC_all HL.out hlt HN.out)
        have hT := HT.out
        rw [E.out.2] at hT
        have hqi : ¬ (q : Int) < L.length := by omega
        go_wp2_with fail
        go_ret2
        exact ⟨hB, .inl ⟨E.out.1, p, rfl, hT⟩⟩

set_option maxRecDepth 20000 in
set_option maxHeartbeats 2000000 in
theorem from49 {inn : Nat → Prop} {w : World} {v : Value} {L : List (List UInt8)} (h : Lss inn w v L) : Calls Try.prog 49 #[v] w (FromPost RefT w L) := by
  obtain ⟨A, c, rfl, _, hc1, hm1, hr⟩ := h
  have HR := Lib.hid hr
  have hs : (L.length : Int) ≤ 9223372036854775807 := by unfold maxLen at hm1; omega
  clear hr hc1 hm1
  by_cases hl : 1048576 < L.length
  · have E := Lib.hid (show FromPost RefT w L (.returned (.tuple #[.pointer none, .int .i64 3])) w from ⟨Below.refl _ _, .inr (by unfold fromC; rw [if_pos hl]; exact ⟨by decide, rfl⟩)⟩)
    have hd : decide ((1048576 : Int) < (L.length : Int)) = true := decide_eq_true (by omega)
    clear hl
    go_enter Try.func49, Try.ntmps49
    go_wp2
    go_ret2
    exact E.out
  · have hd : decide ((1048576 : Int) < (L.length : Int)) = false := decide_eq_false (by omega)
    have HL := Lib.hid (show L.length ≤ 1048576 by omega)
    clear hl
    have T1 := (RefT.new w).mono (own' := fun x => w.heap.size ≤ x) (fun b hb => by omega)
    have B1 : B w (w.alloc (.cells #[.slice none 0 0] 59)) := B.alloc' _ _
    go_enter Try.func49, Try.ntmps49
    go_wp2_with fail
    generalize w.alloc (.cells #[.slice none 0 0] 59) = w1 at *
    generalize hp0 : w.heap.size = p0 at *
    have HP0 := Lib.hid hp0
    clear hp0
    go_loopw [5] (fun i wr => ∃ q : Nat, q ≤ L.length ∧ i = .int .i64 q ∧ (L.take q).Nodup ∧ RefT (fun x => p0 ≤ x) wr p0 (L.take q) ∧ B w wr) (fun i _ => L.length - (intOf i).toNat)
    case atStart => exact ⟨0, Nat.zero_le _, rfl, by simp, by simpa using T1, B1⟩
    case round =>
      obtain ⟨q, hq, rfl, hnd, hT, hB⟩ := hrel
      have HN := Lib.hid hnd
      have HT := Lib.hid hT
      clear hnd hT T1 B1
      by_cases hlt : q < L.length
      · obtain ⟨b, off, rfl, hb, _, hc⟩ := HR.out (by omega)
        obtain ⟨u1, k1, k2, k3⟩ := hc q _ (List.getElem?_eq_getElem hlt)
        have k1 := hB.cell k1
        have k4 := k2.later hB
        have HS := Lib.hid (List.getElem?_eq_getElem hlt)
        have hqi : (q : Int) < L.length := by omega
        have hMl : (L.take q).length = q := by simp; omega
        have hMs : (L.take q).length < 1048576 := by have := HL.out; omega
        generalize L[q] = x at *
        clear hc k2 k3
        by_cases e1 : x ∈ L.take q
        · have g1 := lkB_true e1
          have E := Lib.hid (fromC_dup HL.out HS.out e1)
          have hLk := Lib.hid (rlook67 HT.out (by omega) k4)
          clear e1 hMl hMs
          go_wp2_with (first | (go_at_call 67; refine hLk.out.mono ?_; rintro e wn ⟨rfl, rfl⟩; simp only [g1]))
          go_ret2
          exact ⟨hB, .inr ⟨by rw [E.out]; decide, by rw [E.out]; rfl⟩⟩
        · have g1 := lkB_false e1
          have E := Lib.hid (show L.take q ++ [x] = L.take (q + 1) by rw [List.take_add_one, HS.out]; rfl)
          have E2 := Lib.hid (nodup_snoc HS.out e1 HN.out)
          have hLk := Lib.hid (rlook67 HT.out (by omega) k4)
          have hT := HT.out
          clear e1 HN HT HS
          generalize L.take q = M at *
          obtain ⟨v0, vs, m1, m3, m4, m6, m7⟩ := id hT
          obtain ⟨A0, cap, rfl⟩ := own_slice m6
          have l0 : ∀ w', B wr w' → w'.cell? ⟨p0, 0, none⟩ = some (.slice A0 M.length cap) := fun w' hb => by have := (m4.later hb).cell 0; simpa using this
          have c0 := l0 wr (Below.refl _ _)
          have hBd : B wr wr.drew := (Below.refl _ _).drew
          have G1 := Lib.hid hMs
          have g3 : 0 + x.length ≤ maxLen := by have := k4.len; unfold big at this; unfold maxLen; omega
          have g4 : (0 + x.length) * 1 ≤ 140737488355328 := by have := k4.len; unfold big at this; omega
          have g5 : M.length + 1 ≤ maxLen := by unfold maxLen; omega
          have g6 : (M.length + 1) * 24 ≤ 140737488355328 := by omega
          have ho2 : ∀ (A : Option Addr) (n c : Nat), ∀ x ∈ [Value.slice A n c], x.oneCell' = true := fun A n c => by simp [Value.oneCell']
          have hz : ∀ (g k : Nat), (Value.slice none 0 0).ownBlock = some k → g ≤ k := fun g k hk => by simp [Value.ownBlock] at hk
          have HM := Lib.hid hMl
          have hP : p0 < wr.heap.size := m4.lt
          clear hMl hMs
          go_wp2_with (first | (go_at_call 67; refine hLk.out.mono ?_; rintro e wn ⟨rfl, rfl⟩; simp only [g1]))
          go_region_law (first
            | (refine step_append_Rd (v := .slice none 0 0) (base := 0) rfl (.const (.slice none 0 0)) (.tmp 37) 47 rfl Try.underlying47 info5 rfl Nat.zero_lt_one rfl rfl (ownNil _ 0 5 1) (k4.later hBd).rd (cellsB_one x) g3 g4 (Nat.zero_le _) ?_; intro A2 c2 w2 r2 x2 y2; simp only [Nat.zero_add, List.nil_append] at r2 y2; have hB2 : B wr w2 := B.grown hBd x2 (hz _); have pa := l0 _ hB2; have pb := l0 _ (hB2.trans (B.alloc' _ (.cells #[.slice A2 x.length c2] 47))))
            | (refine step_append_Rd (v := .slice A0 M.length cap) rfl (.tmp 33) (.tmp 39) 46 rfl Try.underlying46 info47 rfl Nat.zero_lt_one rfl rfl (row_later m6 (hB2.trans (B.alloc' _ _))) (Rd.one _ _ _) (ho2 _ _ _) g5 g6 (Nat.zero_le _) ?_; intro A3 c3 w3 r3 x3 y3; have kP := ((m4.later hB2).alloc (.cells #[.slice A2 x.length c2] 47)).grown x3 (fun e => row_ne m6 m4 (by decide) e.symm); have p0' := kP.cell 0; have pf := kP.frozen 0; simp at p0'))
          all_goals
            have hBa : B wr (w2.alloc (.cells #[.slice A2 x.length c2] 47)) := hB2.trans (B.alloc' _ _)
            have q1 := row_later m6 hBa
            have q2 := row_later r2 (B.alloc' w2 (.cells #[.slice A2 x.length c2] 47))
            have g2' : ∀ g, (Value.slice A2 x.length c2).ownBlock = some g → p0 ≤ g := fun g hg => by
              rcases y2 with e | e
              · rw [e] at hg; simp [Value.ownBlock] at hg
              · rw [e] at hg; simp at hg; omega
            have s2 := hB2.size
            have g3' : ∀ g, (Value.slice A3 (M.length + 1) c3).ownBlock = some g → p0 ≤ g := fun g hg => by
              rcases y3 with e | e
              · rw [e] at hg; exact m3 g hg
              · rw [e] at hg; simp at hg; omega
            have hgx : Ext (fun g => some g = (Value.slice A0 M.length cap).ownBlock) (w2.alloc (.cells #[.slice A2 x.length c2] 47)) w3 := (Ext.refl _ _).grown x3 (fun g e _ => e.symm)
            have hsx : Ext (fun g => g = p0) w3 (w3.setCell ⟨p0, 0, none⟩ (.slice A3 (M.length + 1) c3)) := (Ext.refl (fun g => g = p0) w3).set (p := ⟨p0, 0, none⟩) (fun _ => rfl) _
            have f4 := kP.set_ 0 (.slice A3 (M.length + 1) c3)
            have f6 := row_ext r3 hsx (fun g hg e => row_ne r3 kP (by decide) (by rw [hg, e]))
            have f7 := ((m7.later hBa).ext hgx (fun g cs _ hB' e => row_ne q1 hB' (by decide) e.symm)).ext hsx (fun g cs _ hB' e => by subst e; exact Blk.ne hB' kP (by decide) rfl)
            have q3 := row_ext q2 hgx (fun g hg e => row_row q1 q2 (by decide) e.symm hg)
            have f8 := row_ext q3 hsx (fun g hg e => row_ne q3 kP (by decide) (by rw [hg, e]))
            have hx : Ext (fun x => p0 ≤ x) wr (w3.setCell ⟨p0, 0, none⟩ (.slice A3 (M.length + 1) c3)) := ((Ext.of_B hBa).grown x3 (fun g e _ => m3 g e)).set (p := ⟨p0, 0, none⟩) (fun _ => m1) _
            have hBf := B_of_ext hB hx (fun x h => by rw [HP0.out]; exact h)
            have hF : RefT (fun x => p0 ≤ x) (w3.setCell ⟨p0, 0, none⟩ (.slice A3 (M.length + 1) c3)) p0 (M ++ [x]) :=
              ⟨.slice A3 (M.length + 1) c3, vs ++ [.slice A2 x.length c2], m1, g3', by simpa using f4, by simpa using f6, f7.snoc f8 k4.len g2'⟩
            rw [E.out] at hF
            clear pa pb p0' pf c0 l0 g1 k1 hsx hgx hx
            go_wp2_with fail
            go_roundw
            case rel => exact ⟨q + 1, by omega, by go_num, E2.out, hF, hBf⟩
            case measure => simp [intOf]; omega
      · have E := Lib.hid (fromC_all HL.out hlt HN.out)
        have hT := HT.out
        rw [E.out.2] at hT
        have hqi : ¬ (q : Int) < L.length := by omega
        go_wp2_with fail
        go_ret2
        exact ⟨hB, .inl ⟨E.out.1, p0, rfl, by rw [HP0.out]; exact hT⟩⟩
end Go.Proofs.Ythgpkbhilkdckaa
