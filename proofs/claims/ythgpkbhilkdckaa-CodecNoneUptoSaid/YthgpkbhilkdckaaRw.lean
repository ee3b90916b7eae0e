/- Plain and Clone of package ideal's table. -/
import Derived.Test.YthgpkbhilkdckaaRv
namespace Go.Proofs.Ythgpkbhilkdckaa
open Go.RowKit
set_option linter.unusedVariables false

def PlainPost (w : World) (M : List (List UInt8)) (e : Ending) (w' : World) : Prop := ∃ v', e = .returned v' ∧ Lss (fun g => w.heap.size ≤ g) w' v' M ∧ B w w'
set_option maxRecDepth 20000 in
set_option maxHeartbeats 1000000 in
theorem plain51 {own : Nat → Prop} {w : World} {p : Nat} {M : List (List UInt8)} (h : TableAt own w p M) (hlen : M.length ≤ 1048576) : Calls Try.prog 51 #[.pointer (some ⟨p, 0, none⟩)] w (PlainPost w M) := by
  obtain ⟨u, c0, hL⟩ := h.lss
  obtain ⟨A, cap, rfl, hn, hc, hm, hr⟩ := hL
  have HR := Lib.hid hr
  have H := Lib.hid h
  have HL := Lib.hid hlen
  clear hr hn hc hm h hlen
  go_enter Try.func51, Try.ntmps51
  go_wp2_with (first | (go_at_call 113; refine (tnone113 H.out).mono ?_; rintro e wn ⟨rfl, rfl⟩))
  clear c0
  go_loopw [3, 14] (fun v i wr => ∃ (q : Nat) (vs : List Value), q ≤ M.length ∧ i = .int .i64 q ∧ wr.ownsRow w.heap.size 47 1 v q vs ∧ Els (fun g => w.heap.size ≤ g) wr vs (M.take q) ∧ B w wr) (fun _ i _ => M.length - (intOf i).toNat)
  case atStart => exact ⟨0, [], Nat.zero_le _, rfl, ownNil _ _ _ _, Els.nil _ _, Below.refl _ _⟩
  case round =>
    obtain ⟨q, vs, hq, rfl, ho, hE, hB⟩ := hrel
    by_cases hlt : q < M.length
    · obtain ⟨b, off, rfl, hb, _, hc⟩ := HR.out (by omega)
      obtain ⟨u1, k1, k2, _⟩ := hc q _ (List.getElem?_eq_getElem hlt)
      have k1 := hB.cell k1
      have k4 := k2.later hB
      have HS := Lib.hid (List.getElem?_eq_getElem hlt)
      have hqi : (q : Int) < M.length := by omega
      generalize M[q] = x at *
      have hMl : (M.take q).length = q := by simp; omega
      have E := Lib.hid (show M.take q ++ [x] = M.take (q + 1) by rw [List.take_add_one, HS.out]; rfl)
      have HM := Lib.hid hMl
      have g5 : q + 1 ≤ maxLen := by have := HL.out; unfold maxLen; omega
      have g6 : (q + 1) * 24 ≤ 140737488355328 := by have := HL.out; omega
      have ho2 : ∀ (A : Option Addr) (n c : Nat), ∀ x ∈ [Value.slice A n c], x.oneCell' = true := fun A n c => by simp [Value.oneCell']
      obtain ⟨A3, c3, rfl⟩ := own_slice ho
      have HO := Lib.hid ho
      have hBs := hB.size
      have hcl := Lib.hid (clone89 k4)
      have K4L := Lib.hid k4.len
      clear hc k2 hMl ho k4
      go_wp2_with (first
        | (go_at_call 89; refine hcl.out.mono ?_; rintro e w1 ⟨v1, rfl, r1, hb1⟩; obtain ⟨A1, c1, rfl⟩ := own_slice r1; have hb1s := hb1.size; have hq1 := row_later HO.out (hb1.trans (B.alloc' _ (.cells #[.slice A1 x.length c1] 47))))
        | (refine wpList_append_Rd (v := .slice A3 q c3) rfl (.tmp 18) (.tmp 21) 46 rfl Try.underlying46 info47 rfl Nat.zero_lt_one rfl rfl hq1 (Rd.one _ _ _) (ho2 _ _ _) g5 g6 (Nat.le_trans hBs (Nat.le_trans hb1s (B.alloc' _ _).size)) ?_; intro A4 c4 w4 r4 x4 y4))
      have hBa := hb1.trans (B.alloc' w1 (.cells #[.slice A1 x.length c1] 47))
      have hgx : Ext (fun g => some g = (Value.slice A3 q c3).ownBlock) (w1.alloc (.cells #[.slice A1 x.length c1] 47)) w4 := (Ext.refl _ _).grown x4 (fun g e _ => e.symm)
      have hB4 : B w w4 := B.grown (hB.trans hBa) x4 (fun k hk => row_ge HO.out hk)
      have f7 := (hE.later hBa).ext hgx (fun g cs _ hB' e => row_ne hq1 hB' (by decide) e.symm)
      have q2 := row_later r1 (B.alloc' w1 (.cells #[.slice A1 x.length c1] 47))
      have q3 := row_ext q2 hgx (fun g hg e => row_row hq1 q2 (by decide) e.symm hg)
      have f8 := f7.snoc (row_base q3 (Nat.zero_le _)) K4L.out (fun g hg => by have := row_ge q2 hg; omega)
      rw [E.out] at f8
      clear k1 hE hq1 q2 q3 f7 hgx x4 r1
      go_roundw
      case rel => exact ⟨q + 1, _, by omega, by go_num, r4, f8, hB4⟩
      case measure => simp [intOf]; omega
    · have hqi : ¬ (q : Int) < M.length := by omega
      have e1 : q = M.length := by omega
      subst e1
      rw [List.take_length] at hE
      have hz := Lss.of_own ho hE (fun g hg => row_ge ho hg)
      go_wp2_with fail
      go_ret
      exact ⟨_, rfl, hz, hB⟩

/-- what Clone gives back -/
def TCPost (w : World) (M : List (List UInt8)) (e : Ending) (w' : World) : Prop := ∃ p, e = .returned (.pointer (some ⟨p, 0, none⟩)) ∧ TableAt (fun x => w.heap.size ≤ x) w' p M ∧ B w w'
theorem tclone62 {own : Nat → Prop} {w : World} {p : Nat} {M : List (List UInt8)} (h : TableAt own w p M) (hM : fromC M = 0) : Calls Try.prog 62 #[.pointer (some ⟨p, 0, none⟩)] w (TCPost w M) := by
  obtain ⟨u, c0, hL⟩ := h.lss
  have HF := Lib.hid (show Calls Try.prog 48 #[u] w (fun e w' => ∃ p', e = .returned (.tuple #[.pointer (some ⟨p', 0, none⟩), .int .i64 0]) ∧ TableAt (fun x => w.heap.size ≤ x) w' p' M ∧ B w w') from (from48 hL).mono fun e w' ⟨hb, hc⟩ => by
    rcases hc with ⟨_, p', he, hT⟩ | ⟨hn, _⟩
    · exact ⟨p', he, hT, hb⟩
    · exact absurd hM hn)
  clear hL hM
  go_enter Try.func62, Try.ntmps62
  go_wp2_with (first | (go_at_call 113; refine (tnone113 h).mono ?_; rintro e wn ⟨rfl, rfl⟩) | (go_at_call 48; refine HF.out.mono ?_; rintro e wn ⟨p', rfl, hT, hb⟩))
  go_ret
  exact ⟨p', rfl, hT, hb⟩
end Go.Proofs.Ythgpkbhilkdckaa
