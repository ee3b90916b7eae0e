/- What codec and its reference put: lists. -/
import Derived.Test.YthgpkbhilkdckaaCc
namespace Go.Proofs.Ythgpkbhilkdckaa
open Go.RowKit
set_option linter.unusedVariables false
theorem putS_app (a b : List (List UInt8)) : putS (a ++ b) = putS a ++ putS b := by simp [putS]
theorem putS_cons (x : List UInt8) (r : List (List UInt8)) : putS (x :: r) = enc x.length ++ x ++ putS r := by simp [putS]
theorem putS_at (L : List (List UInt8)) (q : Nat) (h : q < L.length) : (putS L).length = (putS (L.take q)).length + (enc L[q].length).length + L[q].length + (putS (L.drop (q + 1))).length := by
  have := congrArg putS (List.take_append_drop q L)
  rw [List.drop_eq_getElem_cons h, putS_app, putS_cons] at this
  rw [← this]; simp only [List.length_append]; omega

set_option maxHeartbeats 1000000 in
theorem putList74 {inn : Nat → Prop} {w : World} {v u : Value} {bs : List UInt8} {L : List (List UInt8)} (h : Bs w v bs) (k : Lss inn w u L) (hl : (putL bs L).length + 10 ≤ big) : Calls Try.prog 74 #[v, u] w (Fresh w (putL bs L)) := by
  obtain ⟨A, c, rfl, _, hc1, hm1, hr⟩ := k
  have HR := Lib.hid hr
  have hs : (L.length : Int) ≤ 9223372036854775807 := by unfold maxLen at hm1; omega
  have hxl : L.length < 18446744073709551616 := by omega
  have HT := Lib.hid hl
  have hpl : (putL bs L).length = bs.length + (enc L.length).length + (putS L).length := by simp [putL]; omega
  have HP := Lib.hid (putNum70 h L.length hxl (by omega))
  clear hr hc1 hm1 h hl hxl hpl
  go_enter Try.func74, Try.ntmps74
  go_wp2_with (first
    | (go_at_call 70; (with_reducible refine HP.out.mono ?_); rintro e w1 ⟨v1, rfl, r1, hb1⟩; have R1 := Lib.hid r1; have HB1 := Lib.hid hb1; clear r1 hb1))
  go_loopw [0, 14] (fun v x wr => ∃ (q : Nat) (z : List UInt8), q ≤ L.length ∧ x = .int .i64 (q : Int) ∧ Hid (z = bs ++ enc L.length ++ putS (L.take q)) ∧ Hid (wr.ownsRow w.heap.size 5 1 v z.length (cellsB z)) ∧ Hid (B w wr)) (fun _ x _ => L.length - (intOf x).toNat)
  case atStart => exact ⟨0, bs ++ enc L.length, Nat.zero_le _, rfl, by show _ = _; simp [putS], R1.out, HB1.out⟩
  case round =>
    obtain ⟨q, z, hq, rfl, HZ, HW, HB⟩ := hrel
    by_cases hlt : q < L.length
    · obtain ⟨b, off, rfl, hb, _, hc⟩ := HR.out (by omega)
      obtain ⟨u1, k1, k2, _⟩ := hc q _ (List.getElem?_eq_getElem hlt)
      have k1 := HB.out.cell k1
      have k2 := k2.later HB.out
      have HS := Lib.hid (show putS (L.take (q + 1)) = putS (L.take q) ++ (enc L[q].length ++ L[q]) by
        rw [List.take_add_one, List.getElem?_eq_getElem hlt, putS_app]; simp [putS])
      have HTl := Lib.hid (show (z ++ L[q]).length + 10 ≤ big from by
        have h1 := HT.out
        have h2 := putS_at L q hlt
        rw [HZ.out]
        simp only [putL, List.length_append] at h1 ⊢
        omega)
      have hqi : (q : Int) < L.length := by omega
      generalize L[q] = x at *
      have hzb := Lib.hid (Bs.of_own HW.out (by have := HTl.out; simp at this; omega))
      have HC := Lib.hid (putBytes72 hzb.out k2 HTl.out)
      have hws := Lib.hid HB.out.size
      clear hc k2
      go_wp2_with (first
        | (go_at_call 72; (with_reducible refine HC.out.mono ?_); rintro e w2 ⟨v2, rfl, r2, hb2⟩; have R2 := Lib.hid r2; have HB2 := Lib.hid hb2; clear r2 hb2))
      go_roundw
      case rel => exact ⟨q + 1, putB z x, by omega, by go_num, by show _ = _; rw [HS.out, putB, HZ.out]; simp only [List.append_assoc], row_base R2.out hws.out, HB.out.trans HB2.out⟩
      case measure => simp [intOf]; omega
    · have hqi : ¬ (q : Int) < L.length := by omega
      have e1 : q = L.length := by omega
      have HZ' := Lib.hid (show z = putL bs L by rw [HZ.out, e1, List.take_length]; rfl)
      clear e1
      go_wp2_with fail
      go_ret
      exact Fresh.mk HW.out (by rw [HZ'.out]) (by rw [HZ'.out]) HB.out

set_option maxHeartbeats 1000000 in
theorem putList75 {inn : Nat → Prop} {w : World} {v u : Value} {bs : List UInt8} {L : List (List UInt8)} (h : Bs w v bs) (k : Lss inn w u L) (hl : (putL bs L).length + 10 ≤ big) : Calls Try.prog 75 #[v, u] w (Fresh w (putL bs L)) := by
  obtain ⟨A, c, rfl, _, hc1, hm1, hr⟩ := k
  have HR := Lib.hid hr
  have hs : (L.length : Int) ≤ 9223372036854775807 := by unfold maxLen at hm1; omega
  have hxl : L.length < 18446744073709551616 := by omega
  have HT := Lib.hid hl
  have hpl : (putL bs L).length = bs.length + (enc L.length).length + (putS L).length := by simp [putL]; omega
  have HP := Lib.hid (putNum71 h L.length hxl (by omega))
  clear hr hc1 hm1 h hl hxl hpl
  go_enter Try.func75, Try.ntmps75
  go_wp2_with (first
    | (go_at_call 71; (with_reducible refine HP.out.mono ?_); rintro e w1 ⟨v1, rfl, r1, hb1⟩; have R1 := Lib.hid r1; have HB1 := Lib.hid hb1; clear r1 hb1))
  go_loopw [5, 6] (fun v x wr => ∃ (q : Nat) (z : List UInt8), q ≤ L.length ∧ x = .int .i64 (q : Int) ∧ Hid (z = bs ++ enc L.length ++ putS (L.take q)) ∧ Hid (wr.ownsRow w.heap.size 5 1 v z.length (cellsB z)) ∧ Hid (B w wr)) (fun _ x _ => L.length - (intOf x).toNat)
  case atStart => exact ⟨0, bs ++ enc L.length, Nat.zero_le _, rfl, by show _ = _; simp [putS], R1.out, HB1.out⟩
  case round =>
    obtain ⟨q, z, hq, rfl, HZ, HW, HB⟩ := hrel
    by_cases hlt : q < L.length
    · obtain ⟨b, off, rfl, hb, _, hc⟩ := HR.out (by omega)
      obtain ⟨u1, k1, k2, _⟩ := hc q _ (List.getElem?_eq_getElem hlt)
      have k1 := HB.out.cell k1
      have k2 := k2.later HB.out
      have HS := Lib.hid (show putS (L.take (q + 1)) = putS (L.take q) ++ (enc L[q].length ++ L[q]) by
        rw [List.take_add_one, List.getElem?_eq_getElem hlt, putS_app]; simp [putS])
      have HTl := Lib.hid (show (z ++ L[q]).length + 10 ≤ big from by
        have h1 := HT.out
        have h2 := putS_at L q hlt
        rw [HZ.out]
        simp only [putL, List.length_append] at h1 ⊢
        omega)
      have hqi : (q : Int) < L.length := by omega
      generalize L[q] = x at *
      have hzb := Lib.hid (Bs.of_own HW.out (by have := HTl.out; simp at this; omega))
      have HC := Lib.hid (putBytes73 hzb.out k2 HTl.out)
      have hws := Lib.hid HB.out.size
      clear hc k2
      go_wp2_with (first
        | (go_at_call 73; (with_reducible refine HC.out.mono ?_); rintro e w2 ⟨v2, rfl, r2, hb2⟩; have R2 := Lib.hid r2; have HB2 := Lib.hid hb2; clear r2 hb2))
      go_roundw
      case rel => exact ⟨q + 1, putB z x, by omega, by go_num, by show _ = _; rw [HS.out, putB, HZ.out]; simp only [List.append_assoc], row_base R2.out hws.out, HB.out.trans HB2.out⟩
      case measure => simp [intOf]; omega
    · have hqi : ¬ (q : Int) < L.length := by omega
      have e1 : q = L.length := by omega
      have HZ' := Lib.hid (show z = putL bs L by rw [HZ.out, e1, List.take_length]; rfl)
      clear e1
      go_wp2_with fail
      go_ret
      exact Fresh.mk HW.out (by rw [HZ'.out]) (by rw [HZ'.out]) HB.out
end Go.Proofs.Ythgpkbhilkdckaa
