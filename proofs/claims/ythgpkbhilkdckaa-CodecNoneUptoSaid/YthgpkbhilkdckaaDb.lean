/- CodecPuts: the walk. -/
import Derived.Test.YthgpkbhilkdckaaDa
namespace Go.Proofs.Ythgpkbhilkdckaa
open Go.RowKit
set_option linter.unusedVariables false

theorem enc_small {x : List UInt8} (h : x.length ≤ 1048576) : (enc x.length).length ≤ 10 := enc_10 (by omega)
theorem bulk_at {L : List (List UInt8)} {i : Nat} {x : List UInt8} (h : L[i]? = some x) : x.length + 1 ≤ bulkL L := by
  unfold bulkL
  have hm : x ∈ L := List.mem_of_getElem? h
  induction L generalizing i with
  | nil => cases hm
  | cons y r ih =>
    simp only [List.map_cons, List.sum_cons]
    rcases List.mem_cons.1 hm with e | e
    · subst e; omega
    · obtain ⟨j, hj, hj2⟩ := List.mem_iff_getElem.1 e
      have := ih (i := j) (by rw [List.getElem?_eq_getElem hj, hj2]) e; omega
theorem bulk_length (L : List (List UInt8)) : L.length ≤ bulkL L := by
  unfold bulkL
  induction L with
  | nil => simp
  | cons x r ih => simp only [List.map_cons, List.sum_cons, List.length_cons]; omega
theorem putS_bulk (L : List (List UInt8)) (h : bulkL L ≤ 1048576) : (putS L).length ≤ 11 * bulkL L := by
  induction L with
  | nil => simp [putS]
  | cons x r ih =>
    have hx : x.length + 1 + bulkL r = bulkL (x :: r) := by simp [bulkL]
    have := ih (by omega)
    have he := enc_small (x := x) (by omega)
    rw [putS_cons]
    simp only [List.length_append]
    omega
theorem putL_bulk {bs : List UInt8} {L : List (List UInt8)} (h : bulkL L ≤ 1048576) (hb : bs.length ≤ 1048576) : (putL bs L).length + 10 ≤ 20000000 := by
  have h1 := putS_bulk L h
  have h2 := bulk_length L
  have h3 : (enc L.length).length ≤ 10 := enc_10 (by omega)
  simp only [putL, List.length_append]
  omega

theorem Bs.zero (w : World) (a : Addr) : Bs w (.slice (some a) 0 0) [] :=
  ⟨⟨some a, 0, rfl, fun e => (by cases e), Nat.le_refl _, by unfold maxLen; omega, fun ad had => ⟨fun h => absurd rfl h, fun j u hu => by simp [cellsB] at hu⟩⟩, by simp [big]⟩
set_option maxRecDepth 20000 in
set_option maxHeartbeats 4000000 in
theorem codecPuts_walk {W : World} {u ul : Value} {bs : List UInt8} {n : Nat} {L : List (List UInt8)} (hb : Bs W u bs) (hn : n < 18446744073709551616) (hL : Lss (fun g => g < W.heap.size) W ul L) (h1 : bs.length ≤ 1048576) (h2 : bulkL L ≤ 1048576) :
    Calls Try.prog 10 #[u, .int .u64 (n : Int), ul] W fun e w' => e = .returned (.bool true) ∧ B W w' := by
  have HB := Lib.hid hb
  have HN := Lib.hid hn
  have HL := Lib.hid hL
  have H1 := Lib.hid h1
  have H2 := Lib.hid h2
  have HPL := Lib.hid (putL_bulk h2 h1)
  have HE := Lib.hid (enc_10 hn)
  obtain ⟨A, c, rfl, _, hc1, hm1, hr⟩ := hL
  have hs : (L.length : Int) ≤ 9223372036854775807 := by unfold maxLen at hm1; omega
  have HR := Lib.hid hr
  clear hr hc1 hm1 hb hn h1 h2
  by_cases h0 : 0 < L.length
  case' pos =>
    obtain ⟨b, off, rfl, hb, _, hc⟩ := HR.out h0
    obtain ⟨u1, k1, k2, _⟩ := hc 0 _ (List.getElem?_eq_getElem h0)
    have hX := bulk_at (List.getElem?_eq_getElem h0)
    have hli : (0 : Int) < L.length := by omega
    generalize L[0] = x at *
    have K2 := Lib.hid k2
    have K1 := Lib.hid (show W.cell? ⟨b, off, none⟩ = some u1 by simpa using k1)
    have HXL := Lib.hid (show x.length ≤ 1048576 by have := H2.out; omega)
    clear hc k2 hX h0 k1 HR
    go_enter Try.func10, Try.ntmps10
    go_wp2_with (first
      | (go_at_call 69; (with_reducible refine (live69 (St.nil W)).mono ?_); rintro e w1 ⟨rfl, hS⟩; have HS1 := Lib.hid (hS.later (B.alloc' w1 (.cells #[] 5))); have k1 := HS1.out.b.cell K1.out; clear hS))
    have HX := Lib.hid (fun w' (hb : B W w') => K2.out.later hb)
  case' neg =>
    have hli : ¬ (0 : Int) < L.length := by omega
    have HXL := Lib.hid (show ([] : List UInt8).length ≤ 1048576 by simp)
    obtain ⟨x, hx⟩ : ∃ x : List UInt8, x = [] := ⟨_, rfl⟩
    rw [← hx] at HXL
    have HXE := Lib.hid hx
    clear h0 HR hx
    go_enter Try.func10, Try.ntmps10
    go_wp2_with (first
      | (go_at_call 69; (with_reducible refine (live69 (St.nil W)).mono ?_); rintro e w1 ⟨rfl, hS⟩; have HS1 := Lib.hid (hS.later (B.alloc' w1 (.cells #[] 5))); clear hS))
    have HX := Lib.hid (fun w' (hb : B W w') => show Bs w' (.slice (some ⟨w1.heap.size, 0, none⟩) 0 0) x from by rw [HXE.out]; exact Bs.zero _ _)
  all_goals
    generalize w1.alloc (.cells #[] 5) = w2 at *
    have LB := Lib.hid (show bs.length + 10 ≤ big by have := H1.out; unfold big; omega)
    have LX := Lib.hid (show (bs ++ x).length + 10 ≤ big by have := H1.out; have := HXL.out; unfold big; simp; omega)
    have LP := Lib.hid (show (putL bs L).length + 10 ≤ big by have := HPL.out; unfold big; omega)
    have LQ := Lib.hid (show (putL bs L).length ≤ big by have := LP.out; omega)
    have LN := Lib.hid (show ([] : List UInt8).length + 10 ≤ big by unfold big; decide)
    have LZ := Lib.hid (show (bs ++ enc n).length ≤ big by have := H1.out; have := HE.out; unfold big; simp; omega)
    have LY := Lib.hid (show (putB bs x).length ≤ big by have := H1.out; have := enc_small HXL.out; have := HXL.out; unfold big; simp [putB]; omega)
    go_wp2_with (first
      | (go_at_call 70; (with_reducible refine (HS1.out.fresh (putNum70 (HB.out.later HS1.out.b) n HN.out LB.out)).mono ?_); rintro e w3 ⟨v3, rfl, hS⟩; have HS3 := Lib.hid hS; clear hS)
      | (go_at_call_of 71 u; (with_reducible refine (HS3.out.fresh (putNum71 (HB.out.later HS3.out.b) n HN.out LB.out)).mono ?_); rintro e w4 ⟨v4, rfl, hS⟩; have HS4 := Lib.hid hS; clear hS)
      | (go_at_call 68; (with_reducible refine (equal68 (HS4.out.drop.byBs LZ.out) (HS4.out.byBs LZ.out)).mono ?_); rintro e w9 ⟨rfl, rfl⟩; simp only [beq_self_eq_true])
      | (go_at_call 72; (with_reducible refine (HS4.out.fresh (putBytes72 (HB.out.later HS4.out.b) (HX.out _ HS4.out.b) LX.out)).mono ?_); rintro e w5 ⟨v5, rfl, hS⟩; have HS5 := Lib.hid hS; clear hS)
      | (go_at_call 73; (with_reducible refine (HS5.out.fresh (putBytes73 (HB.out.later HS5.out.b) (HX.out _ HS5.out.b) LX.out)).mono ?_); rintro e w6 ⟨v6, rfl, hS⟩; have HS6 := Lib.hid hS; clear hS)
      | (go_at_call 68; (with_reducible refine (equal68 (HS6.out.drop.byBs LY.out) (HS6.out.byBs LY.out)).mono ?_); rintro e w9 ⟨rfl, rfl⟩; simp only [beq_self_eq_true])
      | (go_at_call 74; (with_reducible refine (HS6.out.fresh (putList74 (HB.out.later HS6.out.b) (HL.out.later HS6.out.b) LP.out)).mono ?_); rintro e w7 ⟨v7, rfl, hS⟩; have HS7 := Lib.hid hS; clear hS)
      | (go_at_call 75; (with_reducible refine (HS7.out.fresh (putList75 (HB.out.later HS7.out.b) (HL.out.later HS7.out.b) LP.out)).mono ?_); rintro e w8 ⟨v8, rfl, hS⟩; have HS8 := Lib.hid hS; clear hS)
      | (go_at_call 68; (with_reducible refine (equal68 (HS8.out.drop.byBs LQ.out) (HS8.out.byBs LQ.out)).mono ?_); rintro e w9 ⟨rfl, rfl⟩; simp only [beq_self_eq_true])
      | (go_at_call 76; (with_reducible refine (numLen76 _ n HN.out).mono ?_); rintro e w9 ⟨rfl, hb9⟩; have HS9 := Lib.hid (HS8.out.later hb9); clear hb9)
      | (go_at_call 71; (with_reducible refine (HS9.out.fresh (putNum71 (Bs.nil _) n HN.out LN.out)).mono ?_); rintro e w10 ⟨v10, rfl, hS⟩; have HS10 := Lib.hid hS; obtain ⟨A10, c10, rfl⟩ := hS.bySlice; clear hS))
    go_ret
    exact ⟨by simp, HS10.out.b⟩
end Go.Proofs.Ythgpkbhilkdckaa
