/- CodecBack: the walk. -/
import Derived.Test.YthgpkbhilkdckaaEb
namespace Go.Proofs.Ythgpkbhilkdckaa
open Go.RowKit
set_option linter.unusedVariables false

/-- the greatest length -/
def mostL (L : List (List UInt8)) : Nat := L.foldl (fun a x => max a x.length) 0
theorem mostL_snoc (L : List (List UInt8)) (x : List UInt8) : mostL (L ++ [x]) = max (mostL L) x.length := by simp [mostL]
theorem foldl_max (L : List (List UInt8)) : ∀ a : Nat, a ≤ L.foldl (fun a x => max a x.length) a ∧ ∀ x ∈ L, x.length ≤ L.foldl (fun a x => max a x.length) a := by
  induction L with
  | nil => intro a; exact ⟨Nat.le_refl _, fun x h => by cases h⟩
  | cons y r ih =>
    intro a
    obtain ⟨h1, h2⟩ := ih (max a y.length)
    refine ⟨Nat.le_trans (Nat.le_max_left _ _) h1, fun x hx => ?_⟩
    rcases List.mem_cons.1 hx with e | e
    · subst e; exact Nat.le_trans (Nat.le_max_right _ _) h1
    · exact h2 x e
theorem mostL_le {L : List (List UInt8)} {x : List UInt8} (h : x ∈ L) : x.length ≤ mostL L := (foldl_max L 0).2 x h
theorem mostL_bulk {L : List (List UInt8)} {n : Nat} (h : ∀ x ∈ L, x.length ≤ n) : mostL L ≤ n := by
  have : ∀ a : Nat, a ≤ n → L.foldl (fun a x => max a x.length) a ≤ n := by
    induction L with
    | nil => intro a h; exact h
    | cons y r ih =>
      intro a ha
      exact ih (fun x hx => h x (by simp [hx])) _ (Nat.max_le.2 ⟨ha, h y (by simp)⟩)
  exact this 0 (Nat.zero_le _)
theorem St.getBs {W w : World} {L : List Asn} {v : Value} {bs : List UInt8} (h : St W w (aBs v bs :: L)) : Bs w v bs := by
  obtain ⟨own, h1, _⟩ := h.get
  exact h1.1
set_option maxRecDepth 20000 in
set_option maxHeartbeats 4000000 in
theorem codecBack_walk {W : World} {ul ur : Value} {n : Nat} {L : List (List UInt8)} {rs : List UInt8} (hn : n < 18446744073709551616) (hL : Lss (fun g => g < W.heap.size) W ul L) (hr : Bs W ur rs) (h1 : rs.length ≤ 1048576) (h2 : bulkL L ≤ 1048576) :
    Calls Try.prog 13 #[.int .u64 (n : Int), ul, ur] W fun e w' => e = .returned (.bool true) ∧ B W w' := by
  have HN := Lib.hid hn
  have HL := Lib.hid hL
  obtain ⟨Ar, cr, rfl⟩ := hr.rd.slice
  have HRS := Lib.hid hr
  obtain ⟨A, c, rfl, _, hc1, hm1, hre⟩ := hL
  have HR := Lib.hid hre
  have hll := bulk_length L
  have hLi : (L.length : Int) ≤ 1048576 := by omega
  have hbl := putL_bulk (bs := enc n) h2 (by have := enc_10 hn; omega)
  have LN := Lib.hid (show ([] : List UInt8).length + 10 ≤ big by unfold big; decide)
  have LZ := Lib.hid (show ([] ++ enc n).length ≤ big by have := enc_10 hn; unfold big; simp; omega)
  have LP := Lib.hid (show (putL ([] ++ enc n) L).length + 10 ≤ big by rw [List.nil_append]; unfold big; omega)
  have g1 : (putL ([] ++ enc n) L).length + rs.length ≤ maxLen := by rw [List.nil_append]; unfold maxLen; omega
  have g2 : ((putL ([] ++ enc n) L).length + rs.length) * 1 ≤ 140737488355328 := by rw [List.nil_append]; omega
  have o1 := cellsB_one rs
  have LQ := Lib.hid (show (putL ([] ++ enc n) L ++ rs).length ≤ big by rw [List.length_append, List.nil_append]; unfold big; omega)
  have LE := Lib.hid (show (putL ([] ++ enc n) L ++ rs).length ≤ 1099511627775 by rw [List.length_append, List.nil_append]; omega)
  have hat : ∀ x ∈ L, x.length ≤ 1048576 := fun x hx => by
    obtain ⟨i, hi, e⟩ := List.mem_iff_getElem.1 hx
    have := bulk_at (L := L) (i := i) (x := x) (by rw [List.getElem?_eq_getElem hi, e])
    omega
  have HML := Lib.hid (mostL_bulk hat)
  have F1 := Lib.hid (show numS (putL ([] ++ enc n) L ++ rs) 0 n = (n, enc L.length ++ putS L ++ rs, 0) by
    rw [List.nil_append, putL, List.append_assoc, List.append_assoc]
    rw [numS_put hn (Nat.le_refl _), List.append_assoc])
  have F2 := Lib.hid (show listS (enc L.length ++ putS L ++ rs) 0 (L.length : Int) (mostL L : Int) = (L, rs, 0) from listS_put (by omega) (fun x hx => ⟨by have := mostL_le hx; omega, by have := hat x hx; omega⟩))
  have LE2 := Lib.hid (show (enc L.length ++ putS L ++ rs).length ≤ 1099511627775 by have := numS_len (putL ([] ++ enc n) L ++ rs) 0 n; rw [F1.out] at this; simp only at this; have := LE.out; omega)
  have HLM := Lib.hid (show (L.length : Int) ≤ 9223372036854775807 by omega)
  have HMM := Lib.hid (show (mostL L : Int) ≤ 9223372036854775807 by have := HML.out; omega)
  have HAT := Lib.hid hat
  clear hn hre hr h1 h2 hll hbl hat hc1 hm1
  obtain ⟨Z, hZ⟩ : ∃ Z, Z = putL ([] ++ enc n) L := ⟨_, rfl⟩
  rw [← hZ] at LP g1 g2 LQ LE F1
  have HZ := Lib.hid hZ
  clear hZ
  go_enter Try.func13, Try.ntmps13
  go_wp2_with (first
    | (go_at_call 69; (with_reducible refine (live69 (St.nil W)).mono ?_); rintro e w1 ⟨rfl, hS⟩; have HS1 := Lib.hid hS; clear hS)
    | (go_at_call 70; (with_reducible refine (HS1.out.fresh (putNum70 (Bs.nil _) n HN.out LN.out)).mono ?_); rintro e w2 ⟨v2, rfl, hS⟩; have HS2 := Lib.hid hS; clear hS)
    | (go_at_call 74; (with_reducible refine (HS2.out.fresh (putList74 (HS2.out.byBs LZ.out) (HL.out.later HS2.out.b) (by rw [← HZ.out]; exact LP.out))).mono ?_); rintro e w3 ⟨v3, rfl, hS⟩; rw [← HZ.out] at hS; have HS3 := Lib.hid hS; obtain ⟨A3, c3, rfl⟩ := hS.bySlice; clear hS)
    | (at_builtin; refine wpList_append_St rfl (.tmp 16) (.tmp 17) 47 rfl Try.underlying47 info5 rfl Nat.zero_lt_one rfl rfl HS3.out ((HRS.out.later HS3.out.b).rd) o1 g1 g2 ?_; intro A4 c4 w4 hS; have HS4 := Lib.hid (aRow.bs_app rfl rfl LQ.out hS); clear hS)
    | (go_at_call 77; (with_reducible refine (St.read77 HS4.out HS4.out.getBs).mono ?_); rintro e w5 ⟨p, rfl, hS⟩; have HS5 := Lib.hid hS; clear hS))
  go_loop [8, 22] (fun m i => ∃ q : Nat, q ≤ L.length ∧ i = .int .i64 (q : Int) ∧ m = .int .i64 (mostL (L.take q) : Int)) (fun _ i => L.length - (intOf i).toNat)
  case atStart => exact ⟨0, Nat.zero_le _, rfl, rfl⟩
  case round =>
    obtain ⟨q, hq, rfl, rfl⟩ := hrel
    by_cases hlt : q < L.length
    · obtain ⟨b, off, rfl, hb, _, hc⟩ := HR.out (by omega)
      obtain ⟨u1, k1, k2, _⟩ := hc q _ (List.getElem?_eq_getElem hlt)
      obtain ⟨A1, c1, hu1⟩ := k2.rd.slice
      subst hu1
      have k1 := HS5.out.b.cell k1
      have hqi : (q : Int) < L.length := by omega
      have HT := Lib.hid (show mostL (L.take (q + 1)) = max (mostL (L.take q)) L[q].length by rw [List.take_add_one, List.getElem?_eq_getElem hlt]; exact mostL_snoc _ _)
      generalize L[q] = x at *
      generalize mostL (L.take q) = m at *
      clear hc k2
      go_wp2_with fail
      all_goals
        go_round
        case rel => exact ⟨q + 1, by omega, by go_num, by rw [HT.out]; go_num⟩
        case measure => simp [intOf]; omega
    · have hqi : ¬ (q : Int) < L.length := by omega
      have HT := Lib.hid (show mostL (L.take q) = mostL L by rw [List.take_of_length_le (by omega)])
      rw [HT.out]
      go_wp2_with (first
        | (go_at_call 85; (with_reducible refine (St.num85 HS5.out n).mono ?_); rintro e w6 ⟨rfl, hS⟩; rw [F1.out] at hS ⊢; have HS6 := Lib.hid hS; clear hS)
        | (go_at_call 88; (with_reducible refine (St.list88 HS6.out L.length (mostL L) HLM.out HMM.out LE2.out).mono ?_); rintro e w7 ⟨v7, rfl, hS⟩; rw [F2.out] at hS; have HS7 := Lib.hid hS; obtain ⟨o7, hl7⟩ := hS.plLss; have HL7 := Lib.hid hl7; clear hS hl7)
        | (go_at_call 90; (with_reducible refine (same90 HL7.out (HL.out.later HS7.out.b)).mono ?_); rintro e w8 ⟨rfl, hb8⟩; have HS8 := Lib.hid (HS7.out.swap.later hb8); clear hb8)
        | (go_at_call 81; (with_reducible refine (St.left81 HS8.out).mono ?_); rintro e w4 ⟨rfl, rfl⟩)
        | (go_at_call 80; (with_reducible refine (St.err80 HS8.out).mono ?_); rintro e w4 ⟨rfl, rfl⟩))
      go_ret
      exact ⟨by simp, HS8.out.b⟩
end Go.Proofs.Ythgpkbhilkdckaa
