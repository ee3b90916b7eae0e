/- Take, Bytes of codec's reader. -/
import Derived.Test.YthgpkbhilkdckaaCg
namespace Go.Proofs.Ythgpkbhilkdckaa
open Go.RowKit
set_option linter.unusedVariables false

def takeS (bs : List UInt8) (e n : Int) : List UInt8 × List UInt8 × Int :=
  if e ≠ 0 then ([], [], e) else if n < 0 then ([], [], 1) else if (bs.length : Int) < n then ([], [], 10) else (bs.take n.toNat, bs.drop n.toNat, 0)
def aBy (v : Value) (bs : List UInt8) : Asn := aRow 5 1 v bs.length (cellsB bs)
theorem aBy.nil {W w : World} {L : List Asn} (h : St W w L) : St W w (aBy (.slice none 0 0) [] :: L) :=
  h.add (Below.refl _ _) (A := aBy (.slice none 0 0) []) (own := fun _ => False) ⟨ownNil _ _ _ _, fun g hg => by simp [Value.ownBlock] at hg⟩ (fun x e => e.elim)
section
variable {W w : World} {p : Nat} {bs : List UInt8} {e : Int} {L : List Asn}
theorem St.rdE (h : St W w (aRd p bs e :: L)) (he : e ≠ 0) : bs = [] := by
  obtain ⟨own, ⟨A, c, b0, h1, h2, h3, h4, h5, h6⟩, ho⟩ := h.get
  exact h6 he
theorem St.stuck122 (h : St W w (aRd p bs e :: L)) (b : Bool) (hb : (e != 0) = b) : Calls Try.prog 122 #[.pointer (some ⟨p, 0, none⟩)] w fun e' w' => e' = .returned (.bool b) ∧ w = w' := by
  obtain ⟨own, ⟨A, c, b0, h1, h2, h3, h4, h5, h6⟩, ho⟩ := h.get
  exact Go.Proofs.Ythgpkbhilkdckaa.stuck122 h2 b hb
def TakePost (W : World) (p : Nat) (L : List Asn) (r : List UInt8 × List UInt8 × Int) (e' : Ending) (w' : World) : Prop :=
  ∃ v, e' = .returned v ∧ St W w' (aBy v r.1 :: aRd p r.2.1 r.2.2 :: L)
set_option maxHeartbeats 2000000 in
theorem St.take86_stuck (h : St W w (aRd p bs e :: L)) (he : e ≠ 0) (n : Int) : Calls Try.prog 86 #[.pointer (some ⟨p, 0, none⟩), .int .i64 n] w (TakePost W p L (takeS bs e n)) := by
  obtain rfl := h.rdE he
  have H := Lib.hid h
  have hf := (St.fail84 h 1)
  rw [show failB [] e 1 = [] by simp [failB], show failE e 1 = e by simp [failE, he]] at hf
  have HF := Lib.hid hf
  have HS := Lib.hid (fun w' (hS : St W w' (aRd p [] e :: L)) => St.stuck122 hS true (by simp [he]))
  have E := Lib.hid (fun w' (hS : St W w' (aRd p [] e :: L)) => show TakePost W p L (takeS [] e n) (.returned (.slice none 0 0)) w' from ⟨_, rfl, by simp only [takeS, if_pos he]; exact aBy.nil hS⟩)
  clear h hf he
  by_cases hn : n < 0
  · go_enter Try.func86, Try.ntmps86
    go_wp2_with (first
      | (go_at_call 84; (with_reducible refine HF.out.mono ?_); rintro e w1 ⟨rfl, hS⟩; have H1 := Lib.hid hS; clear hS)
      | (go_at_call 122; (with_reducible refine (HS.out _ H1.out).mono ?_); rintro e w1 ⟨rfl, rfl⟩))
    go_ret
    exact E.out _ H1.out
  · go_enter Try.func86, Try.ntmps86
    go_wp2_with (first
      | (go_at_call 122; (with_reducible refine (HS.out _ H.out).mono ?_); rintro e w1 ⟨rfl, rfl⟩))
    go_ret
    exact E.out _ H.out
set_option maxHeartbeats 2000000 in
theorem St.take86_neg (h : St W w (aRd p bs 0 :: L)) (n : Int) (hn : n < 0) : Calls Try.prog 86 #[.pointer (some ⟨p, 0, none⟩), .int .i64 n] w (TakePost W p L (takeS bs 0 n)) := by
  have hf := (St.fail84 h 1)
  rw [show failB bs 0 1 = [] by simp [failB], show failE 0 1 = 1 by simp [failE]] at hf
  have HF := Lib.hid hf
  have HS := Lib.hid (fun w' (hS : St W w' (aRd p [] 1 :: L)) => St.stuck122 hS true (by simp))
  have E := Lib.hid (fun w' (hS : St W w' (aRd p [] 1 :: L)) => show TakePost W p L (takeS bs 0 n) (.returned (.slice none 0 0)) w' from ⟨_, rfl, by simp only [takeS, if_pos hn]; exact aBy.nil hS⟩)
  clear h hf
  go_enter Try.func86, Try.ntmps86
  go_wp2_with (first
    | (go_at_call 84; (with_reducible refine HF.out.mono ?_); rintro e w1 ⟨rfl, hS⟩; have H1 := Lib.hid hS; clear hS)
    | (go_at_call 122; (with_reducible refine (HS.out _ H1.out).mono ?_); rintro e w1 ⟨rfl, rfl⟩))
  go_ret
  exact E.out _ H1.out
set_option maxHeartbeats 2000000 in
theorem St.take86_cut (h : St W w (aRd p bs 0 :: L)) (n : Int) (hn : ¬ n < 0) (hl : (bs.length : Int) < n) : Calls Try.prog 86 #[.pointer (some ⟨p, 0, none⟩), .int .i64 n] w (TakePost W p L (takeS bs 0 n)) := by
  have hf := (St.fail84 h 10)
  rw [show failB bs 0 10 = [] by simp [failB], show failE 0 10 = 10 by simp [failE]] at hf
  have HF := Lib.hid hf
  have HS0 := Lib.hid (St.stuck122 h false (by simp))
  have HS := Lib.hid (fun w' (hS : St W w' (aRd p [] 10 :: L)) => St.stuck122 hS true (by simp))
  have E := Lib.hid (fun w' (hS : St W w' (aRd p [] 10 :: L)) => show TakePost W p L (takeS bs 0 n) (.returned (.slice none 0 0)) w' from ⟨_, rfl, by simp only [takeS, if_neg hn, if_pos hl]; exact aBy.nil hS⟩)
  obtain ⟨own, ⟨A, c, b0, h1, h2, h3, h4, h5, h6⟩, ho⟩ := h.get
  obtain rfl := h5 rfl
  have c0 := h2.cell 0
  simp at c0
  clear h hf h1 h2 h3 h4 h5 h6 ho
  go_enter Try.func86, Try.ntmps86
  go_wp2_with (first
    | (go_at_call 84; (with_reducible refine HF.out.mono ?_); rintro e w1 ⟨rfl, hS⟩; have H1 := Lib.hid hS; clear hS)
    | (go_at_call 122; (with_reducible refine HS0.out.mono ?_); rintro e w1 ⟨rfl, rfl⟩)
    | (go_at_call 122; (with_reducible refine (HS.out _ H1.out).mono ?_); rintro e w1 ⟨rfl, rfl⟩))
  go_ret
  exact E.out _ H1.out
theorem RdAt.inl {own own' : Nat → Prop} (h : RdAt own w p bs e) : RdAt (fun x => own x ∨ own' x) w p bs e := by
  obtain ⟨A, c, b1, h1, h2, h3, h4, h5, h6⟩ := h
  exact ⟨A, c, b1, .inl h1, h2, h3, fun g hg hne => .inl (h4 g hg hne), h5, h6⟩
/-- the bytes stored anew, over St -/
theorem St.rdStore (h : St W w (aRd p bs 0 :: L)) {bs' : List UInt8} {A' : Option Addr} {n' c' : Nat} (hb : Bs w (.slice A' n' c') bs') (hn : n' = bs'.length) (ho : ∀ A c, w.cell? ⟨p, 0, none⟩ = some (.slice A bs.length c) → ∀ g, (Value.slice A' n' c').ownBlock = some g → (Value.slice A bs.length c).ownBlock = some g) (hne : bs' ≠ [] → bs ≠ []) :
    St W (w.setCell ⟨p, 0, none⟩ (.slice A' n' c')) (aRd p bs' 0 :: L) := by
  obtain ⟨own, hR, ho', hback⟩ := h.focus
  have hst := RdAt.store hR hb hn ho hne
  exact hback _ (aRd p bs' 0) hst.2 hst.1.inl
set_option maxHeartbeats 2000000 in
theorem St.take86_ok (h : St W w (aRd p bs 0 :: L)) (n : Nat) (hl : n ≤ bs.length) : Calls Try.prog 86 #[.pointer (some ⟨p, 0, none⟩), .int .i64 (n : Int)] w (TakePost W p L (takeS bs 0 n)) := by
  have HH := Lib.hid h
  have HS0 := Lib.hid (St.stuck122 h false (by simp))
  obtain ⟨own, ⟨A, c, b0, h1, h2, h3, h4, h5, h6⟩, ho⟩ := h.get
  obtain rfl := h5 rfl
  have c0 := h2.cell 0
  simp at c0
  have f0 := h2.frozen 0
  obtain ⟨A1, c1, r1, r2, hb1, ho1⟩ := h3.cutTo n hl
  obtain ⟨A2, c2, r3, r4, hb2, ho2⟩ := h3.cut n hl
  have HC := Lib.hid (Go.Proofs.Ythgpkbhilkdckaa.clone63 hb1)
  have HB2 := Lib.hid hb2
  have HO2 := Lib.hid ho2
  have C0 := Lib.hid c0
  have F0 := Lib.hid f0
  have HP := Lib.hid (World.block_lt_of_cell? w _ c0)
  have hnl : (n : Int) ≤ b0.length := by omega
  have htl : (b0.take n).length = n := by simp; omega
  have HTL := Lib.hid htl
  have TE := Lib.hid (show takeS b0 0 n = (b0.take n, b0.drop n, 0) by unfold takeS; rw [if_neg (by simp), if_neg (by omega), if_neg (by omega)]; simp)
  clear h h1 h2 h3 h4 h5 h6 ho hb1 hb2 ho1 ho2 htl
  go_enter Try.func86, Try.ntmps86
  go_wp2_with (first
    | (go_at_call 122; (with_reducible refine HS0.out.mono ?_); rintro e w1 ⟨rfl, rfl⟩)
    | (go_at_call 63; (with_reducible refine HC.out.mono ?_); rintro e w1 ⟨v1, rfl, hr1, hb1⟩; have c01 := hb1.cell C0.out; have f01 := (Below.frozen hb1 HP.out).trans F0.out; have R1 := Lib.hid hr1; have B1 := Lib.hid hb1; clear c0 f0 hr1 hb1))
  go_ret
  refine ⟨v1, rfl, ?_⟩
  rw [TE.out]
  exact St.swap ((HH.out.addRow B1.out R1.out).swap.rdStore (HB2.out.later B1.out) (by simp) (fun A c hc g hg => by rw [B1.out.cell C0.out] at hc; injection hc with hc; rw [← hc]; exact HO2.out g hg) (fun hne e => hne (by rw [e]; simp)))
theorem St.take86 (h : St W w (aRd p bs e :: L)) (n : Int) (hn : -9223372036854775808 ≤ n ∧ n ≤ 9223372036854775807) : Calls Try.prog 86 #[.pointer (some ⟨p, 0, none⟩), .int .i64 n] w (TakePost W p L (takeS bs e n)) := by
  by_cases he : e = 0
  · subst he
    by_cases h0 : n < 0
    · exact h.take86_neg n h0
    · by_cases hl : (bs.length : Int) < n
      · exact h.take86_cut n h0 hl
      · obtain ⟨k, hk⟩ := Int.eq_ofNat_of_zero_le (show 0 ≤ n by omega)
        subst hk
        exact h.take86_ok k (by omega)
  · exact h.take86_stuck he n
/-- Num, in whatever state -/
theorem St.num85 (h : St W w (aRd p bs e :: L)) (most : Nat) : Calls Try.prog 85 #[.pointer (some ⟨p, 0, none⟩), .int .u64 (most : Int)] w (NumPost W p L (numS bs e most)) := by
  by_cases he : e = 0
  · subst he
    unfold numS
    rw [if_pos rfl]
    exact h.num85_ok most
  · have hs := Lib.hid (h.stuck122 true (by simp [he]))
    have E := Lib.hid (show NumPost W p L (numS bs e most) (.returned (.int .u64 0)) w from by unfold numS; rw [if_neg he]; exact ⟨rfl, h⟩)
    clear h he
    go_enter Try.func85, Try.ntmps85
    go_wp2_with (first | (go_at_call 122; (with_reducible refine hs.out.mono ?_); rintro e w1 ⟨rfl, rfl⟩))
    go_ret
    exact E.out
/-- the number is at most what was asked -/
theorem numGo_le (most : Nat) : ∀ (bs : List UInt8) (i acc : Nat), (numGo most i acc bs).1 ≤ most
  | [], _, _ => Nat.zero_le _
  | c :: r, i, acc => by
    unfold numGo
    split
    · exact Nat.zero_le _
    · split
      · exact numGo_le most r _ _
      · split
        · exact Nat.zero_le _
        · rename_i h; show acc + c.toNat * 128 ^ i ≤ most; omega
theorem numS_le (bs : List UInt8) (e : Int) (most : Nat) : (numS bs e most).1 ≤ most := by
  unfold numS; split
  · exact numGo_le _ _ _ _
  · exact Nat.zero_le _
def mostN (m : Int) : Nat := m.toNat
def bytesS (bs : List UInt8) (e m : Int) : List UInt8 × List UInt8 × Int :=
  let r := numS bs e m.toNat
  takeS r.2.1 r.2.2 (r.1 : Int)
set_option maxHeartbeats 2000000 in
theorem St.bytes87 (h : St W w (aRd p bs e :: L)) (m : Int) (hm : m ≤ 9223372036854775807) : Calls Try.prog 87 #[.pointer (some ⟨p, 0, none⟩), .int .i64 m] w (TakePost W p L (bytesS bs e m)) := by
  have HN := Lib.hid (h.num85 m.toNat)
  have HL := numS_le bs e m.toNat
  have hq : m.toNat ≤ 9223372036854775807 := by omega
  have hv : (numS bs e m.toNat).1 ≤ 9223372036854775807 := by omega
  have HT := Lib.hid (fun w' (hS : St W w' (aRd p (numS bs e m.toNat).2.1 (numS bs e m.toNat).2.2 :: L)) => hS.take86 ((numS bs e m.toNat).1 : Int) (by omega))
  rw [show bytesS bs e m = takeS (numS bs e m.toNat).2.1 (numS bs e m.toNat).2.2 ((numS bs e m.toNat).1 : Int) from rfl]
  generalize numS bs e m.toNat = r at *
  obtain ⟨v, b1, e1⟩ := r
  simp only at hv HL HT
  have hv3 : IntKind.i64.wrap (v : Int) = (v : Int) := by simp [IntKind.wrap, IntKind.signed, IntKind.bits]; omega
  by_cases h0 : 0 < m
  · obtain ⟨k, hk⟩ := Int.eq_ofNat_of_zero_le (show 0 ≤ m by omega)
    subst hk
    simp only [Int.toNat_natCast] at HN hq
    have hv2 : IntKind.u64.wrap (k : Int) = (k : Int) := u64_id (by omega)
    have hk9 : (k : Int) ≤ 9223372036854775807 := by omega
    have hm0 : (0 : Int) < k := h0
    clear h HL hq hm
    go_enter Try.func87, Try.ntmps87
    go_wp2_with (first
      | (go_at_call 85; (with_reducible refine HN.out.mono ?_); rintro e w1 ⟨rfl, hS⟩; have H1 := Lib.hid hS; clear hS)
      | (go_at_call 86; (with_reducible refine (HT.out _ H1.out).mono ?_); rintro e w1 ⟨v2, rfl, hS⟩; have H2 := Lib.hid hS; clear hS))
    all_goals
      go_ret
      exact ⟨_, rfl, H2.out⟩
  · have hm0 : ¬ 0 < m := by omega
    have hv2 : IntKind.u64.wrap 0 = 0 := by decide
    rw [show m.toNat = 0 by omega] at HN
    have HN' := Lib.hid (show Calls Try.prog 85 #[.pointer (some ⟨p, 0, none⟩), .int .u64 0] w _ from HN.out)
    clear h HL hq hm h0 HN
    go_enter Try.func87, Try.ntmps87
    go_wp2_with (first
      | (go_at_call 85; (with_reducible refine HN'.out.mono ?_); rintro e w1 ⟨rfl, hS⟩; have H1 := Lib.hid hS; clear hS)
      | (go_at_call 86; (with_reducible refine (HT.out _ H1.out).mono ?_); rintro e w1 ⟨v2, rfl, hS⟩; have H2 := Lib.hid hS; clear hS))
    all_goals
      go_ret
      exact ⟨_, rfl, H2.out⟩
end
end Go.Proofs.Ythgpkbhilkdckaa
