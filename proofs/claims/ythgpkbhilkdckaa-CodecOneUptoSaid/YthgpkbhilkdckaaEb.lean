/- CodecOne: the walk. -/
import Derived.Test.YthgpkbhilkdckaaEa
import Derived.Test.YthgpkbhilkdckaaDf
import Derived.Test.YthgpkbhilkdckaaDb
namespace Go.Proofs.Ythgpkbhilkdckaa
open Go.RowKit
set_option linter.unusedVariables false

theorem cut_front {bs a r : List UInt8} (h : bs = a ++ r) : bs.take (bs.length - r.length) = a ∧ bs.length - r.length ≤ bs.length ∧ ((bs.length - r.length : Nat) : Int) = (bs.length : Int) - (r.length : Int) := by
  have hl : bs.length = a.length + r.length := by rw [h, List.length_append]
  refine ⟨?_, by omega, by omega⟩
  rw [show bs.length - r.length = a.length by omega, h]
  simp
/-- 'b[:len(b) - left]' -/
theorem Bs.front {w : World} {v : Value} {bs a r : List UInt8} (h : Bs w v bs) (he : bs = a ++ r) : ∃ A k c, (∀ w' : World, (Instr.slice 47 v none (some (.int .i64 ((bs.length : Int) - (r.length : Int)))) none).run Try.prog w' = .ok (.slice A k c) w') ∧ (∀ w' : World, (Instr.sliceAt 47 v none (some (.int .i64 ((bs.length : Int) - (r.length : Int)))) none).run Try.prog w' = .ok (.slice A k c) w') ∧ Bs w (.slice A k c) a := by
  obtain ⟨h1, h2, h3⟩ := cut_front he
  obtain ⟨A, c, r1, r2, hb, _⟩ := h.cutTo (bs.length - r.length) h2
  rw [h3] at r1 r2
  rw [h1] at hb
  exact ⟨A, _, c, r1, r2, hb⟩
theorem listS_len (bs : List UInt8) (e m k : Int) : (listS bs e m k).2.1.length ≤ bs.length := by
  unfold listS
  obtain ⟨r, hr⟩ : ∃ r, numS bs e m.toNat = r := ⟨_, rfl⟩
  have := numS_len bs e m.toNat
  rw [hr] at this
  simp only [hr]
  have h2 : ∀ (n : Nat) (bs : List UInt8) (e : Int) (acc : List (List UInt8)), (listGo k n bs e acc).2.1.length ≤ bs.length := by
    intro n
    induction n with
    | zero => intro bs e acc; exact Nat.le_refl _
    | succ n ih =>
      intro bs e acc
      unfold listGo
      have h := bytesS_all bs e k
      simp only
      split
      · show (bytesS bs e k).2.1.length ≤ _; omega
      · exact Nat.le_trans (ih _ _ _) (by omega)
  exact Nat.le_trans (h2 _ _ _ _) this
set_option maxRecDepth 20000 in
set_option maxHeartbeats 4000000 in
theorem codecOne_walk {W : World} {u : Value} {bs : List UInt8} (hb : Bs W u bs) (h1 : bs.length ≤ 1048576) :
    Calls Try.prog 14 #[u] W fun e w' => e = .returned (.bool true) ∧ B W w' := by
  obtain ⟨Ab, cb, rfl⟩ := hb.rd.slice
  have HB := Lib.hid hb
  have H1 := Lib.hid h1
  have HBS := Lib.hid (show bs.length ≤ 1099511627775 by omega)
  have hbi : (bs.length : Int) ≤ 1048576 := by omega
  have HBM := Lib.hid (show (bs.length : Int) ≤ 9223372036854775807 by omega)
  have n1 := numS_len bs 0 18446744073709551615
  have n2 := numS_le bs 0 18446744073709551615
  have n3 := fun v r => numS_read (bs := bs) (most := 18446744073709551615) (v := v) (rest := r)
  have l1 := listS_len bs 0 bs.length bs.length
  have l2 := fun l r => listS_read (bs := bs) (most := bs.length) (each := bs.length) (l := l) (rest := r)
  have HNUM := Lib.hid (fun (w : World) (p : Nat) (X : List Asn) (h : St W w (aRd p bs 0 :: X)) => show Calls Try.prog 85 #[.pointer (some ⟨p, 0, none⟩), .int .u64 18446744073709551615] w _ from St.num85 h 18446744073709551615)
  have HLIST := Lib.hid (fun (w : World) (p : Nat) (X : List Asn) (h : St W w (aRd p bs 0 :: X)) => St.list88 h bs.length bs.length HBM.out HBM.out HBS.out)
  generalize numS bs 0 18446744073709551615 = r1 at *
  generalize listS bs 0 bs.length bs.length = r2 at *
  obtain ⟨v, b1, e1⟩ := r1
  obtain ⟨l, b2, e2⟩ := r2
  simp only at n1 n2 l1
  have HV := Lib.hid (show v < 18446744073709551616 by omega)
  have i1 : (b1.length : Int) ≤ bs.length := by omega
  have i2 : (b2.length : Int) ≤ bs.length := by omega
  have HE1 := Lib.hid (show e1 = 0 → bs = enc v ++ b1 from fun h => n3 v b1 (by rw [h]))
  have HE2 := Lib.hid (show e2 = 0 → bs = putL [] l ++ b2 from fun h => l2 l b2 (by rw [h]))
  have LB := Lib.hid (show bs.length ≤ big by unfold big; omega)
  clear n1 n2 n3 l1 l2 hb h1
  have hex1 : ∃ A k c, (e1 = 0 → (∀ w' : World, (Instr.slice 47 (.slice Ab bs.length cb) none (some (.int .i64 ((bs.length : Int) - (b1.length : Int)))) none).run Try.prog w' = .ok (.slice A k c) w') ∧ (∀ w' : World, (Instr.sliceAt 47 (.slice Ab bs.length cb) none (some (.int .i64 ((bs.length : Int) - (b1.length : Int)))) none).run Try.prog w' = .ok (.slice A k c) w') ∧ Bs W (.slice A k c) (enc v)) := by
    by_cases h : e1 = 0
    · obtain ⟨A, k, c, h2⟩ := HB.out.front (HE1.out h); exact ⟨A, k, c, fun _ => h2⟩
    · exact ⟨none, 0, 0, fun e => absurd e h⟩
  have hex2 : ∃ A k c, (e2 = 0 → (∀ w' : World, (Instr.slice 47 (.slice Ab bs.length cb) none (some (.int .i64 ((bs.length : Int) - (b2.length : Int)))) none).run Try.prog w' = .ok (.slice A k c) w') ∧ (∀ w' : World, (Instr.sliceAt 47 (.slice Ab bs.length cb) none (some (.int .i64 ((bs.length : Int) - (b2.length : Int)))) none).run Try.prog w' = .ok (.slice A k c) w') ∧ Bs W (.slice A k c) (putL [] l)) := by
    by_cases h : e2 = 0
    · obtain ⟨A, k, c, h2⟩ := HB.out.front (HE2.out h); exact ⟨A, k, c, fun _ => h2⟩
    · exact ⟨none, 0, 0, fun e => absurd e h⟩
  obtain ⟨A1, K1, C1, hx1⟩ := hex1
  obtain ⟨A2, K2, C2, hx2⟩ := hex2
  have q1 : ∃ b, (e1 == 0) = b := ⟨_, rfl⟩
  have q2 : ∃ b, (e2 != 0) = b := ⟨_, rfl⟩
  obtain ⟨z1, q1⟩ := q1
  obtain ⟨z2, q2⟩ := q2
  have LN := Lib.hid (show e1 = 0 → (enc v).length ≤ big from fun h => by have := congrArg List.length (HE1.out h); simp at this; have := LB.out; omega)
  have LP := Lib.hid (show e2 = 0 → (putL [] l).length + 10 ≤ big from fun h => by have := congrArg List.length (HE2.out h); simp at this; have := H1.out; unfold big; omega)
  have LZ := Lib.hid (show ([] : List UInt8).length + 10 ≤ big by unfold big; decide)
  cases z1
  case' false => have h1 : True := trivial
  case' true =>
    obtain ⟨s1, s2, s3⟩ := hx1 (by simpa using q1)
    have S3 := Lib.hid s3
    have LN' := Lib.hid (show ([] ++ enc v).length ≤ big from LN.out (by simpa using q1))
    clear s3
  all_goals
    clear hx1 LN
    cases z2
  all_goals
    first
      | (have q3 : e2 = 0 := by simpa using q2
         obtain ⟨t1, t2, t3⟩ := hx2 q3
         have T3 := Lib.hid t3
         have LP' := Lib.hid (LP.out q3)
         clear t3 hx2 q3)
      | (have h2 : True := trivial
         clear hx2)
    go_enter Try.func14, Try.ntmps14
    go_wp2_with (first
      | (go_at_call 69; (with_reducible refine (live69 (St.nil W)).mono ?_); rintro e w1 ⟨rfl, hS⟩; have HS1 := Lib.hid hS; clear hS)
      | (go_at_call 85; (with_reducible refine (HNUM.out _ _ _ HS2.out).mono ?_); rintro e w3 ⟨rfl, hS⟩; have HS3 := Lib.hid hS; clear hS)
      | (go_at_call 81; (with_reducible refine (St.left81 HS7.out.rot3).mono ?_); rintro e w4 ⟨rfl, rfl⟩)
      | (go_at_call 81; (with_reducible refine (St.left81 HS6.out.swap).mono ?_); rintro e w4 ⟨rfl, rfl⟩)
      | (go_at_call 81; (with_reducible refine (St.left81 HS4.out.swap).mono ?_); rintro e w4 ⟨rfl, rfl⟩)
      | (go_at_call 81; (with_reducible refine (St.left81 HS3.out).mono ?_); rintro e w4 ⟨rfl, rfl⟩)
      | (go_at_call 80; (with_reducible refine (St.err80 HS6.out.swap).mono ?_); rintro e w4 ⟨rfl, rfl⟩)
      | (go_at_call 80; (with_reducible refine (St.err80 HS3.out).mono ?_); rintro e w4 ⟨rfl, rfl⟩)
      | (go_at_call 70; (with_reducible refine (HS3.out.fresh (putNum70 (Bs.nil _) v HV.out LZ.out)).mono ?_); rintro e w4 ⟨v4, rfl, hS⟩; have HS4 := Lib.hid hS; clear hS)
      | (go_at_call 68; (with_reducible refine (equal68 (HS7.out.byBs (Nat.le_trans (Nat.le_add_right _ _) LP'.out)) (T3.out.later HS7.out.b)).mono ?_); rintro e w9 ⟨rfl, rfl⟩; simp only [beq_self_eq_true])
      | (go_at_call 68; (with_reducible refine (equal68 (HS4.out.byBs LN'.out) (S3.out.later HS4.out.b)).mono ?_); rintro e w9 ⟨rfl, rfl⟩; simp only [List.nil_append, beq_self_eq_true])
      | (go_at_call 77; (with_reducible refine (St.read77 HS4.out (HB.out.later HS4.out.b)).mono ?_); rintro e w5 ⟨p3, rfl, hS⟩; have HS5 := Lib.hid hS; clear hS)
      | (go_at_call 77; (with_reducible refine (St.read77 HS3.out (HB.out.later HS3.out.b)).mono ?_); rintro e w5 ⟨p3, rfl, hS⟩; have HS5 := Lib.hid hS; clear hS)
      | (go_at_call 77; (with_reducible refine (St.read77 HS1.out (HB.out.later HS1.out.b)).mono ?_); rintro e w2 ⟨p, rfl, hS⟩; have HS2 := Lib.hid hS; clear hS)
      | (go_at_call 88; (with_reducible refine (HLIST.out _ _ _ HS5.out).mono ?_); rintro e w6 ⟨v6, rfl, hS⟩; have HS6 := Lib.hid hS; obtain ⟨o6, hl6⟩ := hS.plLss; have HL6 := Lib.hid hl6; clear hS hl6)
      | (go_at_call 74; (with_reducible refine (HS6.out.fresh (putList74 (Bs.nil _) HL6.out LP'.out)).mono ?_); rintro e w7 ⟨v7, rfl, hS⟩; have HS7 := Lib.hid hS; clear hS))
    go_ret
    first
      | exact ⟨by simp, HS7.out.b⟩
      | exact ⟨by simp, HS6.out.b⟩
end Go.Proofs.Ythgpkbhilkdckaa
