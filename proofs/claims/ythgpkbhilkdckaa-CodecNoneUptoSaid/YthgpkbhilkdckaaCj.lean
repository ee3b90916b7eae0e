/- List of codec's reader. -/
import Derived.Test.YthgpkbhilkdckaaCi
namespace Go.Proofs.Ythgpkbhilkdckaa
open Go.RowKit
set_option linter.unusedVariables false

theorem numGo_pos (most : Nat) : ∀ (bs : List UInt8) (i acc : Nat), (numGo most i acc bs).2.2 ≠ 0 → (numGo most i acc bs).1 = 0
  | [], _, _ => fun _ => rfl
  | c :: r, i, acc => by
    have ih := numGo_pos most r (i + 1) (acc + c.toNat % 128 * 128 ^ i)
    unfold numGo
    split
    · simp
    · split
      · exact ih
      · split
        · simp
        · simp
theorem numS_pos (bs : List UInt8) (e : Int) (most : Nat) (h : 0 < (numS bs e most).1) : (numS bs e most).2.2 = 0 := by
  unfold numS at h ⊢
  by_cases he : e = 0
  · rw [if_pos he] at h ⊢
    by_cases h2 : (numGo most 0 0 bs).2.2 = 0
    · exact h2
    · have := numGo_pos most bs 0 0 h2; omega
  · rw [if_neg he] at h; simp at h
theorem numS_len (bs : List UInt8) (e : Int) (most : Nat) : (numS bs e most).2.1.length ≤ bs.length := by
  unfold numS; split
  · exact (numGo_len _ _ _ _).1
  · exact Nat.le_refl _
theorem bytesS_all (bs : List UInt8) (e m : Int) : (bytesS bs e m).2.1.length + (bytesS bs e m).1.length ≤ bs.length := by
  unfold bytesS
  exact Nat.le_trans (takeS_len _ _ _) (numS_len _ _ _)
section
variable {W w : World} {p : Nat} {bs : List UInt8} {e : Int} {L : List Asn}
set_option maxRecDepth 20000 in
set_option maxHeartbeats 4000000 in
theorem St.list88 (h : St W w (aRd p bs e :: L)) (most each : Int) (hm : most ≤ 9223372036854775807) (hea : each ≤ 9223372036854775807) (hbs : bs.length ≤ 1099511627775) :
    Calls Try.prog 88 #[.pointer (some ⟨p, 0, none⟩), .int .i64 most, .int .i64 each] w (ListPost W p L (listS bs e most each)) := by
  have HN := Lib.hid (h.num85 most.toNat)
  have HL := numS_le bs e most.toNat
  have hps := numS_pos bs e most.toNat
  have hln := numS_len bs e most.toNat
  have HEA := Lib.hid hea
  have HBS := Lib.hid hbs
  rw [show listS bs e most each = listGo each (numS bs e most.toNat).1 (numS bs e most.toNat).2.1 (numS bs e most.toNat).2.2 [] from rfl]
  generalize numS bs e most.toNat = r at *
  obtain ⟨n, b1, e1⟩ := r
  simp only at HL hps hln
  have HPS := Lib.hid hps
  have HLN := Lib.hid hln
  have hn : (n : Int) ≤ 9223372036854775807 := by omega
  clear hps hln hbs hea
  by_cases h0 : 0 < most
  case' pos =>
    obtain ⟨k, hk⟩ := Int.eq_ofNat_of_zero_le (show 0 ≤ most by omega)
    subst hk
    simp only [Int.toNat_natCast] at HN
    have hv2 : IntKind.u64.wrap (k : Int) = (k : Int) := u64_id (by omega)
    have hm0 : (0 : Int) < k := h0
    have HM := Lib.hid hm
    clear h HL h0 hm
  case' neg =>
    have hv2 : IntKind.u64.wrap 0 = 0 := by decide
    rw [show most.toNat = 0 by omega] at HN
    have HN := Lib.hid (show Calls Try.prog 85 #[.pointer (some ⟨p, 0, none⟩), .int .u64 0] w _ from HN.out)
    have HM := Lib.hid hm
    clear h HL hm
  all_goals
    go_enter Try.func88, Try.ntmps88
    go_wp2_with (first
      | (go_at_call 85; (with_reducible refine HN.out.mono ?_); rintro e w1 ⟨rfl, hS⟩; have H1 := Lib.hid (St.swap (aPl.nil hS)); clear hS))
    go_loopw [8, 16] (fun l i wr => ∃ (q : Nat) (acc : List (List UInt8)) (b2 : List UInt8) (e2 : Int), q ≤ n ∧ i = .int .u64 (q : Int) ∧ Hid (q < n → e2 = 0) ∧ Hid (listGo each (n - q) b2 e2 acc = listGo each n b1 e1 []) ∧ Hid (acc.length + b2.length ≤ bs.length) ∧ Hid (St W wr (aRd p b2 e2 :: aPl l acc :: L))) (fun _ i _ => n - (intOf i).toNat)
    case atStart => exact ⟨0, [], b1, e1, Nat.zero_le _, rfl, fun h => HPS.out h, rfl, by show _ ≤ _; simpa using HLN.out, H1.out⟩
    case round =>
      obtain ⟨q, acc, b2, e2, hq, rfl, HE, HG, HB, HS⟩ := hrel
      obtain ⟨Al, cl, hvl⟩ := aPl.slice HS.out.swap
      subst hvl
      by_cases hlt : q < n
      · have hqi : (q : Int) < n := by omega
        have he2 := HE.out hlt
        subst he2
        have hall := bytesS_all b2 0 each
        have hbl := bytesS_len b2 each
        have hw : IntKind.u64.wrap ((q : Int) + 1) = (q : Int) + 1 := u64_id (by omega)
        have hg : listGo each (n - q) b2 0 acc = (let r := bytesS b2 0 each; if r.2.2 ≠ 0 then ([], r.2.1, r.2.2) else listGo each (n - (q + 1)) r.2.1 r.2.2 (acc ++ [r.1])) := by
          rw [show n - q = (n - (q + 1)) + 1 by omega]; rfl
        have HT := Lib.hid (HS.out.bytes87 each HEA.out)
        generalize bytesS b2 0 each = r at *
        obtain ⟨x, b3, e3⟩ := r
        simp only at hall hbl hg
        have HALL := Lib.hid hall
        have HBL := Lib.hid hbl
        have HGG := Lib.hid (HG.out.symm.trans hg)
        clear hall hbl hg
        by_cases he3 : e3 = 0
        · subst he3
          have HGZ := Lib.hid (show listGo each n b1 e1 [] = listGo each (n - (q + 1)) b3 0 (acc ++ [x]) by rw [HGG.out]; simp)
          have hlen1 : acc.length + 1 ≤ 1099511627776 := by have := HB.out; have := HBS.out; omega
          have hxb : x.length ≤ big := by have := HALL.out; have := HB.out; have := HBS.out; unfold big; omega
          go_wp2_with (first
            | (go_at_call 87; (with_reducible refine HT.out.mono ?_); rintro e w2 ⟨v2, rfl, hS⟩; have HS2 := Lib.hid hS; obtain ⟨A3, c3, w3, hrun, hS3⟩ := St.plAppend (ty := 46) hS.rot3 hxb hlen1; have HS3 := Lib.hid hS3; obtain ⟨A4, c4, hv2'⟩ := hS.rowSlice; subst hv2'; clear hS hS3)
            | (go_at_call 122; (with_reducible refine (HS2.out.swap.stuck122 false (by simp)).mono ?_); rintro e w4 ⟨rfl, rfl⟩)
            | (at_builtin; refine wpList_append_run rfl (.tmp 23) (.tmp 25) 46 rfl rfl rfl hrun ?_))
          go_roundw
          case rel =>
            refine ⟨q + 1, acc ++ [x], b3, 0, by omega, by go_num, fun _ => rfl, HGZ.out.symm, ?_, HS3.out.swap⟩
            have h1 := HBL.out trivial
            have h2 := HB.out
            show (acc ++ [x]).length + b3.length ≤ _
            rw [List.length_append, List.length_singleton]; omega
          case measure => simp [intOf]; omega
        · have HGZ := Lib.hid (show listGo each n b1 e1 [] = ([], b3, e3) by rw [HGG.out]; simp [he3])
          have HE3 := Lib.hid he3
          clear he3
          go_wp2_with (first
            | (go_at_call 87; (with_reducible refine HT.out.mono ?_); rintro e w2 ⟨v2, rfl, hS⟩; have HS2 := Lib.hid hS; clear hS)
            | (go_at_call 122; (with_reducible refine (HS2.out.swap.stuck122 true (by have := HE3.out; simpa using this)).mono ?_); rintro e w4 ⟨rfl, rfl⟩))
          go_ret
          rw [HGZ.out]
          exact ⟨_, rfl, aPl.nil HS2.out.drop.drop2⟩
      · have hqi : ¬ (q : Int) < n := by omega
        have HGZ := Lib.hid (show listGo each n b1 e1 [] = (acc, b2, e2) by rw [← HG.out, show n - q = 0 by omega]; rfl)
        go_wp2_with fail
        go_ret
        rw [HGZ.out]
        exact ⟨_, rfl, HS.out.swap⟩
end
end Go.Proofs.Ythgpkbhilkdckaa
