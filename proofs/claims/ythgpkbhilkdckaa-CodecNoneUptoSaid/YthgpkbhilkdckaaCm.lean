/- Take, Bytes, List of the reference's reader. -/
import Derived.Test.YthgpkbhilkdckaaCl
namespace Go.Proofs.Ythgpkbhilkdckaa
open Go.RowKit
set_option linter.unusedVariables false

section
variable {W w : World} {p : Nat} {bs : List UInt8} {e : Int} {L : List Asn}
def TakePostR (W : World) (p : Nat) (L : List Asn) (r : List UInt8 × List UInt8 × Int) (e' : Ending) (w' : World) : Prop :=
  ∃ v, e' = .returned v ∧ St W w' (aBy v r.1 :: aRr W p r.2.1 r.2.2 :: L)
set_option maxHeartbeats 2000000 in
theorem St.take118_stuck (h : St W w (aRr W p bs e :: L)) (he : e ≠ 0) (n : Int) : Calls Try.prog 118 #[.pointer (some ⟨p, 0, none⟩), .int .i64 n] w (TakePostR W p L (takeS bs e n)) := by
  obtain ⟨A, c, c0, c1, f, hb, he'⟩ := h.rr
  obtain rfl := he' he
  have H := Lib.hid h
  have hf := h.fail121 1
  rw [show failB [] e 1 = [] by simp [failB], show failE e 1 = e by simp [failE, he]] at hf
  have HF := Lib.hid hf
  have q1 : (e != 0) = true := by simp [he]
  have q2 : (e == 0) = false := by simp [he]
  have E := Lib.hid (fun w' (hS : St W w' (aRr W p [] e :: L)) => show TakePostR W p L (takeS [] e n) (.returned (.slice none 0 0)) w' from ⟨_, rfl, by simp only [takeS, if_pos he]; exact aBy.nil hS⟩)
  clear h hf he he' hb f
  by_cases hn : n < 0
  · clear c1
    go_enter Try.func118, Try.ntmps118
    go_wp2_with (first
      | (go_at_call 121; (with_reducible refine HF.out.mono ?_); rintro e w1 ⟨rfl, hS⟩; have H1 := Lib.hid hS; have d1 := hS.rrE; clear hS))
    go_ret
    exact E.out _ H1.out
  · go_enter Try.func118, Try.ntmps118
    go_wp2_with fail
    go_ret
    exact E.out _ H.out
set_option maxHeartbeats 2000000 in
theorem St.take118_neg (h : St W w (aRr W p bs 0 :: L)) (n : Int) (hn : n < 0) : Calls Try.prog 118 #[.pointer (some ⟨p, 0, none⟩), .int .i64 n] w (TakePostR W p L (takeS bs 0 n)) := by
  have hf := h.fail121 1
  rw [show failB bs 0 1 = [] by simp [failB], show failE 0 1 = 1 by simp [failE]] at hf
  have HF := Lib.hid hf
  have E := Lib.hid (fun w' (hS : St W w' (aRr W p [] 1 :: L)) => show TakePostR W p L (takeS bs 0 n) (.returned (.slice none 0 0)) w' from ⟨_, rfl, by simp only [takeS, if_pos hn]; exact aBy.nil hS⟩)
  clear h hf
  go_enter Try.func118, Try.ntmps118
  go_wp2_with (first
    | (go_at_call 121; (with_reducible refine HF.out.mono ?_); rintro e w1 ⟨rfl, hS⟩; have H1 := Lib.hid hS; have d1 := hS.rrE; clear hS))
  go_ret
  exact E.out _ H1.out
set_option maxHeartbeats 2000000 in
theorem St.take118_cut (h : St W w (aRr W p bs 0 :: L)) (n : Int) (hn : ¬ n < 0) (hl : (bs.length : Int) < n) : Calls Try.prog 118 #[.pointer (some ⟨p, 0, none⟩), .int .i64 n] w (TakePostR W p L (takeS bs 0 n)) := by
  have hf := h.fail121 10
  rw [show failB bs 0 10 = [] by simp [failB], show failE 0 10 = 10 by simp [failE]] at hf
  have HF := Lib.hid hf
  have E := Lib.hid (fun w' (hS : St W w' (aRr W p [] 10 :: L)) => show TakePostR W p L (takeS bs 0 n) (.returned (.slice none 0 0)) w' from ⟨_, rfl, by simp only [takeS, if_neg hn, if_pos hl]; exact aBy.nil hS⟩)
  obtain ⟨A, c, c0, c1, f, hb, he'⟩ := h.rr
  clear h hf f hb he'
  go_enter Try.func118, Try.ntmps118
  go_wp2_with (first
    | (go_at_call 121; (with_reducible refine HF.out.mono ?_); rintro e w1 ⟨rfl, hS⟩; have H1 := Lib.hid hS; have d1 := hS.rrE; clear hS))
  go_ret
  exact E.out _ H1.out
set_option maxHeartbeats 2000000 in
theorem St.take118_ok (h : St W w (aRr W p bs 0 :: L)) (n : Nat) (hl : n ≤ bs.length) : Calls Try.prog 118 #[.pointer (some ⟨p, 0, none⟩), .int .i64 (n : Int)] w (TakePostR W p L (takeS bs 0 n)) := by
  have HH := Lib.hid h
  obtain ⟨A, c, c0, c1, f, hb, he'⟩ := h.rr
  have f0 := f 0
  obtain ⟨A1, c1', r1, r2, hb1, ho1⟩ := hb.cutTo n hl
  obtain ⟨A2, c2', r3, r4, hb2, ho2⟩ := hb.cut n hl
  have HB1 := Lib.hid (hb1.later h.b)
  have HB2 := Lib.hid hb2
  have C0 := Lib.hid c0
  have F0 := Lib.hid f0
  have HP := Lib.hid (World.block_lt_of_cell? w _ c0)
  have hnl : (n : Int) ≤ bs.length := by omega
  have htl : (bs.take n).length = n := by simp; omega
  have HTL := Lib.hid htl
  have g1 : 0 + n ≤ maxLen := by have := hb.len; unfold big at this; unfold maxLen; omega
  have g2 : (0 + n) * 1 ≤ 140737488355328 := by have := hb.len; unfold big at this; omega
  have o1 := cellsB_one (bs.take n)
  have hrd := HB1.out.rd
  rw [htl] at hrd
  have HRD := Lib.hid hrd
  have TE := Lib.hid (show takeS bs 0 n = (bs.take n, bs.drop n, 0) by unfold takeS; rw [if_neg (by simp), if_neg (by omega), if_neg (by omega)]; simp)
  clear h hb hb1 hb2 ho1 ho2 htl he' f hrd
  go_enter Try.func118, Try.ntmps118
  go_wp2_with (first
    | (at_builtin; refine wpList_append_Rd (v := .slice none 0 0) (base := w.heap.size) rfl (.tmp 31) (.tmp 37) 47 rfl Try.underlying47 info5 rfl Nat.zero_lt_one rfl rfl (ownNil _ _ 5 1) HRD.out o1 g1 g2 (Nat.le_refl _) ?_; intro A3 c3 w3 r5 x3 y3; simp only [Nat.zero_add, List.nil_append] at r5 y3; have hb3 : B w w3 := B.grown (Below.refl _ _) x3 (fun k hk => by simp [Value.ownBlock] at hk); have R5 := Lib.hid r5; have B3 := Lib.hid hb3; have c03 := hb3.cell C0.out; have f03 := (Below.frozen hb3 HP.out).trans F0.out; clear c0 f0 r5 x3 y3 hb3))
  go_ret
  refine ⟨_, rfl, ?_⟩
  rw [TE.out]
  have h5 := HH.out.addRow B3.out R5.out
  exact St.swap (h5.swap.rrSet0 HB2.out (by simp) (fun h => absurd rfl h)) |> fun h => by
    have e : aRow 5 1 (Value.slice A3 n c3) n (cellsB (bs.take n)) = aBy (Value.slice A3 n c3) (bs.take n) := by unfold aBy; rw [HTL.out]
    simpa [e] using h
theorem St.take118 (h : St W w (aRr W p bs e :: L)) (n : Int) (hn : -9223372036854775808 ≤ n ∧ n ≤ 9223372036854775807) : Calls Try.prog 118 #[.pointer (some ⟨p, 0, none⟩), .int .i64 n] w (TakePostR W p L (takeS bs e n)) := by
  by_cases he : e = 0
  · subst he
    by_cases h0 : n < 0
    · exact h.take118_neg n h0
    · by_cases hl : (bs.length : Int) < n
      · exact h.take118_cut n h0 hl
      · obtain ⟨k, hk⟩ := Int.eq_ofNat_of_zero_le (show 0 ≤ n by omega)
        subst hk
        exact h.take118_ok k (by omega)
  · exact h.take118_stuck he n
set_option maxHeartbeats 2000000 in
theorem St.bytes119 (h : St W w (aRr W p bs e :: L)) (m : Int) (hm : m ≤ 9223372036854775807) : Calls Try.prog 119 #[.pointer (some ⟨p, 0, none⟩), .int .i64 m] w (TakePostR W p L (bytesS bs e m)) := by
  have HN := Lib.hid (h.num117 m.toNat)
  have HL := numS_le bs e m.toNat
  have hq : m.toNat ≤ 9223372036854775807 := by omega
  have hv : (numS bs e m.toNat).1 ≤ 9223372036854775807 := by omega
  have HT := Lib.hid (fun w' (hS : St W w' (aRr W p (numS bs e m.toNat).2.1 (numS bs e m.toNat).2.2 :: L)) => hS.take118 ((numS bs e m.toNat).1 : Int) (by omega))
  rw [show bytesS bs e m = takeS (numS bs e m.toNat).2.1 (numS bs e m.toNat).2.2 ((numS bs e m.toNat).1 : Int) from rfl]
  generalize numS bs e m.toNat = r at *
  obtain ⟨v, b1, e1⟩ := r
  simp only at hv HL HT
  have hv3 : IntKind.i64.wrap (v : Int) = (v : Int) := by simp [IntKind.wrap, IntKind.signed, IntKind.bits]; omega
  by_cases h0 : 0 ≤ m
  case' pos =>
    obtain ⟨k, hk⟩ := Int.eq_ofNat_of_zero_le (show 0 ≤ m by omega)
    subst hk
    simp only [Int.toNat_natCast] at HN hq
    have hv2 : IntKind.u64.wrap (k : Int) = (k : Int) := u64_id (by omega)
    have hk9 : (k : Int) ≤ 9223372036854775807 := by omega
    have hm0 : (0 : Int) ≤ k := h0
    clear h HL hq hm h0
  case' neg =>
    have hm0 : m < 0 := by omega
    have hv2 : IntKind.u64.wrap 0 = 0 := by decide
    rw [show m.toNat = 0 by omega] at HN
    have HN := Lib.hid (show Calls Try.prog 117 #[.pointer (some ⟨p, 0, none⟩), .int .u64 0] w _ from HN.out)
    clear h HL hq hm h0
  all_goals
    go_enter Try.func119, Try.ntmps119
    go_wp2_with (first
      | (go_at_call 117; (with_reducible refine HN.out.mono ?_); rintro e w1 ⟨rfl, hS⟩; have H1 := Lib.hid hS; clear hS)
      | (go_at_call 118; (with_reducible refine (HT.out _ H1.out).mono ?_); rintro e w1 ⟨v2, rfl, hS⟩; have H2 := Lib.hid hS; clear hS))
    go_ret
    exact ⟨_, rfl, H2.out⟩
def ListPostR (W : World) (p : Nat) (L : List Asn) (r : List (List UInt8) × List UInt8 × Int) (e' : Ending) (w' : World) : Prop :=
  ∃ v, e' = .returned v ∧ St W w' (aPl v r.1 :: aRr W p r.2.1 r.2.2 :: L)
set_option maxRecDepth 20000 in
set_option maxHeartbeats 4000000 in
theorem St.list120 (h : St W w (aRr W p bs e :: L)) (most each : Int) (hm : most ≤ 9223372036854775807) (hea : each ≤ 9223372036854775807) (hbs : bs.length ≤ 1099511627775) :
    Calls Try.prog 120 #[.pointer (some ⟨p, 0, none⟩), .int .i64 most, .int .i64 each] w (ListPostR W p L (listS bs e most each)) := by
  have HN := Lib.hid (h.num117 most.toNat)
  have HL := numS_le bs e most.toNat
  have hps := numS_pos bs e most.toNat
  have hln := numS_len bs e most.toNat
  have HEA := Lib.hid hea
  have HBS := Lib.hid hbs
  rw [show listS bs e most each = listGo each (numS bs e most.toNat).1 (numS bs e most.toNat).2.1 (numS bs e most.toNat).2.2 [] from rfl]
  generalize numS bs e most.toNat = r at *
  obtain ⟨n, b1, e1⟩ := r
  simp only at HL hps hln
  have HPS := Lib.hid hps
  have HLN := Lib.hid hln
  have hn : (n : Int) ≤ 9223372036854775807 := by omega
  have HINI := Lib.hid (show (e1 = 0 ∧ listGo each n b1 e1 [] = listGo each n b1 e1 []) ∨ (e1 ≠ 0 ∧ listGo each n b1 e1 [] = ([], b1, e1)) from by
    by_cases h : e1 = 0
    · exact .inl ⟨h, rfl⟩
    · right
      refine ⟨h, ?_⟩
      rcases Nat.eq_zero_or_pos n with e | e
      · subst e; rfl
      · exact absurd (hps e) h)
  clear hps hln hbs hea
  by_cases h0 : 0 ≤ most
  case' pos =>
    obtain ⟨k, hk⟩ := Int.eq_ofNat_of_zero_le (show 0 ≤ most by omega)
    subst hk
    simp only [Int.toNat_natCast] at HN
    have hv2 : IntKind.u64.wrap (k : Int) = (k : Int) := u64_id (by omega)
    have hm0 : (0 : Int) ≤ k := h0
    have HM := Lib.hid hm
    clear h HL h0 hm
  case' neg =>
    have hm0 : most < 0 := by omega
    have hv2 : IntKind.u64.wrap 0 = 0 := by decide
    rw [show most.toNat = 0 by omega] at HN
    have HN := Lib.hid (show Calls Try.prog 117 #[.pointer (some ⟨p, 0, none⟩), .int .u64 0] w _ from HN.out)
    have HM := Lib.hid hm
    clear h HL hm h0
  all_goals
    go_enter Try.func120, Try.ntmps120
    go_wp2_with (first
      | (go_at_call 117; (with_reducible refine HN.out.mono ?_); rintro e w1 ⟨rfl, hS⟩; have H1 := Lib.hid (St.swap (aPl.nil hS)); clear hS))
    go_loopw [8, 9] (fun l i wr => ∃ (q : Nat) (acc : List (List UInt8)) (b2 : List UInt8) (e2 : Int), q ≤ n ∧ i = .int .u64 (q : Int) ∧ Hid ((e2 = 0 ∧ listGo each (n - q) b2 e2 acc = listGo each n b1 e1 [] ∧ acc.length + b2.length ≤ bs.length) ∨ (e2 ≠ 0 ∧ listGo each n b1 e1 [] = ([], b2, e2))) ∧ Hid (St W wr (aRr W p b2 e2 :: aPl l acc :: L))) (fun _ i _ => n - (intOf i).toNat)
    case atStart =>
      refine ⟨0, [], b1, e1, Nat.zero_le _, rfl, ?_, H1.out⟩
      rcases HINI.out with ⟨h, h2⟩ | h
      · exact .inl ⟨h, rfl, by simpa using HLN.out⟩
      · exact .inr h
    case round =>
      obtain ⟨q, acc, b2, e2, hq, rfl, HG, HS⟩ := hrel
      obtain ⟨Al, cl, hvl⟩ := aPl.slice HS.out.swap
      subst hvl
      have d1 := HS.out.rrE
      by_cases he2 : e2 = 0
      · subst he2
        have HG1 := Lib.hid (show listGo each (n - q) b2 0 acc = listGo each n b1 e1 [] ∧ acc.length + b2.length ≤ bs.length from by
          rcases HG.out with ⟨_, h⟩ | ⟨h, _⟩
          · exact h
          · exact absurd rfl h)
        clear HG
        by_cases hlt : q < n
        · have hqi : (q : Int) < n := by omega
          have hall := bytesS_all b2 0 each
          have hbl := bytesS_len b2 each
          have hw : IntKind.u64.wrap ((q : Int) + 1) = (q : Int) + 1 := u64_id (by omega)
          have hg : listGo each (n - q) b2 0 acc = (let r := bytesS b2 0 each; if r.2.2 ≠ 0 then ([], r.2.1, r.2.2) else listGo each (n - (q + 1)) r.2.1 r.2.2 (acc ++ [r.1])) := by
            rw [show n - q = (n - (q + 1)) + 1 by omega]; rfl
          have HT := Lib.hid (HS.out.bytes119 each HEA.out)
          generalize bytesS b2 0 each = r at *
          obtain ⟨x, b3, e3⟩ := r
          simp only at hall hbl hg
          have HALL := Lib.hid hall
          have HBL := Lib.hid hbl
          have HGG := Lib.hid (HG1.out.1.symm.trans hg)
          clear hall hbl hg
          have hlen1 : acc.length + 1 ≤ 1099511627776 := by have := HG1.out.2; have := HBS.out; omega
          have hxb : x.length ≤ big := by have := HALL.out; have := HG1.out.2; have := HBS.out; unfold big; omega
          go_wp2_with (first
            | (go_at_call 119; (with_reducible refine HT.out.mono ?_); rintro e w2 ⟨v2, rfl, hS⟩; have HS2 := Lib.hid hS; obtain ⟨A3, c3, w3, hrun, hS3⟩ := St.plAppend (ty := 46) hS.rot3 hxb hlen1; have HS3 := Lib.hid hS3; obtain ⟨A4, c4, hv2'⟩ := hS.rowSlice; subst hv2'; clear hS hS3)
            | (at_builtin; refine wpList_append_run rfl (.tmp 27) (.tmp 31) 46 rfl rfl rfl hrun ?_))
          go_roundw
          case rel =>
            refine ⟨q + 1, acc ++ [x], b3, e3, by omega, by go_num, ?_, HS3.out.swap⟩
            by_cases he3 : e3 = 0
            · subst he3
              refine .inl ⟨rfl, by rw [HGG.out]; simp, ?_⟩
              have h1 := HBL.out (by trivial)
              have h2 := HG1.out.2
              show (acc ++ [x]).length + b3.length ≤ _
              rw [List.length_append, List.length_singleton]; omega
            · exact .inr ⟨he3, by rw [HGG.out]; simp [he3]⟩
          case measure => simp [intOf]; omega
        · have hqi : ¬ (q : Int) < n := by omega
          have HGZ := Lib.hid (show listGo each n b1 e1 [] = (acc, b2, 0) by rw [← HG1.out.1, show n - q = 0 by omega]; rfl)
          go_wp2_with fail
          go_ret
          rw [HGZ.out]
          exact ⟨_, rfl, HS.out.swap⟩
      · have HGZ := Lib.hid (show listGo each n b1 e1 [] = ([], b2, e2) from by
          rcases HG.out with ⟨h, _⟩ | ⟨_, h⟩
          · exact absurd h he2
          · exact h)
        have q1 : (e2 == 0) = false := by simpa using he2
        have q2 : (e2 != 0) = true := by simpa using he2
        clear he2 HG
        by_cases hlt : q < n
        · have hqi : (q : Int) < n := by omega
          go_wp2_with fail
          go_ret
          rw [HGZ.out]
          exact ⟨_, rfl, aPl.nil HS.out.drop2⟩
        · have hqi : ¬ (q : Int) < n := by omega
          go_wp2_with fail
          go_ret
          rw [HGZ.out]
          exact ⟨_, rfl, aPl.nil HS.out.drop2⟩
end
end Go.Proofs.Ythgpkbhilkdckaa
