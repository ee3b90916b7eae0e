/- WalNames: whatever the name and the size, the log is opened just where the document's is, and the files are the same. Condition: the five listed package variables hold what their initialisers lay. -/
import Derived.Test.YtnpjfjgnhadmjaaGreatDoorZb4
import Derived.ChangeMaps5
/- The reference's disk: Write and Append of bytes that lie among the objects. -/
namespace Go.Proofs.YtnpjfjgnhadmjaaGreatDoor
open Go.RowKit Go.Maps Go.Deep
set_option linter.unusedVariables false

section
variable {W w : World} {p m : Nat} {d : Dk} {X L : List Asn} {n : List UInt8} {A C D : Asn}
set_option maxRecDepth 20000 in
set_option maxHeartbeats 4000000 in
theorem rwriteX_c {k : Int} {u : Value} {b : List UInt8} (h : St W w (aRdk p d :: X)) (hu : ∀ (w' : World) (Y : List Asn), St W w' (Y ++ X) → Bs w' u b) (hbl : b.length ≤ 4194304000) : Calls Tryz.prog 116 #[.pointer (some ⟨p, 0, none⟩), .string (bstr n), .int .i64 k, u] w fun e w' => e = .returned (.int .i64 (writeF d n k b).1) ∧ St W w' (aRdk p (writeF d n k b).2 :: X) := by
  have H0 := Lib.hid h
  obtain ⟨A, c, vs, h1, h2, h3⟩ := aRdk.open_ h
  obtain ⟨Au, cu, hus⟩ := (hu w [aRdk p d] H0.out).rd.slice
  obtain ⟨lb, hlb⟩ : ∃ l, b.length = l := ⟨_, rfl⟩
  rw [hlb] at hus hbl
  subst hus
  cases hm : mayF d n with
  | mk o er =>
  cases o with
  | none =>
    have hf : writeF d n k b = (er, d) := turn_none hm
    have HF := Lib.hid (rmay_no h hm)
    have q1 : (er != 0) = true := by simpa using may_none hm
    rw [hf]
    clear h h1 h2 h3 hm hf hu
    go_enter Tryz.func116, Tryz.ntmps116
    go_wp2_with (first | (go_at_call 104; (with_reducible refine HF.out.mono ?_); rintro e w1 ⟨rfl, rfl⟩))
    go_ret
    exact ⟨rfl, H0.out⟩
  | some i =>
    obtain ⟨_, _, f, hd, hnm⟩ := may_some hm
    clear hnm
    have hf := turn_some (g := writeB d k b) hm hd
    have hok := write_ok h1 n k b
    unfold writeF at hok ⊢
    rw [hf] at hok ⊢
    unfold writeB at hok ⊢
    rw [hlb] at hok ⊢
    have HF := Lib.hid (rmay_yes h hm)
    have c0 := (aBlk.get h3).cell 0
    have c1 := (aBlk.get h3).cell 1
    simp at c0 c1
    obtain ⟨g, Ab, cb, hA, hvi, hbs, k0, k1, k2⟩ := rd_facts h2 h3 hd
    have hpg := rd_ne h3 hA
    subst hA
    have f1 : w.frozen? ⟨g, i * 3 + 1, none⟩ = false := St.rowFree h3.swap _
    have f2 : w.frozen? ⟨g, i * 3 + 2, none⟩ = false := St.rowFree h3.swap _
    have hil : (i : Int) < (d.R.length : Int) := by
      have : i < d.R.length := by
        rcases Nat.lt_or_ge i d.R.length with h' | h'
        · exact h'
        · rw [List.getElem?_eq_none h'] at hd; cases hd
      omega
    have hpl : p < w.heap.size := (aBlk.get h3).lt
    have hgl : g < w.heap.size := by
      obtain ⟨own, hr, _⟩ := h3.swap.get
      exact row_lt hr.1 rfl
    by_cases q1 : k < 0
    · rw [if_pos (.inl q1)]
      simp only
      rw [set_same hd]
      generalize d.R.length = N at *
      clear h h1 h2 h3 hm hf hd hbs hok hu hlb
      go_enter Tryz.func116, Tryz.ntmps116
      go_wp2_with (first | (go_at_call 104; (with_reducible refine HF.out.mono ?_); rintro e w1 ⟨rfl, rfl⟩))
      go_ret
      exact ⟨rfl, H0.out.later (B.alloc' _ _)⟩
    · by_cases q2 : (f.b.length : Int) < k
      · rw [if_pos (.inr q2)]
        simp only
        rw [set_same hd]
        generalize d.R.length = N at *
        clear h h1 h2 h3 hm hf hd hbs hok hu hlb
        go_enter Tryz.func116, Tryz.ntmps116
        go_wp2_with (first | (go_at_call 104; (with_reducible refine HF.out.mono ?_); rintro e w1 ⟨rfl, rfl⟩))
        go_ret
        exact ⟨rfl, H0.out.later (B.alloc' _ _)⟩
      · rw [if_neg (by omega)] at hok ⊢
        obtain ⟨j, rfl⟩ := Int.eq_ofNat_of_zero_le (show 0 ≤ k by omega)
        rw [Int.toNat_natCast] at hok ⊢
        have hjl : j ≤ f.b.length := by omega
        have hus := h1.used
        have hrm := h1.room
        have hfl : f.b.length ≤ 4194304 := by
          have := used_drop hd
          omega
        have HU := Lib.hid (fun (n : Nat) => rused_c (h.later ((B.alloc' w (.cells #[.string (bstr f.nm), .slice Ab f.b.length cb, .int .i64 (f.sure : Int)] 147)).trans (B.drewN' n))))
        generalize usedF d.R = us at *
        have hw0 : IntKind.i64.wrap (d.room - (us : Int)) = d.room - (us : Int) := wrap_sub (by omega) (by omega)
        have hw1 : IntKind.i64.wrap ((f.b.length : Int) - (j : Int)) = (f.b.length : Int) - (j : Int) := wrap_sub (by omega) (by omega)
        have hw2 : IntKind.i64.wrap ((lb : Int) - ((f.b.length : Int) - (j : Int))) = (lb : Int) - ((f.b.length : Int) - (j : Int)) := wrap_sub (by omega) (by omega)
        by_cases q3 : d.room - us < (lb : Int) - ((f.b.length : Int) - (j : Int))
        · rw [if_pos q3]
          simp only
          rw [set_same hd]
          have q5 : 0 < (lb : Int) - ((f.b.length : Int) - (j : Int)) := by omega
          generalize d.R.length = N at *
          clear h h1 h2 h3 hm hf hd hbs hok hu hlb
          go_enter Tryz.func116, Tryz.ntmps116
          go_wp2_with (first | (go_at_call 104; (with_reducible refine HF.out.mono ?_); rintro e w1 ⟨rfl, rfl⟩))
          go_quiet ((go_at_call 130; exact Calls.quiet_of_same ((HU.out _).mono fun _ _ ⟨a, b⟩ => ⟨a, b.symm⟩)))
          all_goals
            go_wp2_with fail
            go_ret
            exact ⟨rfl, H0.out.later ((B.alloc' _ _).trans (B.drewN' _))⟩
        · rw [if_neg q3] at hok ⊢
          simp only at hok ⊢
          obtain ⟨A1, c1', s1, s2, hb1, _⟩ := hbs.cutTo j hjl
          have KC := Lib.hid (fun (n : Nat) => (hb1.later ((B.alloc' w (.cells #[.string (bstr f.nm), .slice Ab f.b.length cb, .int .i64 (f.sure : Int)] 147)).trans (B.drewN' n))).rd)
          have HNN := Lib.hid (fun (n : Nat) => (aBlk.new h3 147 #[.string (bstr f.nm), .slice Ab f.b.length cb, .int .i64 (f.sure : Int)]).later (B.drewN' n))
          have hjt : (f.b.take j).length = j := by rw [List.length_take]; omega
          rw [hjt] at KC
          have HUB := Lib.hid (fun (w' : World) (Y : List Asn) (hS : St W w' (Y ++ X)) => (show Rd w' (.slice Au lb cu) lb 1 (cellsB b) from hlb ▸ (hu w' Y hS).rd))
          have o1 := cellsB_one (f.b.take j)
          have o2 := cellsB_one b
          have g1 : 0 + j ≤ maxLen := by unfold maxLen; omega
          have g2 : (0 + j) * 1 ≤ 140737488355328 := by omega
          have g3 : j + lb ≤ maxLen := by unfold maxLen; omega
          have g4 : (j + lb) * 1 ≤ 140737488355328 := by omega
          have HCC := Lib.hid (fun (w' : World) (Y : Asn) (hS : St W w' (Y :: aBlk w.heap.size 147 #[.string (bstr f.nm), .slice Ab f.b.length cb, .int .i64 (f.sure : Int)] :: aBlk p 89 #[.slice (some ⟨g, 0, none⟩) d.R.length c, .int .i64 d.room, .bool d.off] :: aRow 147 3 (.slice (some ⟨g, 0, none⟩) d.R.length c) d.R.length (cellsF vs d.R) :: aEls vs d.R :: X)) =>
            show w'.cell? ⟨w.heap.size, 1, none⟩ = some (.slice Ab f.b.length cb) ∧ w'.cell? ⟨w.heap.size, 2, none⟩ = some (.int .i64 (f.sure : Int)) ∧ w'.cell? ⟨p, 0, none⟩ = some (.slice (some ⟨g, 0, none⟩) d.R.length c) ∧ w'.frozen? ⟨g, i * 3 + 1, none⟩ = false ∧ w'.frozen? ⟨g, i * 3 + 2, none⟩ = false ∧ w'.cell? ⟨g, i * 3 + 1, none⟩ = some (.slice Ab f.b.length cb) ∧ w'.cell? ⟨g, i * 3 + 2, none⟩ = some (.int .i64 (f.sure : Int)) from by
            obtain ⟨_, z1, z2⟩ := cellsF_at hvi hd
            have a1 := (aBlk.get hS.drop).cell 1
            have a2 := (aBlk.get hS.drop).cell 2
            have a3 := (aBlk.get hS.drop.drop).cell 0
            simp at a1 a2 a3
            exact ⟨a1, a2, a3, St.rowFree hS.drop.drop.drop _, St.rowFree hS.drop.drop.drop _, St.row3 hS.drop.drop.drop z1, St.row3 hS.drop.drop.drop z2⟩)
          have hqg : w.heap.size ≠ g := by omega
          have hqp : w.heap.size ≠ p := by omega
          obtain ⟨nb, hnb⟩ : ∃ nb, f.b.take j ++ b ++ f.b.drop (j + lb) = nb := ⟨_, rfl⟩
          rw [hnb] at hok ⊢
          obtain ⟨t, ht⟩ : ∃ t, j + lb = t := ⟨_, rfl⟩
          rw [ht] at hnb
          have HT := Lib.hid ht
          have hnl : nb.length ≤ big := by rw [← hnb]; simp; unfold big; omega
          have HK := Lib.hid (fun (w' : World) (v' : Value) (hS : St W w' (aBy v' nb :: aBlk w.heap.size 147 #[.string (bstr f.nm), .slice Ab f.b.length cb, .int .i64 (f.sure : Int)] :: aBlk p 89 #[.slice (some ⟨g, 0, none⟩) d.R.length c, .int .i64 d.room, .bool d.off] :: aRow 147 3 (.slice (some ⟨g, 0, none⟩) d.R.length c) d.R.length (cellsF vs d.R) :: aEls vs d.R :: X)) =>
            show St W ((w'.setCell ⟨g, i * 3 + 1, none⟩ v').setCell ⟨g, i * 3 + 2, none⟩ (.int .i64 ((min f.sure j : Nat) : Int))) (aRdk p { d with R := d.R.set i ⟨f.nm, nb, min f.sure j⟩ } :: X) from by
            have a1 := hS.swap.drop
            have a2 := a1.rot3.rot3
            have a3 : St W w' (aBy v' nb :: aEls vs d.R :: aBlk p 89 #[.slice (some ⟨g, 0, none⟩) d.R.length c, .int .i64 d.room, .bool d.off] :: aRow 147 3 (.slice (some ⟨g, 0, none⟩) d.R.length c) d.R.length (cellsF vs d.R) :: X) := a1.perm (by
              refine List.Perm.cons _ ?_
              exact (List.Perm.cons _ (List.Perm.swap _ _ _)).trans (List.Perm.swap _ _ _))
            have a4 := els_new (f' := ⟨f.nm, nb, min f.sure j⟩) (i := i) a3 h2 hnl
            exact rd_both (f' := ⟨f.nm, nb, min f.sure j⟩) (v' := v') h2 a4.rot3.rot3 hd rfl hok)
          by_cases hms : (f.sure : Int) ≤ j
          case' pos =>
            have hmi : min (f.sure : Int) (j : Int) = (f.sure : Int) := by omega
            rw [show min f.sure j = f.sure by omega] at HK ⊢
          case' neg =>
            have hmi : min (f.sure : Int) (j : Int) = (j : Int) := by omega
            rw [show min f.sure j = j by omega] at HK ⊢
          all_goals
            by_cases q4 : t < f.b.length
            case' pos =>
              obtain ⟨A2, c2', s3, s4, _, _⟩ := hbs.cut t (by omega)
              have HCU := Lib.hid (fun (w' : World) (Y : Asn) (hS : St W w' (Y :: aBlk w.heap.size 147 #[.string (bstr f.nm), .slice Ab f.b.length cb, .int .i64 (f.sure : Int)] :: aBlk p 89 #[.slice (some ⟨g, 0, none⟩) d.R.length c, .int .i64 d.room, .bool d.off] :: aRow 147 3 (.slice (some ⟨g, 0, none⟩) d.R.length c) d.R.length (cellsF vs d.R) :: aEls vs d.R :: X)) =>
                show Rd w' (.slice A2 (f.b.length - t) c2') (f.b.length - t) 1 (cellsB (f.b.drop t)) from by
                obtain ⟨A3, c3, t3, t4, t5, _⟩ := (els_bs hS.drop.drop.drop.drop hd hvi).cut t (by omega)
                have e1 := (t3 w').symm.trans (s3 w')
                injection e1 with e1
                injection e1 with e2 e3 e4
                subst e2 e4
                have := t5.rd
                rw [List.length_drop] at this
                exact this)
              have o3 := cellsB_one (f.b.drop t)
              have g5 : t + (f.b.length - t) ≤ maxLen := by unfold maxLen; omega
              have g6 : (t + (f.b.length - t)) * 1 ≤ 140737488355328 := by omega
              have HN3 := Lib.hid (show (cellsB (f.b.take j) ++ cellsB b) ++ cellsB (f.b.drop t) = cellsB nb by rw [← cellsB_app, ← cellsB_app, hnb])
              have HL3 := Lib.hid (show t + (f.b.length - t) = nb.length by rw [← hnb]; simp; omega)
              have q6 : (t : Int) < (f.b.length : Int) := by omega
            case' neg =>
              have HN3 := Lib.hid (show (cellsB (f.b.take j) ++ cellsB b) = cellsB nb by rw [← cellsB_app, ← hnb, List.drop_eq_nil_of_le (by omega), List.append_nil])
              have HL3 := Lib.hid (show t = nb.length by rw [← hnb, List.drop_eq_nil_of_le (by omega)]; simp; omega)
              have q6 : ¬ (t : Int) < (f.b.length : Int) := by omega
          all_goals
            generalize d.R.length = N at *
            obtain ⟨lj, hlj⟩ : ∃ z : Int, (f.b.length : Int) - (j : Int) = z := ⟨_, rfl⟩
            rw [hlj] at hw1 hw2 q3
            obtain ⟨gr, hgr⟩ : ∃ z : Int, (lb : Int) - lj = z := ⟨_, rfl⟩
            rw [hgr] at hw2 q3
            obtain ⟨rs, hrs⟩ : ∃ z : Int, d.room - (us : Int) = z := ⟨_, rfl⟩
            rw [hrs] at hw0 q3
            have hw1 : IntKind.i64.wrap ((f.b.length : Int) - (j : Int)) = lj := by rw [hlj]; exact hw1
            have hw2 : IntKind.i64.wrap ((lb : Int) - lj) = gr := by rw [hgr]; exact hw2
            have hw0 : IntKind.i64.wrap (d.room - (us : Int)) = rs := by rw [hrs]; exact hw0
            clear hlj hgr hrs
            have q3b : (decide (rs < gr)) = false := decide_eq_false q3
            have q3c : gr ≤ rs := by omega
            clear h h1 h2 h3 hm hf hd hbs hok hu hlb hb1 hnb hnl hvi hjt ht
            go_enter Tryz.func116, Tryz.ntmps116
            go_wp2_with (first | (go_at_call 104; (with_reducible refine HF.out.mono ?_); rintro e w1 ⟨rfl, rfl⟩))
            go_quiet ((go_at_call 130; exact Calls.quiet_of_same ((HU.out _).mono fun _ _ ⟨a, b⟩ => ⟨a, b.symm⟩)))
          all_goals
            go_wp2_with (first
              | (at_builtin; refine wpList_append_St rfl (.tmp 60) (.tmp 64) 22 rfl Tryz.underlying22 info5 rfl Nat.zero_lt_one rfl rfl (aBy.nil (HNN.out _)) (KC.out _) o1 g1 g2 ?_; intro A3 c3 w3 hS; simp only [List.length_nil, Nat.zero_add, cellsB_nil, List.nil_append] at hS; simp only [List.length_nil, Nat.zero_add]; have H3 := Lib.hid hS; clear hS)
              | (at_builtin; refine wpList_append_St rfl (.tmp 65) (.tmp 66) 22 rfl Tryz.underlying22 info5 rfl Nat.zero_lt_one rfl rfl H3.out (HUB.out _ [_, _, _, _, _] H3.out) o2 g3 g4 ?_; intro A4 c4 w4 hS; obtain ⟨kc1, kc2, kp0, kf1, kf2, kg1, kg2⟩ := HCC.out _ _ hS; simp only [HT.out] at hS; simp only [HT.out]; have H4 := Lib.hid hS; clear hS)
              | (at_builtin; refine wpList_append_St rfl (.tmp 74) (.tmp 79) 22 rfl Tryz.underlying22 info5 rfl Nat.zero_lt_one rfl rfl H4.out (HCU.out _ _ H4.out) o3 g5 g6 ?_; intro A5 c5 w5 hS; clear kc1 kc2 kp0 kf1 kf2 kg1 kg2; obtain ⟨kc1, kc2, kp0, kf1, kf2, kg1, kg2⟩ := HCC.out _ _ hS; simp only [HL3.out] at hS; simp only [HL3.out]; have H5 := Lib.hid hS; clear hS))
            go_region
          all_goals
            go_wp2_with fail
            go_ret
            first
              | (have h9 := H5.out
                 rw [HN3.out] at h9
                 exact ⟨rfl, (HK.out _ _ h9).later (Below.refl _ _).drew⟩)
              | (have h9 := H4.out
                 rw [HN3.out] at h9
                 refine ⟨rfl, (HK.out w4 (.slice A4 t c4) ?_).later (Below.refl _ _).drew⟩
                 unfold aBy
                 rw [← HL3.out]
                 exact h9)
set_option maxRecDepth 20000 in
set_option maxHeartbeats 2000000 in
theorem rappendX_c {u : Value} {b : List UInt8} (h : St W w (aRdk p d :: X)) (hu : ∀ (w' : World) (Y : List Asn), St W w' (Y ++ X) → Bs w' u b) (hbl : b.length ≤ 4194304000) : Calls Tryz.prog 94 #[.pointer (some ⟨p, 0, none⟩), .string (bstr n), u] w fun e w' => e = .returned (.int .i64 (appendF d n b).1) ∧ St W w' (aRdk p (appendF d n b).2 :: X) := by
  have H0 := Lib.hid h
  obtain ⟨A, c, vs, h1, h2, h3⟩ := aRdk.open_ h
  cases hm : mayF d n with
  | mk o er =>
  cases o with
  | none =>
    have hf : appendF d n b = (er, d) := turn_none hm
    have HF := Lib.hid (rmay_no h hm)
    have q1 : (er != 0) = true := by simpa using may_none hm
    obtain ⟨Au, cu, rfl⟩ := (hu w [aRdk p d] H0.out).rd.slice
    rw [hf]
    clear h h1 h2 h3 hm hf hu
    go_enter Tryz.func94, Tryz.ntmps94
    go_wp2_with (first | (go_at_call 104; (with_reducible refine HF.out.mono ?_); rintro e w1 ⟨rfl, rfl⟩))
    go_ret
    exact ⟨rfl, H0.out⟩
  | some i =>
    obtain ⟨_, _, f, hd, hnm⟩ := may_some hm
    clear hnm
    obtain ⟨e1, f', hd', hs'⟩ := append_write (b := b) h1 hm hd
    have HF := Lib.hid (rmay_yes h hm)
    have c0 := (aBlk.get h3).cell 0
    simp at c0
    obtain ⟨g, Ab, cb, hA, _, hbs, _, k1, k2⟩ := rd_facts h2 h3 hd
    subst hA
    have hil : (i : Int) < (d.R.length : Int) := by have := at_lt hd; omega
    have HW := Lib.hid (rwriteX_c (n := n) (k := (f.b.length : Int)) h hu hbl)
    rw [e1] at HW
    generalize (appendF d n b).1 = er' at *
    generalize (appendF d n b).2 = d' at *
    have HG := Lib.hid (fun (w' : World) (hS : St W w' (aRdk p d' :: X)) => rd_again hS hd')
    rw [hs'] at HG
    obtain ⟨Au, cu, rfl⟩ := (hu w [aRdk p d] H0.out).rd.slice
    generalize d.R.length = N at *
    clear h h1 h2 h3 hm hd hbs hu e1 hd' hs'
    go_enter Tryz.func94, Tryz.ntmps94
    go_wp2_with (first
      | (go_at_call 104; (with_reducible refine HF.out.mono ?_); rintro e w1 ⟨rfl, rfl⟩)
      | (go_at_call 116; (with_reducible refine HW.out.mono ?_); rintro e w2 ⟨rfl, hS⟩; obtain ⟨g2, c2, N2, z0, z1, z2, z3, z4, z5⟩ := HG.out _ hS; have H5 := Lib.hid z5; clear hS z5))
    go_ret
    exact ⟨rfl, H5.out⟩
end
end Go.Proofs.YtnpjfjgnhadmjaaGreatDoor

/- The reference's Open on an empty disk. -/
namespace Go.Proofs.YtnpjfjgnhadmjaaGreatDoor
open Go.RowKit Go.Maps Go.Deep
set_option linter.unusedVariables false

theorem lit49 (w : World) : Bs (w.alloc (.cells #[.int .u8 49] 5)) (.slice (some ⟨w.heap.size, 0, none⟩) 1 1) [49] :=
  Bs.lit w _ [49] 1 rfl rfl (by simp [big])
set_option maxRecDepth 20000 in
theorem rnum1 (w : World) : Calls Tryz.prog 114 #[.int .i64 1] w fun e w' => e = .returned (.string ⟨#[49]⟩) ∧ B w w' := by
  have hc := fun w' : World => (lit49 w').conv (P := Tryz.prog) (src := 22) (dst := 9) Tryz.underlying22 Tryz.underlying5 Tryz.underlying9
  have HC := Lib.hid hc
  go_enter Tryz.func114, Tryz.ntmps114
  go_wp2_with fail
  go_loopw [0, 3] (fun n s wr => ∃ q : Nat, q ≤ 1 ∧ n = .int .i64 q ∧ Hid (q = 1 → s = .string ⟨#[]⟩) ∧ Hid (q = 0 → s = .string ⟨#[49]⟩) ∧ Hid (B w wr)) (fun n _ _ => (intOf n).toNat)
  case atStart => exact ⟨1, by omega, rfl, fun _ => rfl, fun h => (by cases h), Below.refl _ _⟩
  case round =>
    obtain ⟨q, hq, rfl, HA, HB, HW⟩ := hrel
    have hq2 : q = 0 ∨ q = 1 := by omega
    rcases hq2 with rfl | rfl
    · obtain rfl := HB.out rfl
      go_wp2_with fail
      go_ret
      exact ⟨rfl, HW.out⟩
    · obtain rfl := HA.out rfl
      have h9 := hc wr
      go_wp2_with fail
      go_roundw
      case rel => exact ⟨0, by omega, by go_num, fun h => (by cases h), fun _ => rfl, HW.out.trans (B.alloc' _ _)⟩
      case measure => simp [intOf]
def rlgC (dp : Nat) (n : List UInt8) (most : Int) (v : Value) (s : Int) : Array Value := #[.pointer (some ⟨dp, 0, none⟩), .string (bstr n), .int .i64 most, v, .int .i64 s]
section
variable {W w : World} {p dp : Nat} {X : List Asn} {n : List UInt8} {most : Int} {d : Dk}
theorem rfile_c (w : World) (c1 : w.cell? ⟨p, 1, none⟩ = some (.string (bstr n))) (hn : n.length ≤ 4194304000) : Calls Tryz.prog 93 #[.pointer (some ⟨p, 0, none⟩), .int .i64 1] w fun e w' => e = .returned (.string (bstr (file1 n))) ∧ B w w' := by
  have H := Lib.hid (fun w' => rnum1 w')
  have q1 : ¬ 9223372036854775807 < (bstr n).size + 1 := by rw [bstr_size]; omega
  have q2 : ¬ 9223372036854775807 < (bstr n).size + 1 + 1 := by rw [bstr_size]; omega
  have E := Lib.hid (file1_eq n)
  go_enter Tryz.func93, Tryz.ntmps93
  go_wp2_with fail
  go_region_held3 (fun w' => w'.cell? ⟨p, 1, none⟩ = some (.string (bstr n))) (first | assumption) (first
    | (go_at_call 114; (with_reducible refine (H.out _).mono ?_); rintro e w1 ⟨rfl, hb⟩; have HB := Lib.hid hb; have k1 := hb.cell (by assumption); clear hb))
  all_goals
    go_wp2_with fail
    go_ret
    exact ⟨by rw [← E.out]; rfl, (show B w w.drew from (Below.refl _ _).drew).trans HB.out⟩
theorem rlg2 {v : Value} {s : Int} (h : St W w (aBlk p 96 (rlgC dp n most v s) :: X)) : w.cell? ⟨p, 0, none⟩ = some (.pointer (some ⟨dp, 0, none⟩)) ∧ w.cell? ⟨p, 1, none⟩ = some (.string (bstr n)) ∧ w.cell? ⟨p, 3, none⟩ = some v ∧ w.cell? ⟨p, 4, none⟩ = some (.int .i64 s) := by
  have hb := aBlk.get h
  have c0 := hb.cell 0
  have c1 := hb.cell 1
  have c3 := hb.cell 3
  have c4 := hb.cell 4
  simp [rlgC] at c1 c3 c4
  simp only [rlgC, List.getElem?_toArray, List.getElem?_cons_zero] at c0
  exact ⟨c0, c1, c3, c4⟩
set_option maxRecDepth 20000 in
theorem rhead1 (h : St W w X) : Calls Tryz.prog 95 #[.int .i64 1] w fun e w' => ∃ v, e = .returned v ∧ St W w' (aBy v (headF 1) :: X) := by
  have HPN := Lib.hid (show Calls Tryz.prog 79 #[.slice none 0 0, .int .u64 1] w fun e w'' => ∃ v, e = .returned v ∧ St W w'' (aBy v (enc 1) :: X) from h.fresh (putNum71 (Bs.nil w) 1 (by omega) (by unfold big; simp)))
  have HFR := Lib.hid (fun w' v Y (hS : St W w' (aBy v (enc 1) :: Y)) => rframe_yes hS (hS.byBs (by rw [enc_lt (by omega)]; simp [big])) (by rw [enc_lt (by omega)]; simp))
  clear h
  go_enter Tryz.func95, Tryz.ntmps95
  go_wp2_with (first
    | (go_at_call 79; (with_reducible refine HPN.out.mono ?_); rintro e w1 ⟨v, rfl, hS⟩; have H1 := Lib.hid hS; clear hS)
    | (go_at_call 9; (with_reducible refine (HFR.out _ _ _ H1.out).mono ?_); rintro e w2 ⟨v2, rfl, hS⟩; have H2 := Lib.hid hS; clear hS))
  go_ret
  exact ⟨_, rfl, H2.out.drop2⟩
set_option maxRecDepth 20000 in
theorem rnumbers0 (h : St W w (aBlk p 96 (rlgC dp n most (.slice none 0 0) 0) :: aRdk dp d :: X)) (hR : d.R = []) : Calls Tryz.prog 56 #[.pointer (some ⟨p, 0, none⟩)] w fun e w' => e = .returned (.slice none 0 0) ∧ St W w' (aBlk p 96 (rlgC dp n most (.slice none 0 0) 0) :: aRdk dp d :: X) := by
  obtain ⟨c0, _⟩ := rlg2 h
  have HL := Lib.hid (rlist_c h.swap)
  rw [hR] at HL
  clear h
  go_enter Tryz.func56, Tryz.ntmps56
  go_wp2_with (first | (go_at_call 62; (with_reducible refine HL.out.mono ?_); rintro e w1 ⟨v1, rfl, hS⟩; obtain ⟨A1, c1, hv⟩ := (show St W w1 (aRow _ _ _ _ _ :: _) from hS).rowSlice; simp only [List.map_nil, List.length_nil] at hv; subst hv; have H1 := Lib.hid hS.drop; clear hS))
  go_loopw [3, 5] (fun o i wr => i = .int .i64 0 ∧ o = .slice none 0 0 ∧ wr = w1) (fun _ i _ => 0)
  case atStart => exact ⟨rfl, rfl, rfl⟩
  case round =>
    obtain ⟨rfl, rfl, rfl⟩ := hrel
    go_wp2_with fail
    go_ret
    exact ⟨rfl, H1.out.swap⟩
end
end Go.Proofs.YtnpjfjgnhadmjaaGreatDoor

/- The reference's first segment begun; its Open on an empty disk. -/
namespace Go.Proofs.YtnpjfjgnhadmjaaGreatDoor
open Go.RowKit Go.Maps Go.Deep
set_option linter.unusedVariables false

theorem infoRSeg : (Tryz.prog.info? 138).map (fun i => (i.zero, i.size, i.bytes)) = some (some (.agg #[.int .i64 0, .int .i64 0, .slice none 0 0]), 3, 40) := by kernel_rfl
section
variable {W w : World} {p dp : Nat} {X : List Asn} {n : List UInt8} {most : Int} {d : Dk}
set_option maxRecDepth 20000 in
set_option maxHeartbeats 4000000 in
theorem rbegins_c (h : St W w (aBlk p 96 (rlgC dp n most (.slice none 0 0) 0) :: aRdk dp dZero :: X)) (hn : n.length ≤ 4194304) : Calls Tryz.prog 57 #[.pointer (some ⟨p, 0, none⟩), .int .i64 1, .int .i64 1] w fun e w' => e = .returned (.int .i64 0) ∧ St W w' (aRdk dp (dOne n (headF 1) 6) :: X) := by
  have H0 := Lib.hid (h.later (Below.refl _ _).drew)
  obtain ⟨c0, c1, c3, c4⟩ := rlg2 h
  obtain ⟨d0, d1, _, _⟩ := rlg2 H0.out
  have HN := Lib.hid (show n.length ≤ 4194304000 by omega)
  have HBG1 := Lib.hid (by have := bg1 n [] (headF 1) 0 (by rw [head1_len]; simp); simpa using this)
  have HBG2 := Lib.hid (by have := bg2 n (headF 1) 0; rw [head1_len] at this; exact this)
  have HCR := Lib.hid (fun w' Y (hS : St W w' (aBlk p 96 (rlgC dp n most (.slice none 0 0) 0) :: aRdk dp dZero :: Y)) => show Calls Tryz.prog 92 #[.pointer (some ⟨dp, 0, none⟩), .string (bstr (file1 n))] w' fun e w'' => e = .returned (.int .i64 0) ∧ St W w'' (aBlk p 96 (rlgC dp n most (.slice none 0 0) 0) :: aRdk dp (dOne n [] 0) :: Y) from by
    have := rcreate_c (n := file1 n) hS.swap
    rw [bg0] at this
    exact this.mono fun e w'' ⟨h1, h2⟩ => ⟨h1, h2.swap⟩)
  have HAP := Lib.hid (fun w' v Y (hS : St W w' (aBy v (headF 1) :: aBlk p 96 (rlgC dp n most (.slice none 0 0) 0) :: aRdk dp (dOne n [] 0) :: Y)) => show Calls Tryz.prog 94 #[.pointer (some ⟨dp, 0, none⟩), .string (bstr (file1 n)), v] w' fun e w'' => e = .returned (.int .i64 0) ∧ St W w'' (aBlk p 96 (rlgC dp n most (.slice none 0 0) 0) :: aRdk dp (dOne n (headF 1) 0) :: Y) from by
    have := rappendX_c (n := file1 n) (b := headF 1) (u := v) hS.rot3 (fun w2 Z h2 => h2.deep.byBs (by rw [head1_len]; unfold big; omega)) (by rw [head1_len]; omega)
    rw [HBG1.out] at this
    exact this.mono fun e w'' ⟨h1, h2⟩ => ⟨h1, h2.drop2.swap⟩)
  have HSY := Lib.hid (fun w' Y (hS : St W w' (aBlk p 96 (rlgC dp n most (.slice none 0 0) 0) :: aRdk dp (dOne n (headF 1) 0) :: Y)) => show Calls Tryz.prog 97 #[.pointer (some ⟨dp, 0, none⟩), .string (bstr (file1 n))] w' fun e w'' => e = .returned (.int .i64 0) ∧ St W w'' (aBlk p 96 (rlgC dp n most (.slice none 0 0) 0) :: aRdk dp (dOne n (headF 1) 6) :: Y) from by
    have := rsync_c (n := file1 n) hS.swap
    rw [HBG2.out] at this
    exact this.mono fun e w'' ⟨h1, h2⟩ => ⟨h1, h2.swap⟩)
  clear h
  go_enter Tryz.func57, Tryz.ntmps57
  go_wp2_with fail
  go_region_held3 (fun w' => w'.cell? ⟨p, 0, none⟩ = some (.pointer (some ⟨dp, 0, none⟩)) ∧ w'.cell? ⟨p, 1, none⟩ = some (.string (bstr n))) (first | assumption | (refine ⟨?_, ?_⟩ <;> assumption)) (first
    | (go_at_call 93; (with_reducible refine (rfile_c _ (by assumption) HN.out).mono ?_); rintro e w1 ⟨rfl, hb⟩; have H1 := Lib.hid (H0.out.later hb); clear hb; obtain ⟨k0, k1, k3, k4⟩ := rlg2 H1.out)
    | (go_at_call 92; (with_reducible refine (HCR.out _ _ H1.out).mono ?_); rintro e w2 ⟨rfl, hS⟩; have H2 := Lib.hid (hS.later (Below.refl _ _).drew); clear k0 k1 k3 k4; obtain ⟨k0, k1, k3, k4⟩ := rlg2 hS; obtain ⟨d0, d1, _, _⟩ := rlg2 H2.out; clear hS))
  all_goals
    go_wp2_with fail
    go_region_held3 (fun w' => w'.cell? ⟨p, 0, none⟩ = some (.pointer (some ⟨dp, 0, none⟩)) ∧ w'.cell? ⟨p, 1, none⟩ = some (.string (bstr n))) (first | assumption | (refine ⟨?_, ?_⟩ <;> assumption)) (first
      | (go_at_call 93; (with_reducible refine (rfile_c _ (by assumption) HN.out).mono ?_); rintro e w3 ⟨rfl, hb⟩; have H2 := Lib.hid (H2.out.later hb); have k0 := hb.cell (by assumption : _ = some (.pointer (some ⟨dp, 0, none⟩))); have k1 := hb.cell (by assumption : _ = some (.string (bstr n))); clear hb)
      | (go_at_call 95; (with_reducible refine (rhead1 H2.out).mono ?_); rintro e w4 ⟨v4, rfl, hS⟩; have H2 := Lib.hid hS; obtain ⟨k0, k1, k3, k4⟩ := rlg2 hS.swap; clear hS)
      | (go_at_call 94; (with_reducible refine (HAP.out _ _ _ H2.out).mono ?_); rintro e w5 ⟨rfl, hS⟩; have H5 := Lib.hid (hS.later (Below.refl _ _).drew); obtain ⟨k0, k1, k3, k4⟩ := rlg2 hS; obtain ⟨d0, d1, _, _⟩ := rlg2 H5.out; clear hS))
  all_goals
    go_wp2_with fail
    go_region_held3 (fun w' => w'.cell? ⟨p, 0, none⟩ = some (.pointer (some ⟨dp, 0, none⟩)) ∧ w'.cell? ⟨p, 1, none⟩ = some (.string (bstr n))) (first | assumption | (refine ⟨?_, ?_⟩ <;> assumption)) (first
      | (go_at_call 93; (with_reducible refine (rfile_c _ (by assumption) HN.out).mono ?_); rintro e w6 ⟨rfl, hb⟩; have H6 := Lib.hid (H5.out.later hb); have k0 := hb.cell (by assumption : _ = some (.pointer (some ⟨dp, 0, none⟩))); have k1 := hb.cell (by assumption : _ = some (.string (bstr n))); clear hb)
      | (go_at_call 97; (with_reducible refine (HSY.out _ _ H6.out).mono ?_); rintro e w7 ⟨rfl, hS⟩; have H7 := Lib.hid hS; obtain ⟨k0, k1, k3, k4⟩ := rlg2 hS; clear hS))
  have o3 : ∀ x ∈ [Value.int .i64 1, .int .i64 1, .slice none 0 0], x.oneCell' = true := by simp [Value.oneCell']
  all_goals
    go_wp2_with (first
      | (at_builtin; refine wpList_append_St rfl (.tmp 58) (.tmp 62) 94 rfl Tryz.underlying94 infoRSeg rfl (by decide) rfl rfl ((H7.out.later (B.alloc' _ _)).rowNil 138 3) (Rd.three _ _ _ _ _) o3 (by unfold maxLen; omega) (by omega) ?_; intro A8 c8 w8 hS; simp only [Nat.zero_add, List.nil_append] at hS; simp only [Nat.zero_add]; have H8 := Lib.hid hS.drop; have l3 := (rlg2 hS.swap).2.2.1; have l4 := (rlg2 hS.swap).2.2.2; have f3 := (aBlk.get hS.swap).frozen 3; have f4 := (aBlk.get hS.swap).frozen 4; clear hS))
  all_goals
    go_ret
    exact ⟨rfl, (aBlk.set (aBlk.set H8.out 3 (.slice A8 1 c8)) 4 (.int .i64 0)).drop⟩
end
end Go.Proofs.YtnpjfjgnhadmjaaGreatDoor

/- The reference's Open on an empty disk. -/
namespace Go.Proofs.YtnpjfjgnhadmjaaGreatDoor
open Go.RowKit Go.Maps Go.Deep
set_option linter.unusedVariables false

theorem bstr_at {n : List UInt8} {q : Nat} (h : q < n.length) (h' : q < (bstr n).size) : (bstr n)[q] = n[q] := by
  rfl
section
variable {W w : World} {p dp : Nat} {X : List Asn} {n : List UInt8} {most : Int} {d : Dk}
theorem aRdk.down (h : St W w (aRdk p d :: X)) : w.cell? ⟨p, 2, none⟩ = some (.bool d.off) := by
  obtain ⟨A, c, vs, h1, h2, h3⟩ := aRdk.open_ h
  have c2 := (aBlk.get h3).cell 2
  simp at c2
  exact c2
set_option maxRecDepth 20000 in
set_option maxHeartbeats 4000000 in
theorem ropen0_c (h : St W w (aRdk dp dZero :: X)) (hm : mayN n most = true) : Calls Tryz.prog 19 #[.pointer (some ⟨dp, 0, none⟩), .string (bstr n), .int .i64 most] w fun e w' => ∃ p, e = .returned (.tuple #[.pointer (some ⟨p, 0, none⟩), .int .i64 0]) ∧ St W w' (aRdk dp (dOne n (headF 1) 6) :: X) := by
  unfold mayN at hm
  simp only [Bool.and_eq_true, decide_eq_true_eq] at hm
  obtain ⟨⟨a1, a2, a3, a4⟩, hall⟩ := hm
  have c2 := aRdk.down h
  rw [show dZero.off = false from rfl] at c2
  have hsz := bstr_size n
  have H0 := Lib.hid h
  have HN := Lib.hid (show n.length ≤ 4194304 by omega)
  obtain ⟨S, hS⟩ : ∃ S, n.length = S := ⟨_, rfl⟩
  have HS := Lib.hid hS
  rw [hS] at a1 a2 hsz
  have b1 : ¬ (S : Int) < 1 := by omega
  have b2 : ¬ (16 : Int) < (S : Int) := by omega
  have b3 : ¬ most < 64 := by omega
  have b4 : ¬ (4194304 : Int) < most := by omega
  have HA := Lib.hid hall
  have HR0 := Lib.hid (show dZero.R = [] from rfl)
  clear a1 a3 a4 h hS hall
  go_enter Tryz.func19, Tryz.ntmps19
  go_wp2_with fail
  go_loopw [8] (fun i wr => ∃ q : Nat, q ≤ S ∧ i = .int .i64 q ∧ wr = w) (fun i _ => S - (intOf i).toNat)
  case atStart => exact ⟨0, Nat.zero_le _, rfl, rfl⟩
  case round =>
    obtain ⟨q, hq, rfl, rfl⟩ := hrel
    by_cases hlt : q < S
    · have hqi : (q : Int) < S := by omega
      have hql : q < n.length := by have := HS.out; omega
      have hgood : goodC n[q] = true := List.all_eq_true.1 HA.out _ (List.getElem_mem hql)
      have hqs : q < (bstr n).size := by rw [hsz]; exact hlt
      have e1 := bstr_at hql hqs
      unfold goodC at hgood
      simp only [Bool.and_eq_true, decide_eq_true_eq] at hgood
      obtain ⟨g1, g2⟩ := hgood
      have d1 : ¬ (((bstr n)[q].toNat : Nat) : Int) < 97 := by rw [e1]; omega
      have d2 : ¬ (122 : Int) < (((bstr n)[q].toNat : Nat) : Int) := by rw [e1]; omega
      clear hql g1 g2 e1
      go_wp2_with fail
      go_roundw
      case rel => exact ⟨q + 1, by omega, by go_num, trivial⟩
      case measure => simp [intOf]; omega
    · have hqe : q = S := by omega
      have hqi : ¬ (q : Int) < S := by omega
      subst hqe
      have H1 := Lib.hid (show St W (wr.alloc (.cells #[.pointer (some ⟨dp, 0, none⟩), .string (bstr n), .int .i64 most, .slice none 0 0, .int .i64 0] 96)) (aBlk wr.heap.size 96 (rlgC dp n most (.slice none 0 0) 0) :: aRdk dp dZero :: X) from aBlk.new H0.out 96 (rlgC dp n most (.slice none 0 0) 0))
      go_wp2_with (first
        | (go_at_call 56; (with_reducible refine (rnumbers0 H1.out HR0.out).mono ?_); rintro e w2 ⟨rfl, hS⟩; have H2 := Lib.hid hS; clear hS)
        | (go_at_call 57; (with_reducible refine (rbegins_c H2.out HN.out).mono ?_); rintro e w3 ⟨rfl, hS⟩; have H3 := Lib.hid hS; clear hS))
      go_ret2
      exact ⟨_, rfl, H3.out⟩
set_option maxRecDepth 20000 in
set_option maxHeartbeats 4000000 in
theorem ropen0_bad (h : St W w (aRdk dp dZero :: X)) (hm : mayN n most = false) (hn : n.length ≤ maxLen) (hmo : -9223372036854775808 ≤ most ∧ most ≤ 9223372036854775807) : Calls Tryz.prog 19 #[.pointer (some ⟨dp, 0, none⟩), .string (bstr n), .int .i64 most] w fun e w' => e = .returned (.tuple #[.pointer none, .int .i64 1]) ∧ St W w' (aRdk dp dZero :: X) := by
  have c2 := aRdk.down h
  rw [show dZero.off = false from rfl] at c2
  have hsz := bstr_size n
  have H0 := Lib.hid h
  obtain ⟨S, hS⟩ : ∃ S, n.length = S := ⟨_, rfl⟩
  have HS := Lib.hid hS
  rw [hS] at hsz hn
  obtain ⟨m1, m2⟩ := hmo
  unfold maxLen at hn
  by_cases h1 : 1 ≤ n.length ∧ n.length ≤ 16 ∧ 64 ≤ most ∧ most ≤ 4194304
  · have hall : n.all goodC = false := by
      unfold mayN at hm
      rw [decide_eq_true h1] at hm
      simpa using hm
    rw [hS] at h1
    obtain ⟨a1, a2, a3, a4⟩ := h1
    have b1 : ¬ (S : Int) < 1 := by omega
    have b2 : ¬ (16 : Int) < (S : Int) := by omega
    have b3 : ¬ most < 64 := by omega
    have b4 : ¬ (4194304 : Int) < most := by omega
    have HA := Lib.hid hall
    clear a1 a3 a4 h hS hall hm m1 m2 hn
    go_enter Tryz.func19, Tryz.ntmps19
    go_wp2_with fail
    go_loopw [8] (fun i wr => ∃ q : Nat, q ≤ S ∧ i = .int .i64 q ∧ wr = w ∧ Hid ((n.take q).all goodC = true)) (fun i _ => S - (intOf i).toNat)
    case atStart => exact ⟨0, Nat.zero_le _, rfl, rfl, rfl⟩
    case round =>
      obtain ⟨q, hq, rfl, rfl, HG⟩ := hrel
      by_cases hlt : q < S
      · have hqi : (q : Int) < S := by omega
        have hql : q < n.length := by have := HS.out; omega
        have hqs : q < (bstr n).size := by rw [hsz]; exact hlt
        have e1 := bstr_at hql hqs
        by_cases c1 : n[q].toNat < 97
        · have d1 : (((bstr n)[q].toNat : Nat) : Int) < 97 := by rw [e1]; omega
          clear hql c1 e1
          go_wp2_with fail
          go_ret2
          exact ⟨rfl, H0.out⟩
        · by_cases c2 : 122 < n[q].toNat
          · have d1 : ¬ (((bstr n)[q].toNat : Nat) : Int) < 97 := by rw [e1]; omega
            have d2 : (122 : Int) < (((bstr n)[q].toNat : Nat) : Int) := by rw [e1]; omega
            clear hql c1 c2 e1
            go_wp2_with fail
            go_ret2
            exact ⟨rfl, H0.out⟩
          · have d1 : ¬ (((bstr n)[q].toNat : Nat) : Int) < 97 := by rw [e1]; omega
            have d2 : ¬ (122 : Int) < (((bstr n)[q].toNat : Nat) : Int) := by rw [e1]; omega
            have HZ := Lib.hid (all_take hql HG.out (by unfold goodC; simp; omega))
            clear hql c1 c2 e1
            go_wp2_with fail
            go_roundw
            case rel => exact ⟨q + 1, by omega, by go_num, trivial, HZ.out⟩
            case measure => simp [intOf]; omega
      · exfalso
        have := HG.out
        rw [List.take_of_length_le (by have := HS.out; omega), HA.out] at this
        cases this
  · rw [hS] at h1
    by_cases b1 : S < 1
    · have d1 : (S : Int) < 1 := by omega
      clear h1 hS b1 h hm
      go_enter Tryz.func19, Tryz.ntmps19
      go_wp2_with fail
      go_ret2
      exact ⟨rfl, H0.out⟩
    have d1 : ¬ (S : Int) < 1 := by omega
    by_cases b2 : 16 < S
    · have d2 : (16 : Int) < (S : Int) := by omega
      clear h1 hS b2 h hm
      go_enter Tryz.func19, Tryz.ntmps19
      go_wp2_with fail
      go_ret2
      exact ⟨rfl, H0.out⟩
    have d2 : ¬ (16 : Int) < (S : Int) := by omega
    by_cases b3 : most < 64
    · have d3 : most < 64 := by omega
      clear h1 hS b3 h hm
      go_enter Tryz.func19, Tryz.ntmps19
      go_wp2_with fail
      go_ret2
      exact ⟨rfl, H0.out⟩
    have d3 : ¬ most < 64 := by omega
    have d4 : (4194304 : Int) < most := by omega
    clear h1 hS h hm b1 b2 b3
    go_enter Tryz.func19, Tryz.ntmps19
    go_wp2_with fail
    go_ret2
    exact ⟨rfl, H0.out⟩
end
end Go.Proofs.YtnpjfjgnhadmjaaGreatDoor

/- The law's 'same': a disk and the document's that are the same plain disk are found the same. -/
namespace Go.Proofs.YtnpjfjgnhadmjaaGreatDoor
open Go.RowKit Go.Maps Go.Deep
set_option linter.unusedVariables false

section
variable {W w : World} {p r : Nat} {d : Dk} {X : List Asn} {n : List UInt8}
theorem aRdk.ok (h : St W w (aRdk p d :: X)) : d.ok := by
  obtain ⟨A, c, vs, h1, h2, h3⟩ := aRdk.open_ h
  exact h1
theorem get_len (hd : d.ok) (n : List UInt8) : (getF d n).1.length ≤ big := by
  unfold getF
  cases hm : mayF d n with
  | mk o e =>
    cases o with
    | none => simp
    | some i =>
      obtain ⟨_, _, f, hf, _⟩ := may_some hm
      simp only
      rw [hf]
      have := used_drop hf
      have := hd.used
      have := hd.room
      show f.b.length ≤ big
      unfold big
      omega
set_option maxRecDepth 20000 in
set_option maxHeartbeats 4000000 in
theorem wsame_c (h : St W w (aDisk p d :: aRdk r d :: X)) (hd : ∀ f ∈ d.R, f.nm.length ≤ maxLen) :
    Calls Tryz.prog 20 #[.pointer (some ⟨p, 0, none⟩), .pointer (some ⟨r, 0, none⟩)] w fun e w' => e = .returned (.bool true) ∧ St W w' (aDisk p d :: aRdk r d :: X) := by
  have H0 := Lib.hid h
  have hok := aRdk.ok h.swap
  have HM := Lib.hid (show (d.R.map Fl.nm).length ≤ 1000 by have := hok.many; simp; omega)
  have HGL := Lib.hid (get_len hok)
  obtain ⟨N, hN⟩ : ∃ N : List (List UInt8), d.R.map Fl.nm = N := ⟨_, rfl⟩
  have HNN := Lib.hid hN
  have HNL := Lib.hid (show ∀ x ∈ N, x.length ≤ maxLen from fun x hx => by
    rw [← hN] at hx
    obtain ⟨f, hf, rfl⟩ := List.mem_map.1 hx
    exact hd f hf)
  have HL := Lib.hid (fun w' Y (hS : St W w' (aDisk p d :: Y)) => (show Calls Tryz.prog 61 #[.pointer (some ⟨p, 0, none⟩)] w' fun e w'' => ∃ v, e = .returned v ∧ St W w'' (aStr v N :: aDisk p d :: Y) from by rw [← hN]; exact list_c hS))
  have HRL := Lib.hid (fun w' Y (hS : St W w' (aRdk r d :: Y)) => (show Calls Tryz.prog 62 #[.pointer (some ⟨r, 0, none⟩)] w' fun e w'' => ∃ v, e = .returned v ∧ St W w'' (aStr v N :: aRdk r d :: Y) from by rw [← hN]; exact rlist_c hS))
  rw [hN] at HM
  obtain ⟨of, hof⟩ : ∃ of : Bool, d.off = of := ⟨_, rfl⟩
  have HOF := Lib.hid hof
  have hM2 : N.length ≤ 1000 := HM.out
  clear h hok hd hN
  cases of with
  | true =>
    clear hof
    go_enter Tryz.func20, Tryz.ntmps20
    go_wp2_with (first
      | (go_at_call 61; (with_reducible refine (HL.out _ _ H0.out).mono ?_); rintro e w1 ⟨v1, rfl, hS⟩; have H1 := Lib.hid hS; clear hS H0)
      | (go_at_call 62; (with_reducible refine (HRL.out _ _ H1.out.rot3).mono ?_); rintro e w2 ⟨v2, rfl, hS⟩; have H2 := Lib.hid hS; clear hS H1)
      | (go_at_call 60; (with_reducible refine (sequal_c H2.out.rot3 HM.out HM.out).mono ?_); rintro e w3 ⟨rfl, hb3⟩; rw [decide_eq_true rfl]; have H0 := Lib.hid (H2.out.later hb3).rot3.drop.drop.swap; have k0 := aRdk.down H0.out.swap; rw [HOF.out] at k0; clear hb3 H2))
    go_ret
    exact ⟨rfl, H0.out⟩
  | false =>
    clear hof
    go_enter Tryz.func20, Tryz.ntmps20
    go_wp2_with (first
      | (go_at_call 61; (with_reducible refine (HL.out _ _ H0.out).mono ?_); rintro e w1 ⟨v1, rfl, hS⟩; obtain ⟨A1, c1, rfl⟩ := (show St W w1 (aRow _ _ _ _ _ :: _) from hS).rowSlice; have H1 := Lib.hid hS; clear hS H0)
      | (go_at_call 62; (with_reducible refine (HRL.out _ _ H1.out.rot3).mono ?_); rintro e w2 ⟨v2, rfl, hS⟩; have H2 := Lib.hid hS; clear hS H1)
      | (go_at_call 60; (with_reducible refine (sequal_c H2.out.rot3 HM.out HM.out).mono ?_); rintro e w3 ⟨rfl, hb3⟩; rw [decide_eq_true rfl]; have H0 := Lib.hid (H2.out.later hb3).rot3.drop.drop.swap; have k0 := aRdk.down H0.out.swap; rw [HOF.out] at k0; clear hb3 H2))
    obtain ⟨M, hM⟩ : ∃ M, N.length = M := ⟨_, rfl⟩
    have HMM := Lib.hid hM
    have hrow : St W w1 (aRow 9 1 (.slice A1 N.length c1) N.length (N.map fun n => .string (bstr n)) :: aDisk p d :: aRdk r d :: X) := H1.out
    rw [hM] at hrow hM2 ⊢
    have HR := Lib.hid hrow
    clear hM hrow H1 k0
    go_loopw [31] (fun i wr => ∃ q : Nat, q ≤ M ∧ i = .int .i64 q ∧ Hid (St W wr (aRow 9 1 (.slice A1 M c1) M (N.map fun n => .string (bstr n)) :: aDisk p d :: aRdk r d :: X))) (fun i _ => M - (intOf i).toNat)
    case atStart => exact ⟨0, Nat.zero_le _, rfl, HR.out⟩
    case round =>
      obtain ⟨q, hq, rfl, HS⟩ := hrel
      clear HR
      by_cases hlt : q < M
      · have hqi : (q : Int) < M := by omega
        obtain ⟨x, hx⟩ : ∃ x, N[q]? = some x := ⟨_, List.getElem?_eq_getElem (by have := HMM.out; omega)⟩
        obtain ⟨g, rfl⟩ := HS.out.rowSome (by omega)
        have kx := HS.out.rowAt (j := q) (x := .string (bstr x)) (by rw [List.getElem?_map, hx]; rfl)
        have HXL := Lib.hid (HNL.out x (List.mem_of_getElem? hx))
        have HXB := Lib.hid (HGL.out x)
        clear hx
        go_wp2_with (first
          | (go_at_call 34; (with_reducible refine (get_c HS.out.swap HXL.out).mono ?_); rintro e w4 ⟨v4, rfl, hS⟩; have H4 := Lib.hid hS; clear hS)
          | (go_at_call 63; (with_reducible refine (rget_c H4.out.rot4).mono ?_); rintro e w5 ⟨v5, rfl, hS⟩; have H5 := Lib.hid hS; clear hS)
          | (go_at_call 15; (with_reducible refine (equal68 (H5.out.rot3.byBs HXB.out) (H5.out.byBs HXB.out)).mono ?_); rintro e w6 ⟨rfl, rfl⟩; simp only [beq_self_eq_true]))
        go_roundw
        case rel => exact ⟨q + 1, by omega, by go_num, H5.out.drop.drop2.rot3.rot3.swap⟩
        case measure => simp [intOf]; omega
      · have hqe : q = M := by omega
        subst hqe
        go_wp2_with fail
        go_ret
        exact ⟨rfl, HS.out.drop⟩
end
end Go.Proofs.YtnpjfjgnhadmjaaGreatDoor

/- The walk of WalNames. -/
namespace Go.Proofs.YtnpjfjgnhadmjaaGreatDoor
open Go.RowKit Go.Maps Go.Deep
set_option linter.unusedVariables false

section
variable {w : World} {n : List UInt8} {most : Int}
set_option maxRecDepth 20000 in
set_option maxHeartbeats 4000000 in
theorem walNames_c (w : World) (hn : n.length ≤ maxLen) (hmo : -9223372036854775808 ≤ most ∧ most ≤ 9223372036854775807) : Calls Tryz.prog 4 #[.string (bstr n), .int .i64 most] w fun e w' => e = .returned (.bool true) ∧ B w w' := by
  have HNW := Lib.hid (show Calls Tryz.prog 16 #[.int .i64 1000] w fun e w' => ∃ p, e = .returned (.tuple #[.pointer (some ⟨p, 0, none⟩), .int .i64 0]) ∧ St w w' [aDisk p dZero] from new_yes (k := 1000) (St.nil w) (by omega))
  have HRN := Lib.hid (fun w' X (h : St w w' X) => show Calls Tryz.prog 17 #[.int .i64 1000] w' fun e w'' => ∃ p, e = .returned (.tuple #[.pointer (some ⟨p, 0, none⟩), .int .i64 0]) ∧ St w w'' (aRdk p dZero :: X) from rnew_yes (k := 1000) h (by omega))
  have HB := Lib.hid (fun w' => begun_c w')
  cases hm : mayN n most with
  | false =>
    have HO := Lib.hid (fun w' dp X (h : St w w' (aDisk dp dZero :: X)) => open0_bad (n := n) (most := most) h hm)
    have HRO := Lib.hid (fun w' dp X (h : St w w' (aRdk dp dZero :: X)) => ropen0_bad (n := n) (most := most) h hm hn hmo)
    have HSA := Lib.hid (fun w' p r X (h : St w w' (aDisk p dZero :: aRdk r dZero :: X)) => wsame_c h (fun f hf => by cases hf))
    clear hm hn hmo
    go_enter Tryz.func4, Tryz.ntmps4
    go_wp2_with (first
      | (go_at_call 16; (with_reducible refine HNW.out.mono ?_); rintro e w1 ⟨dp, rfl, hS⟩; have H1 := Lib.hid hS; clear hS)
      | (go_at_call 17; (with_reducible refine (HRN.out _ _ H1.out).mono ?_); rintro e w2 ⟨dr, rfl, hS⟩; have H2 := Lib.hid hS; clear hS)
      | (go_at_call 12; (with_reducible refine (HB.out _).mono ?_); rintro e w3 ⟨rfl, hb⟩; have H3 := Lib.hid (H2.out.later hb).swap; clear hb)
      | (go_at_call 18; (with_reducible refine (HO.out _ _ _ H3.out).mono ?_); rintro e w4 ⟨rfl, hS⟩; have H4 := Lib.hid hS.swap; clear hS)
      | (go_at_call 19; (with_reducible refine (HRO.out _ _ _ H4.out).mono ?_); rintro e w5 ⟨rfl, hS⟩; have H5 := Lib.hid hS.swap; clear hS)
      | (go_at_call 20; (with_reducible refine (HSA.out _ _ _ _ H5.out).mono ?_); rintro e w6 ⟨rfl, hS⟩; have H6 := Lib.hid hS; clear hS))
    go_ret
    exact ⟨rfl, H6.out.b⟩
  | true =>
    have h16 : n.length ≤ 16 := by
      unfold mayN at hm
      simp only [Bool.and_eq_true, decide_eq_true_eq] at hm
      exact hm.1.2.1
    have HO := Lib.hid (fun w' dp X (h : St w w' (aDisk dp dZero :: X)) => open0_c (n := n) (most := most) h hm (by omega))
    have HRO := Lib.hid (fun w' dp X (h : St w w' (aRdk dp dZero :: X)) => ropen0_c (n := n) (most := most) h hm)
    have HSA := Lib.hid (fun w' p r X (h : St w w' (aDisk p (dOne n (headF 1) 6) :: aRdk r (dOne n (headF 1) 6) :: X)) => wsame_c h (fun f hf => by
      simp only [dOne, List.mem_cons, List.not_mem_nil, or_false] at hf
      subst hf
      simp [file1]; unfold maxLen; omega))
    clear hm hn hmo h16
    go_enter Tryz.func4, Tryz.ntmps4
    go_wp2_with (first
      | (go_at_call 16; (with_reducible refine HNW.out.mono ?_); rintro e w1 ⟨dp, rfl, hS⟩; have H1 := Lib.hid hS; clear hS)
      | (go_at_call 17; (with_reducible refine (HRN.out _ _ H1.out).mono ?_); rintro e w2 ⟨dr, rfl, hS⟩; have H2 := Lib.hid hS; clear hS)
      | (go_at_call 12; (with_reducible refine (HB.out _).mono ?_); rintro e w3 ⟨rfl, hb⟩; have H3 := Lib.hid (H2.out.later hb).swap; clear hb)
      | (go_at_call 18; (with_reducible refine (HO.out _ _ _ H3.out).mono ?_); rintro e w4 ⟨pl, rfl, hS⟩; have H4 := Lib.hid hS.rot3; clear hS)
      | (go_at_call 19; (with_reducible refine (HRO.out _ _ _ H4.out).mono ?_); rintro e w5 ⟨pr, rfl, hS⟩; have H5 := Lib.hid hS.rot3; clear hS)
      | (go_at_call 20; (with_reducible refine (HSA.out _ _ _ _ H5.out).mono ?_); rintro e w6 ⟨rfl, hS⟩; have H6 := Lib.hid hS; clear hS))
    go_ret
    exact ⟨rfl, H6.out.b⟩
end
end Go.Proofs.YtnpjfjgnhadmjaaGreatDoor

/- WalNames: whatever the name and the size, the log is opened just where the document's is, and the files are the same. Condition: the five listed package variables hold what their initialisers lay. -/
namespace Go.Proofs.YtnpjfjgnhadmjaaGreatDoor
open Go.ChangeShapes Go.WideShapes Go.ChangeAt Go.RowKit Go.Deep
set_option linter.unusedVariables false

set_option maxRecDepth 100000 in
theorem walNames_contract (H : Type) (enc : TypeId × Value → H) (W : World) (base : Nat) (args : Array Value) (ds gs : List (DataW H)) (before : List MemPlace)
    (hval : ∀ (j : Nat) t v, Tryz.f4.params[j]? = some t → args[j]? = some v → Value.okWide Tryz.prog W .any base t v)
    (hW : DataW.Whole enc Tryz.prog Tryz.f4.params.toList Rows.walNamesSpec.vars false W args.toList ds gs before) (hk : ∀ k, (OpenSpec.ofChange Rows.walNamesSpec).cond = some k → k H (ds ++ gs) = true)
    (hsz0 : (DataW.weightsEach Tryz.prog (Tryz.f4.params.toList ++ Rows.walNamesSpec.plain.varTypes Tryz.prog) (ds ++ gs)).all (· ≤ reachBytes) = true) :
    Calls Tryz.prog 4 args W fun e W' => ∃ v, e = .returned v ∧ Rows.walNamesSpec.post enc Tryz.prog Tryz.f4 false true false false W args v W' := by
  have hW' := hW
  obtain ⟨p, q, hA0, hV, rfl, hfz, hnd⟩ := hW
  have hA : DataW.TrodAll enc Tryz.prog W 0 (fun _ => true) true Tryz.f4.params.toList args.toList ds p := hA0
  rw [Tryz.params4] at hA hval
  obtain ⟨rfl, rfl⟩ := trodVars_none hV
  have hsz : (DataW.weightsEach Tryz.prog (Tryz.f4.params.toList ++ []) (ds ++ [])).all (· ≤ reachBytes) = true := hsz0
  rw [Tryz.params4] at hsz
  obtain ⟨v0, vs0, d0, ds0, p0, q0, hargs, rfl, rfl, h0, r0⟩ := trodAll_cons hA
  obtain ⟨v1, vs1, d1, ds1, p1, q1, rfl, rfl, rfl, h1, r1⟩ := trodAll_cons r0
  obtain ⟨rfl, rfl, rfl⟩ := trodAll_nil r1
  obtain rfl : args = #[v0, v1] := by cases args; simp_all
  obtain ⟨s, rfl, _, _, hs⟩ := Go.ChangeMaps.open_string Tryz.underlying9 (hval 0 9 v0 rfl rfl) h0
  obtain ⟨m, rfl, _, _, hm⟩ := Go.ChangeShapes.open_int Tryz.underlying3 (hval 1 3 v1 rfl rfl) h1
  have hw : -9223372036854775808 ≤ m ∧ m ≤ 9223372036854775807 := by
    simp [Lit.wf, IntKind.min, IntKind.max, IntKind.signed, IntKind.bits] at hm
    exact hm
  obtain ⟨n, rfl⟩ : ∃ n, s = bstr n := ⟨s.data.toList, by cases s; simp [bstr]⟩
  rw [bstr_size] at hs
  refine (walNames_c W hs hw).mono fun e W' ⟨he, hg⟩ => ?_
  subst he
  exact ⟨_, rfl, law_post prog_laid (by kernel_rfl) rfl ⟨rfl, rfl, rfl⟩ (tb := 4) (by kernel_rfl) Tryz.underlying4 hW' hg⟩
set_option maxRecDepth 100000 in
theorem walNames_reads (os : Os) (H : Type) (enc : TypeId × Value → H) : ∃ places, DataW.whole enc Tryz.prog ((laidWorld os).forCall (fun _ _ => 0) ⟨#[], #[.string ⟨#[]⟩, .int .i64 0], []⟩).memory Tryz.f4.params.toList Rows.walNamesSpec.vars false (#[.string ⟨#[]⟩, .int .i64 0] : Array Value).toList 8 = some ([.lit (.string []), .lit (.int .i64 0)], [], places) :=
  ⟨[], by kernel_rfl⟩
set_option maxRecDepth 100000 in
theorem walNames_lifted (os : Os) (started : os.Started) (H : Type) (enc : TypeId × Value → H) (F : Stop.Interp) :
    ReturnsInHanded {} Tryz.checked os 4 .any ((OpenSpec.ofChange Rows.walNamesSpec).preRow enc Tryz.prog Tryz.f4 Rows.walNamesRow.domain false Rows.walNamesRow.laid) (((OpenSpec.ofChange Rows.walNamesSpec).at F).post enc Tryz.prog Tryz.f4 false true false false) := by
  obtain ⟨places, hx⟩ := walNames_reads os H enc
  refine returnsInHanded_of_row (C := Tryz.checked) (s := (OpenSpec.ofChange Rows.walNamesSpec)) prog_own started (by kernel_rfl) Tryz.func4
    (witness_row_atRef (enc := enc) (C := Tryz.checked) false (laidWorld os) #[.string ⟨#[]⟩, .int .i64 0] rfl (by kernel_rfl) (by kernel_rfl) (by kernel_rfl)
      (OpenSpec.preRow_of_cond 8 hx (by kernel_rfl) (fun k hk => by cases hk) (by kernel_rfl) (laid_met os _))) ?_
  intro W base args ds gs before hval hW _ hk hsz _ _ _
  exact walNames_contract H enc W base args ds gs before hval hW hk hsz
theorem walNames_said : Rows.WalNamesSaid :=
  OpenClaim.holds_of_cond 4 Tryz.f4 rfl rfl rfl rfl rfl rfl rfl ⟨rfl, rfl, rfl, rfl, rfl⟩ rfl rfl rfl rfl rfl (by kernel_rfl) Tryz.func4 (by kernel_rfl)
    (of_decide_eq_true (by kernel_rfl)) (by unfold Func.isWrapper; first | (rw [if_pos (by decide +kernel)]; kernel_rfl) | (rw [if_neg (by decide +kernel)]; exact ⟨rfl, rfl⟩))
    (fun os started H enc _ F => by rw [OpenClaim.pre_eq_preRow]; exact walNames_lifted os started H enc F)
theorem walNames_plain (f : FuncId) (fn : Func) (hf : Tryz.pinned.checked.prog.funcNamed "bulla/bullalaw04.WalNames" = some f) (hfn : Tryz.pinned.checked.prog.funcs[f]? = some fn) :
    true = Tryz.pinned.checked.prog.looks [] ∧ ∀ (j : Nat) t, fn.params[j]? = some t → Tryz.pinned.checked.prog.wantsStandIn t = false := by
  obtain rfl : f = 4 := Option.some.inj ((show Tryz.prog.funcNamed "bulla/bullalaw04.WalNames" = some 4 by kernel_rfl).symm.trans hf) |>.symm
  obtain rfl : fn = Tryz.f4 := (Option.some.inj (Tryz.func4.symm.trans hfn)).symm
  refine ⟨by kernel_rfl, fun j t ht => ?_⟩
  rw [Tryz.params4] at ht
  have hm : t = 9 ∨ t = 3 := by
    have := Array.mem_of_getElem? ht
    simpa using this
  rcases hm with rfl | rfl
  · exact (show Tryz.prog.wantsStandIn 9 = false by kernel_rfl)
  · exact (show Tryz.prog.wantsStandIn 3 = false by kernel_rfl)
theorem walNames_holds : Rows.WalNamesCardSaid :=
  Claim7.holds_tied_plain_at .later [] _ _ _ _ walNames_said (fun _ h => by cases h) (by kernel_rfl) (fun _ h => by cases h) walNames_row_tie rfl ⟨rfl, rfl⟩ (by kernel_rfl) rfl walNames_plain (by kernel_rfl)
end Go.Proofs.YtnpjfjgnhadmjaaGreatDoor
