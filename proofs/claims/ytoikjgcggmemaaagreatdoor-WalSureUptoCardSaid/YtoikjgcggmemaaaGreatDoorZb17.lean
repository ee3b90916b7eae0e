/- Lemmas and contracts, part 17. -/
import Derived.Test.YtoikjgcggmemaaaGreatDoorZb16
import Derived.Deep.DrawnRows
/- All on a log with one segment: numbers and records, as an iterator has them. -/
namespace Go.Proofs.YtoikjgcggmemaaaGreatDoor
open Go.RowKit Go.Deep Go.Maps
set_option linter.unusedVariables false
attribute [local go_sem ↓] Go.wp_at_zero Go.wp_at_succ

theorem Rd.blk {w : World} {g : Nat} {t : TypeId} {x : Value} (h : Blk w g t #[x]) : Rd w (.slice (some ⟨g, 0, none⟩) 1 1) 1 1 [x] := by
  refine ⟨rfl, _, _, rfl, fun e => (by cases e), Nat.le_refl _, fun ad had => ?_⟩
  cases had
  refine ⟨fun _ => h.lt, fun j u' hu => ?_⟩
  have ea : (⟨g, 0, none⟩ : Addr).add j = ⟨g, j, none⟩ := by unfold Addr.add; split <;> simp_all
  rw [ea, h.cell, ← hu]
  simp
/-- 'append(l, x...)' of one record that lies by itself -/
theorem St.plAppendRd {W w : World} {L : List Asn} {x v u : Value} {b : List UInt8} {M : List (List UInt8)} {ty : TypeId} (h : St W w (aPl v M :: aBy x b :: L)) (hu : Rd w u 1 1 [x]) (hb : b.length ≤ big) (hl : M.length + 1 ≤ 1099511627776) :
    ∃ A c w', (Builtin.append_ #[65, 65] ty #[v, u]).run Tryz.prog w = .ok (.slice A (M.length + 1) c) w' ∧ St W w' (aPl (.slice A (M.length + 1) c) (M ++ [b]) :: L) := by
  obtain ⟨own, ⟨o1, o2, k1, k2, k3, ⟨vs, ⟨h1, h2⟩, h3⟩, ⟨h4, h5⟩⟩, ho, hback⟩ := h.merge.focus
  obtain ⟨Ax, cx, rfl⟩ := own_slice h4
  obtain ⟨v', w', hrun, r4, x4, y4⟩ := append_Rd (P := Tryz.prog) (t := 65) (ty := ty) Tryz.underlying65 info47 rfl Nat.zero_lt_one h1 hu (by simp [Value.oneCell']) (by unfold maxLen; omega) (by omega) (Nat.zero_le _)
  obtain ⟨A, c, rfl⟩ := own_slice r4
  refine ⟨A, c, w', hrun, ?_⟩
  have hgx : Ext (fun g => some g = v.ownBlock) w w' := (Ext.refl _ _).grown x4 (fun g e _ => e.symm)
  have f7 := h3.ext hgx (fun g cs _ hB' e => row_ne h1 hB' (by decide) e.symm)
  have q3 := row_ext h4 hgx (fun g hg e => row_row h1 h4 (by decide) e.symm hg)
  have f8 := (f7.mono (own' := fun x => own x ∨ w.heap.size ≤ x) (fun g hg => .inl (k1 g hg))).snoc q3 hb (fun g hg => .inl (k2 g (h5 g hg)))
  refine hback w' (aPl (.slice A (M.length + 1) c) (M ++ [b])) ((Ext.refl _ _).grown x4 (fun g e _ => k1 g (h2 g e))) ⟨_, ⟨by rw [List.length_append]; exact r4, fun g hg => ?_⟩, f8⟩
  rcases y4 with e | e
  · exact .inl (k1 g (h2 g (by rw [← e, hg])))
  · right; rw [e] at hg; injection hg with hg; omega
section
variable {W w : World} {p dp s c : Nat} {X : List Asn} {g : Lg} {vL : Value}
theorem Lfirst_o (h : St W w (lgL p dp g s c vL ++ X)) : Calls Tryz.prog 14 #[.pointer (some ⟨p, 0, none⟩)] w fun e w' => e = .returned (.int .i64 g.first) ∧ B w w' := by
  have HN := Lib.hid (Lnone_o h)
  obtain ⟨_, _, _, k3, _, _, k1, _⟩ := lgL.cells h
  clear h
  go_enter Tryz.func14, Tryz.ntmps14
  go_wp2_with (first
    | (go_at_call 27; (with_reducible refine HN.out.mono ?_); rintro e w1 ⟨rfl, rfl⟩))
  go_ret
  exact ⟨rfl, Below.refl _ _⟩
theorem Lfirst_c (h : St W w (aLg p dp g :: X)) : Calls Tryz.prog 14 #[.pointer (some ⟨p, 0, none⟩)] w fun e w' => e = .returned (.int .i64 g.first) ∧ B w w' := by
  obtain ⟨s, c, vL, hE, h1⟩ := aLg.open_ h
  exact Lfirst_o h1
theorem Lnone_c (h : St W w (aLg p dp g :: X)) : Calls Tryz.prog 27 #[.pointer (some ⟨p, 0, none⟩)] w fun e w' => e = .returned (.bool false) ∧ w = w' := by
  obtain ⟨s, c, vL, hE, h1⟩ := aLg.open_ h
  exact Lnone_o h1
/-- the numbers from f on -/
def numsC (f : Int) (k : Nat) : List Value := (List.range k).map fun i : Nat => Value.int .i64 (f + (i : Int))
theorem numsC_len (f : Int) (k : Nat) : (numsC f k).length = k := by simp [numsC]
theorem numsC_succ (f : Int) (k : Nat) : numsC f (k + 1) = numsC f k ++ [.int .i64 (f + (k : Int))] := by
  unfold numsC; rw [List.range_succ, List.map_append]; rfl
theorem numsC_get (f : Int) {k i : Nat} (h : i < k) : (numsC f k)[i]? = some (.int .i64 (f + (i : Int))) := by
  simp [numsC, h]
theorem infoI64 : (Tryz.prog.info? 2).map (fun i => (i.zero, i.size, i.bytes)) = some (some (.int .i64 0), 1, 8) := by kernel_rfl
set_option maxRecDepth 20000 in
set_option maxHeartbeats 8000000 in
theorem Lall_c (h : St W w (aLg p dp g :: X)) : Calls Tryz.prog 18 #[.pointer (some ⟨p, 0, none⟩)] w fun e w' => ∃ b1 b2 A1 A2 c1 c2, e = .returned (.func (.func 39) #[] #[.pointer (some ⟨b1, 0, none⟩), .pointer (some ⟨b2, 0, none⟩)]) ∧ St W w' (aLg p dp g :: X) ∧ Its w' b1 b2 A1 A2 c1 c2 g.first g.L := by
  have h2 := aBlk.new (aBlk.new h 77 #[.slice none 0 0]) 65 #[.slice none 0 0]
  rw [World.size_alloc] at h2
  have H2 := Lib.hid (aPl.nil (h2.rowNil 2 1))
  have HN := Lib.hid (fun w' Y (hS : St W w' (aLg p dp g :: Y)) => Lnone_c hS)
  have HF := Lib.hid (fun w' Y (hS : St W w' (aLg p dp g :: Y)) => Lfirst_c hS)
  have HL := Lib.hid (fun w' Y (hS : St W w' (aLg p dp g :: Y)) => Llast_c hS)
  have HG := Lib.hid (fun w' Y i b (hi : g.L[i]? = some b) (hS : St W w' (aLg p dp g :: Y)) => Lget_c hS hi)
  obtain ⟨s, c, vL, hE, h1⟩ := aLg.open_ h
  have HE := Lib.hid hE
  clear h h2 h1 hE
  go_enter Tryz.func18, Tryz.ntmps18
  go_wp2_with (first
    | (go_at_call 27; (with_reducible refine (HN.out _ _ H2.out.rot5).mono ?_); rintro e w1 ⟨rfl, rfl⟩)
    | (go_at_call 14; (with_reducible refine (HF.out _ _ H2.out.rot5).mono ?_); rintro e w2 ⟨rfl, hb⟩; have H3 := Lib.hid (H2.out.later hb); clear hb))
  obtain ⟨b1, hb1⟩ : ∃ b1, w.heap.size = b1 := ⟨_, rfl⟩
  obtain ⟨b2, hb2⟩ : ∃ b2, b1 + 1 = b2 := ⟨_, rfl⟩
  rw [hb1, hb2] at H3
  rw [hb1, hb2]
  have hne : ¬ b1 = b2 := by omega
  obtain ⟨h1, h2, h3⟩ := HE.out
  have HLF := Lib.hid (show lastF g = g.first + (g.L.length : Int) - 1 from rfl)
  obtain ⟨l, hl⟩ : ∃ l, g.L.length = l := ⟨_, rfl⟩
  have HLL := Lib.hid hl
  rw [hl] at HLF h1
  obtain ⟨f, hf⟩ : ∃ f, g.first = f := ⟨_, rfl⟩
  rw [hf] at HLF HG h2 h3 ⊢
  have HLF2 := Lib.hid (HLF.out)
  rw [HLF2.out] at HL
  have HFF := Lib.hid hf
  clear hb1 hb2 hl hf HLF H2
  go_loopw [5] (fun i wr => ∃ (j : Nat) (vA vO : Value), j ≤ l ∧ i = .int .i64 (f + (j : Int)) ∧ Hid (St W wr (aLg p dp g :: aPl vO (g.L.take j) :: aRow 2 1 vA j (numsC f j) :: aBlk b2 65 #[vO] :: aBlk b1 77 #[vA] :: X))) (fun i _ => (f + (l : Int) - intOf i).toNat)
  case atStart => exact ⟨0, _, _, Nat.zero_le _, by simp, H3.out.rot5⟩
  case round =>
    obtain ⟨j, vA, vO, hj, rfl, HS⟩ := hrel
    by_cases hjl : j < l
    · obtain ⟨b, hbj⟩ : ∃ b, g.L[j]? = some b := ⟨_, List.getElem?_eq_getElem (by have := HLL.out; omega)⟩
      have HBJ := Lib.hid hbj
      have q1 : f + (j : Int) ≤ f + (l : Int) - 1 := by omega
      have hbig : b.length ≤ big := by
        obtain ⟨s, c, vL, _, hx⟩ := aLg.open_ HS.out
        obtain ⟨_, _, _, _, _, hy⟩ := aPl.at (St.rot3 hx) hbj
        exact hy.2
      have HBB := Lib.hid hbig
      clear hbj hbig
      go_wp2_with (first
        | (go_at_call 13; (with_reducible refine (HL.out _ _ HS.out).mono ?_); rintro e w3 ⟨rfl, hb⟩; have H4 := Lib.hid (HS.out.later hb); clear hb)
        | (go_at_call 25; (with_reducible refine (HG.out _ _ _ _ HBJ.out H4.out).mono ?_); rintro e w4 ⟨vb, rfl, hS⟩; obtain ⟨Ab, cb, rfl⟩ := hS.bySlice; have H5 := Lib.hid hS; clear hS))
      have z41 := (aBlk.get H5.out.rot6).lt
      have z42 := (aBlk.get H5.out.rot5).lt
      have k1 := (aBlk.get H5.out.rot6).cell 0
      have k2 := (aBlk.get H5.out.rot5).cell 0
      simp only [List.getElem?_toArray, List.getElem?_cons_zero] at k1 k2
      have o1 : ∀ x ∈ [Value.int .i64 (f + (j : Int))], x.oneCell' = true := by simp [Value.oneCell']
      have g1 : j + 1 ≤ maxLen := by unfold maxLen; omega
      have g2 : (j + 1) * 8 ≤ 140737488355328 := by omega
      have HA0 := Lib.hid H5.out.rot4
      have hb1 := (aBlk.new (HA0.out.later (B.alloc' w4 (.cells #[.int .i64 (f + (j : Int))] 2))) 32 #[.slice Ab b.length cb]).swap.later (Below.refl _ _).drew
      rw [World.size_alloc] at hb1
      have HB1 := Lib.hid hb1
      have HRB1 := Lib.hid ((Rd.one w4 (.int .i64 (f + (j : Int))) 2).later ((B.alloc' _ (.cells #[.slice Ab b.length cb] 32)).trans (Below.refl _ _).drew))
      have HB2 := Lib.hid ((aBlk.new HA0.out 32 #[.slice Ab b.length cb]).swap.later ((B.alloc' (w4.alloc (.cells #[.slice Ab b.length cb] 32)) (.cells #[.int .i64 (f + (j : Int))] 2)).trans (Below.refl _ _).drew))
      have hrb2 := (Rd.one (w4.alloc (.cells #[.slice Ab b.length cb] 32)) (.int .i64 (f + (j : Int))) 2).later (Below.refl _ _).drew
      rw [World.size_alloc] at hrb2
      have HRB2 := Lib.hid hrb2
      clear hb1 hrb2
      have HA := Lib.hid ((show St W w4.drew _ from H5.out.later (Below.refl _ _).drew).rot4)
      have HLT := Lib.hid (show (g.L.take j).length = j by rw [List.length_take]; have := HLL.out; omega)
      have hlt2 : (g.L.take j).length + 1 ≤ 1099511627776 := by have := HLT.out; omega
      have HLT2 := Lib.hid hlt2
      clear hlt2
      have HK := Lib.hid (fun w9 A8 c8 A9 c9 (hS : St W w9 (aPl (.slice A9 (j + 1) c9) (g.L.take j ++ [b]) :: aRow 2 1 (.slice A8 (j + 1) c8) (j + 1) (numsC f j ++ [.int .i64 (f + (j : Int))]) :: aLg p dp g :: aBlk b2 65 #[vO] :: aBlk b1 77 #[vA] :: X)) =>
        show St W ((w9.setCell ⟨b1, 0, none⟩ (.slice A8 (j + 1) c8)).setCell ⟨b2, 0, none⟩ (.slice A9 (j + 1) c9)) (aLg p dp g :: aPl (.slice A9 (j + 1) c9) (g.L.take (j + 1)) :: aRow 2 1 (.slice A8 (j + 1) c8) (j + 1) (numsC f (j + 1)) :: aBlk b2 65 #[.slice A9 (j + 1) c9] :: aBlk b1 77 #[.slice A8 (j + 1) c8] :: X) from by
        have h1 := aBlk.set hS.rot5 0 (.slice A8 (j + 1) c8)
        have h2 := aBlk.set h1.rot5 0 (.slice A9 (j + 1) c9)
        rw [numsC_succ, List.take_succ_eq_append_getElem (lt_of HBJ.out), show g.L[j]'(lt_of HBJ.out) = b from by
          have := HBJ.out
          rw [List.getElem?_eq_getElem (lt_of HBJ.out)] at this
          exact Option.some.inj this]
        exact h2.rot3.rot4.swap.rot5)
      go_region_law (first
        | (refine step_append_St (by rfl) (.tmp 25) (.tmp 27) 77 (by rfl) Tryz.underlying77 infoI64 rfl Nat.zero_lt_one (by rfl) (by rfl) (HA.out.later (B.alloc' _ _)) (Rd.one _ _ _) o1 g1 g2 ?_; intro A8 c8 w8 hS; have H8 := Lib.hid hS; clear k1 k2; have k1 := (aBlk.get hS.rot6).cell 0; have k2 := (aBlk.get hS.rot5).cell 0; have z1 := (aBlk.get hS.rot6).lt; have z2 := (aBlk.get hS.rot5).lt; simp only [List.getElem?_toArray, List.getElem?_cons_zero] at k1 k2; clear hS)
        | (refine step_append_St (by rfl) (.tmp 25) (.tmp 27) 77 (by rfl) Tryz.underlying77 infoI64 rfl Nat.zero_lt_one (by rfl) (by rfl) HB1.out HRB1.out o1 g1 g2 ?_; intro A8 c8 w8 hS; have H8 := Lib.hid hS; clear k1 k2; have k1 := (aBlk.get hS.swap.drop.rot6).cell 0; have k2 := (aBlk.get hS.swap.drop.rot5).cell 0; have z1 := (aBlk.get hS.swap.drop.rot6).lt; have z2 := (aBlk.get hS.swap.drop.rot5).lt; simp only [List.getElem?_toArray, List.getElem?_cons_zero] at k1 k2; clear hS)
        | (refine step_append_St (by rfl) (.tmp 25) (.tmp 27) 77 (by rfl) Tryz.underlying77 infoI64 rfl Nat.zero_lt_one (by rfl) (by rfl) HB2.out HRB2.out o1 g1 g2 ?_; intro A8 c8 w8 hS; have H8 := Lib.hid hS; clear k1 k2; have k1 := (aBlk.get hS.swap.drop.rot6).cell 0; have k2 := (aBlk.get hS.swap.drop.rot5).cell 0; have z1 := (aBlk.get hS.swap.drop.rot6).lt; have z2 := (aBlk.get hS.swap.drop.rot5).lt; simp only [List.getElem?_toArray, List.getElem?_cons_zero] at k1 k2; clear hS)
        | (obtain ⟨A9, c9, w9, hrun, hS⟩ := St.plAppendRd (ty := 65) (H8.out.later (B.alloc' w8 (.cells #[.slice Ab b.length cb] 32))).rot4.swap2 (Rd.one _ _ _) HBB.out HLT2.out; rw [HLT.out] at hrun hS; refine step_append_run (by rfl) (.tmp 29) (.tmp 31) 65 (by rfl) (by rfl) (by rfl) hrun ?_; have H9 := Lib.hid hS; clear k1 k2; have k1 := (aBlk.get hS.rot5).cell 0; have k2 := (aBlk.get hS.rot4).cell 0; have f1 := (aBlk.get hS.rot5).frozen 0; have f2 := (aBlk.get hS.rot4).frozen 0; simp only [List.getElem?_toArray, List.getElem?_cons_zero] at k1 k2; clear hS hrun)
        | (obtain ⟨A9, c9, w9, hrun, hS⟩ := St.plAppendRd (ty := 65) H8.out.swap.drop.rot4.swap2 (Rd.blk (aBlk.get H8.out.swap)) HBB.out HLT2.out; rw [HLT.out] at hrun hS; refine step_append_run (by rfl) (.tmp 29) (.tmp 31) 65 (by rfl) (by rfl) (by rfl) hrun ?_; have H9 := Lib.hid hS; clear k1 k2; have k1 := (aBlk.get hS.rot5).cell 0; have k2 := (aBlk.get hS.rot4).cell 0; have f1 := (aBlk.get hS.rot5).frozen 0; have f2 := (aBlk.get hS.rot4).frozen 0; simp only [List.getElem?_toArray, List.getElem?_cons_zero] at k1 k2; clear hS hrun))
      all_goals
        go_wp2_with fail
        go_roundw
        case rel => exact ⟨j + 1, _, _, by omega, by rw [show ((j + 1 : Nat) : Int) = (j : Int) + 1 from rfl]; simp [Int.add_assoc], HK.out _ _ _ _ _ H9.out⟩
        case measure => simp [intOf]; omega
    · obtain rfl : j = l := by omega
      have HS2 := Lib.hid HS.out
      have q1 : ¬ f + (j : Int) ≤ f + (j : Int) - 1 := by omega
      clear HS
      go_wp2_with (first
        | (go_at_call 13; (with_reducible refine (HL.out _ _ HS2.out).mono ?_); rintro e w3 ⟨rfl, hb⟩; have H4 := Lib.hid (HS2.out.later hb); clear hb))
      go_ret
      have h4 := H4.out
      rw [List.take_of_length_le (by have := HLL.out; omega)] at h4
      have k1 := (aBlk.get h4.rot5).cell 0
      have k2 := (aBlk.get h4.rot4).cell 0
      simp only [List.getElem?_toArray, List.getElem?_cons_zero] at k1 k2
      have hrow := h4.rot3
      obtain ⟨A1, c1, rfl⟩ := hrow.rowSlice
      obtain ⟨A2, c2, rfl⟩ := aPl.slice h4.swap
      rw [HFF.out]
      refine ⟨b1, b2, A1, A2, c1, c2, rfl, h4.swap.drop.swap.drop.swap.drop.swap.drop, ?_⟩
      · refine ⟨by rw [HLL.out]; exact k1, k2, by have := HLL.out; omega, fun i hi => ?_, fun i b hi => ?_⟩
        · obtain ⟨g1, rfl⟩ := hrow.rowNSome (by have := HLL.out; omega)
          exact ⟨g1, rfl, hrow.rowN (numsC_get f (by have := HLL.out; omega))⟩
        · obtain ⟨gl, c3, u, hv, k3, r3⟩ := aPl.at h4.swap hi
          injection hv with e1 e2 e3
          subst e1
          exact ⟨gl, u, rfl, k3, r3⟩
end
end Go.Proofs.YtoikjgcggmemaaaGreatDoor
