/- 'bullalaw17.TimerTotals': whatever the number, as many ticks go by as Total says, and the law returns true. No condition. -/
import Derived.Test.YthgpkbhilkdckaaTj
import Derived.Test.YthgpkbhilkdckaaB1
namespace Go.Proofs.Ythgpkbhilkdckaa
open Go.ChangeShapes Go.WideShapes Go.ChangeAt Go.RowKit Go.Joins
set_option linter.unusedVariables false

theorem totL (k : Nat) : lens (totS k).2 ∧ (totS k).2 ≤ 4096 := by
  induction k with
  | zero => exact ⟨by unfold lens totS; omega, by simp [totS]⟩
  | succ k ih =>
    obtain ⟨h1, h2⟩ := ih
    have e := (totS_s k).2
    unfold lens at *
    omega
theorem tOK_of {l k : Int} (h : lens l) (h1 : l ≤ 4096) (h2 : 0 ≤ k) (h3 : k ≤ l) : tOK l k = true := by
  have := chk_yes h h1 h2 h3
  cases e : tOK l k
  · simp [chk, e] at this
  · rfl
/-- a timer of the row, r ticks left -/
theorem tickAt (i : Nat) (r : Int) (h0 : 1 ≤ r) (h1 : r ≤ (totS i).2) : mL (totS i).2 r = (totS i).2 ∧ tK (totS i).2 r = r - 1 ∧ tO (totS i).2 r = (r == 1) := by
  have h := totL i
  have e := mT (tOK_of h.1 h.2 (by omega) h1)
  refine ⟨e.1, ?_, ?_⟩
  · unfold tK; rw [e.2, if_neg (by omega)]
  · unfold tO; rw [e.2]
theorem dblAt (i : Nat) : dL (totS i).2 0 = (totS (i + 1)).2 := by
  have h := totL i
  have hb := totB i
  have e := mT (tOK_of h.1 h.2 (Int.le_refl 0) (by omega))
  unfold dL; rw [e.1]; rfl
theorem totM (i j : Nat) (h : i ≤ j) : (totS i).1 ≤ (totS j).1 := by
  induction j with
  | zero => have : i = 0 := by omega
            subst this; exact Int.le_refl _
  | succ j ih =>
    by_cases e : i = j + 1
    · subst e; exact Int.le_refl _
    · have := ih (by omega); have := totB j; have := (totS_s j).1; omega
theorem totN_nat (m : Nat) (h : m ≤ 1048576) : totN (m : Int) = m := by unfold totN; omega

set_option maxHeartbeats 1000000 in
theorem timerTotals_walk (n : Int) (hn : 0 ≤ n ∧ n ≤ 255) (w : World) : Calls Try.prog 4 #[.int .u8 n] w fun e w' => e = .returned (.bool true) ∧ B w w' := by
  have e1 : mL 8 0 = 8 := by decide
  have e2 : sK 8 0 = 8 := by decide
  go_enter Try.func4, Try.ntmps4
  go_wp2_with fail
  refine (live27 _).mono ?_
  rintro e w1 ⟨rfl, hb1⟩
  go_wp2_with fail
  refine (new29 _).mono ?_
  rintro e w2 ⟨rfl, hb2⟩
  go_wp2_with fail
  refine (start28 _ _ _).mono ?_
  rintro e w3 ⟨rfl, hb3⟩
  go_wp2_with fail
  clear e1 e2
  have hb : B w w3 := (hb1.trans hb2).trans hb3
  clear hb1 hb2 hb3
  have ho : Own2 (w3.alloc (Obj.cells #[Value.int IntKind.i64 8, Value.int IntKind.i64 8] 35)) w3.heap.size (.int .i64 (totS 0).2) (.int .i64 (totS 0).2) := Own2.mk
  have hB : B w (w3.alloc (Obj.cells #[Value.int IntKind.i64 8, Value.int IntKind.i64 8] 35)) := hb.trans (B.alloc' _ _)
  have hw3 : w.heap.size ≤ w3.heap.size := hb.size
  obtain ⟨m, hm⟩ := Int.eq_ofNat_of_zero_le (show 0 ≤ n % 40 by omega)
  have hm40 : m < 40 := by omega
  simp only [hm]
  clear hm
  generalize w3.alloc (Obj.cells #[Value.int IntKind.i64 8, Value.int IntKind.i64 8] 35) = w4 at ho hB ⊢
  generalize w3.heap.size = b at ho hw3 ⊢
  clear hb
  go_loopw [4, 15] (fun s i wr => ∃ k : Nat, k ≤ m ∧ s = .int .i64 (totS k).1 ∧ i = .int .i64 k ∧ Own2 wr b (.int .i64 (totS k).2) (.int .i64 (totS k).2) ∧ B w wr) (fun _ i _ => m - (intOf i).toNat)
  case atStart => exact ⟨0, Nat.zero_le _, rfl, rfl, ho, hB⟩
  case round =>
    obtain ⟨k, hk, rfl, rfl, ho, hB⟩ := hrel
    by_cases hlt : k < m
    · have hlt' : (k : Int) < m := by omega
      go_wp2_with fail
      obtain ⟨wo, rfl⟩ : ∃ wo : World, wo = wr := ⟨_, rfl⟩
      have hL := totB k
      have hmono := totM (k + 1) m (by omega)
      have hS := (totS_s k).1
      have hmb := totB m
      go_loopw [4, 6] (fun s o wi => ∃ (r : Int) (d : Bool), ((d = false ∧ 1 ≤ r) ∨ (d = true ∧ r = 0)) ∧ r ≤ (totS k).2 ∧ s = .int .i64 ((totS k).1 + ((totS k).2 - r)) ∧ o = .bool d ∧ Own2 wi b (.int .i64 (totS k).2) (.int .i64 r) ∧ B w wi) (fun s _ _ => ((totS (k+1)).1 - intOf s).toNat + 0)
      case atStart => exact ⟨(totS k).2, false, .inl ⟨rfl, by omega⟩, by omega, by congr 1; omega, rfl, ho, hB⟩
      case round =>
        clear ho hB
        obtain ⟨r, d, hd, hr, rfl, rfl, ho, hB⟩ := hrel
        rcases hd with ⟨rfl, hr1⟩ | ⟨rfl, rfl⟩
        · obtain ⟨t1, t2, t3⟩ := tickAt k r hr1 hr
          have T := Lib.hid (And.intro t1 (And.intro t2 t3))
          clear t1 t2 t3
          have hno : ¬ (m : Int) * 4096 < (totS k).1 + ((totS k).2 - r) := by omega
          have hno' : decide ((m : Int) * 4096 < (totS k).1 + ((totS k).2 - r)) = false := decide_eq_false hno
          obtain ⟨c1, c2, c3, c4, c5⟩ := id ho
          have HS := Lib.hid hS
          clear hS hmono hno
          go_wp2_with fail
          refine (tick30 _ _ _).mono ?_
          rintro e w5 ⟨rfl, hb5⟩
          simp only [T.out.1, T.out.2.1, T.out.2.2]
          have o5 := ho.later hb5
          have hB5 := hB.trans hb5
          clear c1 c2 c3 c4 c5 ho hB hb5
          obtain ⟨c1, c2, c3, c4, c5⟩ := id o5
          by_cases hr2 : r = 1
          · subst hr2
            go_wp2_with fail
            go_roundw
            case rel => exact ⟨0, true, .inr ⟨rfl, rfl⟩, by omega, by congr 1; omega, by simp, o5.set _ _, (hB5.setCell hw3 _).setCell hw3 _⟩
            case measure => have := HS.out; simp [intOf]; omega
          · have hr3 : (r == 1) = false := by simpa using hr2
            go_wp2_with fail
            go_roundw
            case rel => exact ⟨r - 1, false, .inl ⟨rfl, by omega⟩, by omega, by congr 1; omega, rfl, o5.set _ _, (hB5.setCell hw3 _).setCell hw3 _⟩
            case measure => have := HS.out; simp [intOf]; omega
        · obtain ⟨c1, c2, c3, c4, c5⟩ := id ho
          have D := Lib.hid (dblAt k)
          have HS := Lib.hid hS
          clear hS hmono
          go_wp2_with fail
          refine (double31 _ _ _).mono ?_
          rintro e w5 ⟨rfl, hb5⟩
          simp only [D.out]
          have o5 := ho.later hb5
          have hB5 := hB.trans hb5
          clear c1 c2 c3 c4 c5 ho hB hb5
          obtain ⟨c1, c2, c3, c4, c5⟩ := id o5
          go_wp2_with fail
          go_roundw
          case rel => exact ⟨k + 1, by omega, by congr 1; have := HS.out; omega, by go_num, o5.set _ _, (hB5.setCell hw3 _).setCell hw3 _⟩
          case measure => simp [intOf]; omega
    · have hkm := Lib.hid (show k = m by omega)
      have hlt' : ¬ (k : Int) < m := by omega
      have hN := totN_nat m (by omega)
      have hN1 : totN ((m : Int) + 1) = m + 1 := totN_nat (m + 1) (by omega)
      have hb1 := totB m
      have hb2 := (totS_s m).1
      have q1 : decide ((totS m).1 ≤ (m : Int) * 4096) = true := decide_eq_true (by omega)
      have q2 : decide ((totS m).1 < (totS (m + 1)).1) = true := decide_eq_true (by omega)
      obtain rfl : k = m := hkm.out
      clear hb1 hb2 hkm ho
      go_wp2_with (first | (go_at_call 32; refine (total32 _ _).mono ?_; rintro e wx ⟨rfl, hbx⟩; simp only [hN, hN1]; replace hB := hB.trans hbx; clear hbx))
      go_ret
      exact ⟨by simp, hB⟩

theorem timerTotals_own : ownKnob Try.prog.godebug = none := by kernel_rfl
theorem timerTotals_laid : laidOutB Try.prog = true := by kernel_rfl

set_option maxRecDepth 100000 in
theorem timerTotals_contract (H : Type) (enc : TypeId × Value → H) (W : World) (base : Nat) (args : Array Value) (ds gs : List (DataW H)) (before : List MemPlace)
    (hval : ∀ (j : Nat) t v, Try.f4.params[j]? = some t → args[j]? = some v → Value.okWide Try.prog W .any base t v)
    (hW : DataW.Whole enc Try.prog Try.f4.params.toList Rows.timerTotalsSpec.vars false W args.toList ds gs before) :
    Calls Try.prog 4 args W fun e W' => ∃ v, e = .returned v ∧ Rows.timerTotalsSpec.post enc Try.prog Try.f4 false true false false W args v W' := by
  have hW' := hW
  obtain ⟨p, q, hA0, hV, rfl, hfz, hnd⟩ := hW
  have hA : DataW.TrodAll enc Try.prog W 0 (fun _ => true) true Try.f4.params.toList args.toList ds p := hA0
  rw [Try.params4] at hA hval
  obtain ⟨rfl, rfl⟩ := trodVars_none hV
  obtain ⟨v0, vs0, d0, ds0, p0, q0, hargs, rfl, rfl, h0, r0⟩ := trodAll_cons hA
  obtain ⟨rfl, rfl, rfl⟩ := trodAll_nil r0
  obtain rfl : args = #[v0] := by cases args; simp_all
  obtain ⟨n, rfl, rfl, rfl, wn⟩ := open_int Try.underlying5 (hval 0 5 v0 rfl rfl) h0
  have hn : 0 ≤ n ∧ n ≤ 255 := by simpa [Lit.wf, IntKind.min, IntKind.max, IntKind.signed, IntKind.bits] using wn
  refine (timerTotals_walk n hn W).mono fun e W' ⟨he, hg⟩ => ?_
  subst he
  exact ⟨_, rfl, law_post timerTotals_laid (by kernel_rfl) rfl ⟨rfl, rfl, rfl⟩ (tb := 4) (by kernel_rfl) Try.underlying4 hW' hg⟩

set_option maxRecDepth 100000 in
theorem timerTotals_lifted (os : Os) (started : os.Started) (H : Type) (enc : TypeId × Value → H) :
    ReturnsInHanded {} Try.checked os 4 .any (Rows.timerTotalsSpec.pre6 enc Try.prog Try.f4 Rows.timerTotalsRow.domain false) (Rows.timerTotalsSpec.post enc Try.prog Try.f4 false true false false) := by
  refine returnsInHanded_of_change (C := Try.checked) timerTotals_own started (by kernel_rfl) Try.func4
    (ChangeSpec.witness6 (enc := enc) (C := Try.checked) false ⟨#[], #[.int .u8 0], []⟩ 8 (by kernel_rfl) (by kernel_rfl) (by kernel_rfl) (by kernel_rfl)) ?_
  intro W base args ds gs before hval hW _ _
  exact timerTotals_contract H enc W base args ds gs before hval hW

theorem timerTotals_holds : Rows.TimerTotalsSaid :=
  OpenClaim.holds_of_wide 4 Try.f4 rfl rfl rfl rfl rfl rfl rfl ⟨rfl, rfl, rfl, rfl, rfl⟩ rfl rfl rfl rfl rfl (by kernel_rfl) Try.func4 (by kernel_rfl)
    (of_decide_eq_true (by kernel_rfl)) (by unfold Func.isWrapper; first | (rw [if_pos (by decide +kernel)]; kernel_rfl) | (rw [if_neg (by decide +kernel)]; exact ⟨rfl, rfl⟩))
    (fun os started H enc _ => timerTotals_lifted os started H enc)

end Go.Proofs.Ythgpkbhilkdckaa
