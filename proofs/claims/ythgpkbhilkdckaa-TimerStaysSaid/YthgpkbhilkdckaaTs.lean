/- 'bullalaw17.TimerStays': whatever the timer, what the program makes of it is a timer that may be, and it runs out behind just as many ticks as are left; the law returns true. No condition. -/
import Derived.Test.YthgpkbhilkdckaaTt
namespace Go.Proofs.Ythgpkbhilkdckaa
open Go.ChangeShapes Go.WideShapes Go.ChangeAt Go.RowKit Go.Joins
set_option linter.unusedVariables false

theorem tOK_le {l k k' : Int} (h : tOK l k = true) (h0 : 0 ≤ k') (h1 : k' ≤ l) : tOK l k' = true := by
  simp [tOK] at h ⊢; omega
/-- the six timers -/
def six (l k : Int) : List (Int × Int) := [(8, 0), (mL l k, sK l k), (mL l k, mL l k), (mL l k, 0), (dL l k, dL l k), (8, min (mK l k) 8)]
theorem six_ok (l k : Int) : ∀ x ∈ six l k, tOK x.1 x.2 = true := by
  have h := mB l k
  have hm := mOK l k
  have hd := dOK l k
  have hdd : 8 ≤ dL l k := by unfold dL; omega
  have hs : 0 ≤ sK l k ∧ sK l k ≤ mL l k := by unfold sK; split <;> omega
  have h8 : tOK 8 0 = true := by decide
  intro x hx
  simp only [six, List.mem_cons, List.not_mem_nil, or_false] at hx
  rcases hx with rfl | rfl | rfl | rfl | rfl | rfl
  · exact h8
  · exact tOK_le hm hs.1 hs.2
  · exact tOK_le hm (by omega) (Int.le_refl _)
  · exact tOK_le hm (Int.le_refl _) (by omega)
  · exact tOK_le hd (by omega) (Int.le_refl _)
  · exact tOK_le h8 (show (0 : Int) ≤ min (mK l k) 8 by omega) (show min (mK l k) 8 ≤ (8 : Int) by omega)
/-- the slice of the six, in memory -/
def SixAt (w : World) (b : Nat) (E : Nat → Int × Int) : Prop := b < w.heap.size ∧ ∀ j, j < 6 → w.cell? ⟨b, j * 2, none⟩ = some (.int .i64 (E j).1) ∧ w.cell? ⟨b, j * 2 + 1, none⟩ = some (.int .i64 (E j).2) ∧ tOK (E j).1 (E j).2 = true
theorem SixAt.mk (l k : Int) (w : World) : SixAt (w.alloc (.cells #[.int .i64 8, .int .i64 0, .int .i64 (mL l k), .int .i64 (sK l k), .int .i64 (mL l k), .int .i64 (mL l k), .int .i64 (mL l k), .int .i64 0, .int .i64 (dL l k), .int .i64 (dL l k), .int .i64 8, .int .i64 (min (mK l k) 8)] 35)) w.heap.size (fun j => (six l k).getD j (8, 0)) := by
  refine ⟨by simp, fun j hj => ?_⟩
  have ht : tOK ((six l k).getD j (8, 0)).1 ((six l k).getD j (8, 0)).2 = true := by
    rw [List.getD_eq_getElem?_getD, List.getElem?_eq_getElem (by simpa [six] using hj), Option.getD_some]
    exact six_ok l k _ (List.getElem_mem _)
  refine ⟨?_, ?_, ht⟩
  · rw [World.cell?_alloc_new]
    match j, hj with
    | 0, _ => rfl
    | 1, _ => rfl
    | 2, _ => rfl
    | 3, _ => rfl
    | 4, _ => rfl
    | 5, _ => rfl
  · rw [World.cell?_alloc_new]
    match j, hj with
    | 0, _ => rfl
    | 1, _ => rfl
    | 2, _ => rfl
    | 3, _ => rfl
    | 4, _ => rfl
    | 5, _ => rfl
/-- a tick of a timer that runs -/
theorem tickOK {L r : Int} (h : tOK L r = true) (hr : 1 ≤ r) : mL L r = L ∧ tK L r = r - 1 ∧ tO L r = (r == 1) ∧ (chk L (r - 1) != 0) = false ∧ decide (0 < mK L r) = true := by
  have e := mT h
  have hb := tB h
  refine ⟨e.1, ?_, ?_, cT (tOK_le h (by omega) (by omega)), by rw [e.2]; exact decide_eq_true (by omega)⟩
  · unfold tK; rw [e.2, if_neg (by omega)]
  · unfold tO; rw [e.2]
theorem restOK {L : Int} (h : tOK L 0 = true) : decide (0 < mK L 0) = false := by rw [(mT h).2]; rfl

set_option maxHeartbeats 1000000 in
theorem timerStays_walk (l k : Int) (w : World) : Calls Try.prog 6 #[.agg #[.int .i64 l, .int .i64 k]] w fun e w' => e = .returned (.bool true) ∧ B w w' := by
  go_enter Try.func6, Try.ntmps6
  go_wp2_with fail
  refine (live27 _).mono ?_
  rintro e w1 ⟨rfl, hb1⟩
  have o0 := Own2.mk.later hb1
  obtain ⟨c1, c2, c3, c4, c5⟩ := id o0
  have l1 : ∀ w', B w1 w' → w'.cell? ⟨w.heap.size, 0, none⟩ = some (.int .i64 l) := fun w' h => (o0.later h).1
  have l2 : ∀ w', B w1 w' → w'.cell? ⟨w.heap.size, 1, none⟩ = some (.int .i64 k) := fun w' h => (o0.later h).2.1
  have hB := (B.alloc' _ _).trans hb1
  go_wp2_with fail
  clear c1 c2 c3 c4 c5 o0 hb1
  go_region_held3 (fun w' => B w1 w') (first | exact B.trans (by assumption) hb | exact (Below.refl _ _).drew | exact B.trans (by assumption) (B.alloc' _ _) | assumption) (first | (go_at_call 29; refine (new29 _).mono ?_; rintro e wn ⟨rfl, hb⟩) | (go_at_call 28; refine (start28 _ _ _).mono ?_; rintro e wn ⟨rfl, hb⟩) | (go_at_call 38; refine (again38 _ _ _).mono ?_; rintro e wn ⟨rfl, hb⟩) | (go_at_call 40; refine (stop40 _ _ _).mono ?_; rintro e wn ⟨rfl, hb⟩) | (go_at_call 31; refine (double31 _ _ _).mono ?_; rintro e wn ⟨rfl, hb⟩) | (go_at_call 43; refine (calm43 _ _ _).mono ?_; rintro e wn ⟨rfl, hb⟩))
  have hS := SixAt.mk l k wn
  have hW : B w (wn.alloc _) := hB.trans ‹B w1 (wn.alloc _)›
  generalize (wn.alloc (Obj.cells #[Value.int IntKind.i64 8, Value.int IntKind.i64 0, Value.int IntKind.i64 (mL l k), Value.int IntKind.i64 (sK l k), Value.int IntKind.i64 (mL l k), Value.int IntKind.i64 (mL l k), Value.int IntKind.i64 (mL l k), Value.int IntKind.i64 0, Value.int IntKind.i64 (dL l k), Value.int IntKind.i64 (dL l k), Value.int IntKind.i64 8, Value.int IntKind.i64 (min (mK l k) 8)] 35)) = wS at hS hW ⊢
  generalize (fun j => (six l k).getD j (8, 0)) = E at hS
  generalize wn.heap.size = bS at hS ⊢
  clear l1 l2 hB
  go_wp2_with fail
  go_loopw [24] (fun i wr => ∃ q : Nat, q ≤ 6 ∧ i = .int .i64 q ∧ B wS wr) (fun i _ => 6 - (intOf i).toNat)
  case atStart => exact ⟨0, Nat.zero_le _, rfl, Below.refl _ _⟩
  case round =>
    obtain ⟨q, hq, rfl, hR⟩ := hrel
    by_cases hlt : q < 6
    · obtain ⟨x1, x2, x3⟩ := hS.2 q hlt
      have y1 := hR.cell x1
      have y2 := hR.cell x2
      have cOK := cT x3
      clear x1 x2
      generalize (E q).1 = L at *
      generalize (E q).2 = N at *
      have hLB := tB x3
      have hlt' : (q : Int) < 6 := by omega
      go_wp2_with fail
      refine (check35 _ _ _).mono ?_
      rintro e w5 ⟨rfl, hb5⟩
      have o5 := Own2.mk.later hb5
      have hR5 := hR.trans ((B.alloc' _ _).trans hb5)
      have hb4 : wS.heap.size ≤ wr.heap.size := hR.size
      clear hb5 hR y1 y2
      generalize wr.heap.size = b4 at *
      obtain ⟨c1, c2, c3, c4, c5⟩ := id o5
      go_wp2_with fail
      clear c1 c2 c3 c4 c5
      go_loopw [34] (fun i wi => ∃ p : Nat, (p : Int) ≤ N ∧ i = .int .i64 p ∧ Own2 wi b4 (.int .i64 L) (.int .i64 (N - p)) ∧ B wS wi) (fun i _ => (N - intOf i).toNat)
      case atStart => exact ⟨0, by omega, rfl, by simpa using o5, hR5⟩
      case round =>
        clear o5 hR5
        obtain ⟨p, hp, rfl, o5, hR5⟩ := hrel
        obtain ⟨c1, c2, c3, c4, c5⟩ := id o5
        by_cases hpn : (p : Int) < N
        · have T := Lib.hid (tickOK (tOK_le (k' := N - p) x3 (by omega) (by omega)) (by omega))
          clear x3 cOK
          by_cases hr1 : N - (p : Int) = 1
          · have q1 : (N - (p : Int) == 1) = true := by simpa using hr1
            have q2 : ((p : Int) == N - 1) = true := by simp; omega
            clear hr1
            go_wp2_with fail
            refine (tick30 _ _ _).mono ?_
            rintro e w6 ⟨rfl, hb6⟩
            simp only [T.out.1, T.out.2.1, T.out.2.2.1]
            have o6 := (o5.later hb6).alloc (.cells #[.int .i64 L, .int .i64 (N - p - 1)] 35)
            have oy : Own2 (w6.alloc (.cells #[.int .i64 L, .int .i64 (N - p - 1)] 35)) w6.heap.size _ _ := Own2.mk
            have hR6 := (hR5.trans hb6).trans (B.alloc' _ (.cells #[.int .i64 L, .int .i64 (N - p - 1)] 35))
            clear c1 c2 c3 c4 c5 o5 hR5 hb6
            obtain ⟨c1, c2, c3, c4, c5⟩ := id o6
            obtain ⟨d1, d2, d3, d4, d5⟩ := id oy
            have k1 := T.out.2.2.2.1
            go_wp2_with fail
            refine (check35 _ _ _).mono ?_
            rintro e w7 ⟨rfl, hb7⟩
            have o7 := o6.later hb7
            have oz := oy.later hb7
            have hR7 := hR6.trans hb7
            clear c1 c2 c3 c4 c5 o6 d1 d2 d3 d4 d5 oy hR6 hb7
            obtain ⟨c1, c2, c3, c4, c5⟩ := id o7
            obtain ⟨d1, d2, d3, d4, d5⟩ := id oz
            go_wp2_with fail
            refine (runs45 _ _ _).mono ?_
            rintro e w8 ⟨rfl, hb8⟩
            have k2 := T.out.2.2.2.2
            have o8 := o7.later hb8
            have oy := oz.later hb8
            have hR8 := hR7.trans hb8
            clear c1 c2 c3 c4 c5 o7 d1 d2 d3 d4 d5 oz hR7 hb8 k1
            obtain ⟨c1, c2, c3, c4, c5⟩ := id o8
            obtain ⟨d1, d2, d3, d4, d5⟩ := id oy
            simp only [k2]
            go_wp2_with fail
            go_roundw
            case rel => exact ⟨p + 1, by omega, by go_num, by have := o8.set (.int .i64 L) (.int .i64 (N - p - 1)); rw [show N - ((p + 1 : Nat) : Int) = N - p - 1 by omega]; exact this, (hR8.setCell hb4 _).setCell hb4 _⟩
            case measure => simp [intOf]; omega
          · have q1 : (N - (p : Int) == 1) = false := by simpa using hr1
            have q2 : ((p : Int) == N - 1) = false := by simp; omega
            clear hr1
            go_wp2_with fail
            refine (tick30 _ _ _).mono ?_
            rintro e w6 ⟨rfl, hb6⟩
            simp only [T.out.1, T.out.2.1, T.out.2.2.1]
            have o6 := (o5.later hb6).alloc (.cells #[.int .i64 L, .int .i64 (N - p - 1)] 35)
            have oy : Own2 (w6.alloc (.cells #[.int .i64 L, .int .i64 (N - p - 1)] 35)) w6.heap.size _ _ := Own2.mk
            have hR6 := (hR5.trans hb6).trans (B.alloc' _ (.cells #[.int .i64 L, .int .i64 (N - p - 1)] 35))
            clear c1 c2 c3 c4 c5 o5 hR5 hb6
            obtain ⟨c1, c2, c3, c4, c5⟩ := id o6
            obtain ⟨d1, d2, d3, d4, d5⟩ := id oy
            have k1 := T.out.2.2.2.1
            go_wp2_with fail
            refine (check35 _ _ _).mono ?_
            rintro e w7 ⟨rfl, hb7⟩
            have o7 := o6.later hb7
            have oz := oy.later hb7
            have hR7 := hR6.trans hb7
            clear c1 c2 c3 c4 c5 o6 d1 d2 d3 d4 d5 oy hR6 hb7
            obtain ⟨c1, c2, c3, c4, c5⟩ := id o7
            obtain ⟨d1, d2, d3, d4, d5⟩ := id oz
            go_wp2_with fail
            refine (runs45 _ _ _).mono ?_
            rintro e w8 ⟨rfl, hb8⟩
            have k2 := T.out.2.2.2.2
            have o8 := o7.later hb8
            have oy := oz.later hb8
            have hR8 := hR7.trans hb8
            clear c1 c2 c3 c4 c5 o7 d1 d2 d3 d4 d5 oz hR7 hb8 k1
            obtain ⟨c1, c2, c3, c4, c5⟩ := id o8
            obtain ⟨d1, d2, d3, d4, d5⟩ := id oy
            simp only [k2]
            go_wp2_with fail
            go_roundw
            case rel => exact ⟨p + 1, by omega, by go_num, by have := o8.set (.int .i64 L) (.int .i64 (N - p - 1)); rw [show N - ((p + 1 : Nat) : Int) = N - p - 1 by omega]; exact this, (hR8.setCell hb4 _).setCell hb4 _⟩
            case measure => simp [intOf]; omega
        · have hpe : N - (p : Int) = 0 := by omega
          rw [hpe] at c2 o5
          have hr0 := restOK (tOK_le (k' := 0) x3 (by omega) (by omega))
          clear hpe
          go_wp2_with fail
          refine (runs45 _ _ _).mono ?_
          rintro e w8 ⟨rfl, hb8⟩
          have hR8 := hR5.trans hb8
          simp only [hr0]
          clear c1 c2 c3 c4 c5 o5 hR5 hb8 cOK x3
          go_wp2_with fail
          go_roundw
          case rel => exact ⟨q + 1, by omega, by go_num, hR8⟩
          case measure => simp [intOf]; omega
    · have hlt' : ¬ (q : Int) < 6 := by omega
      go_wp2_with fail
      go_ret
      exact ⟨rfl, hW.trans hR⟩

theorem timerStays_own : ownKnob Try.prog.godebug = none := by kernel_rfl
theorem timerStays_laid : laidOutB Try.prog = true := by kernel_rfl

set_option maxRecDepth 100000 in
theorem timerStays_contract (H : Type) (enc : TypeId × Value → H) (W : World) (base : Nat) (args : Array Value) (ds gs : List (DataW H)) (before : List MemPlace)
    (hval : ∀ (j : Nat) t v, Try.f6.params[j]? = some t → args[j]? = some v → Value.okWide Try.prog W .any base t v)
    (hW : DataW.Whole enc Try.prog Try.f6.params.toList Rows.timerStaysSpec.vars false W args.toList ds gs before) :
    Calls Try.prog 6 args W fun e W' => ∃ v, e = .returned v ∧ Rows.timerStaysSpec.post enc Try.prog Try.f6 false true false false W args v W' := by
  have hW' := hW
  obtain ⟨p, q, hA0, hV, rfl, hfz, hnd⟩ := hW
  have hA : DataW.TrodAll enc Try.prog W 0 (fun _ => true) true Try.f6.params.toList args.toList ds p := hA0
  rw [Try.params6] at hA hval
  obtain ⟨rfl, rfl⟩ := trodVars_none hV
  obtain ⟨v0, vs0, d0, ds0, p0, q0, hargs, rfl, rfl, h0, r0⟩ := trodAll_cons hA
  obtain ⟨rfl, rfl, rfl⟩ := trodAll_nil r0
  obtain rfl : args = #[v0] := by cases args; simp_all
  obtain ⟨c0, c1, y0, y1, m, rfl, rfl, rfl, hy0, hy1⟩ := open_agg2 Try.underlying35 (by kernel_rfl) (by kernel_rfl) (hval 0 35 v0 rfl rfl) h0
  obtain ⟨a, e0, rfl, wa⟩ := DataW.trod_int Try.underlying3 hy0
  obtain ⟨b, e1, rfl, wb⟩ := DataW.trod_int Try.underlying3 hy1
  simp at e0 e1
  subst e0 e1
  refine (timerStays_walk _ _ W).mono fun e W' ⟨he, hg⟩ => ?_
  subst he
  exact ⟨_, rfl, law_post timerStays_laid (by kernel_rfl) rfl ⟨rfl, rfl, rfl⟩ (tb := 4) (by kernel_rfl) Try.underlying4 hW' hg⟩

set_option maxRecDepth 100000 in
theorem timerStays_lifted (os : Os) (started : os.Started) (H : Type) (enc : TypeId × Value → H) :
    ReturnsInHanded {} Try.checked os 6 .any (Rows.timerStaysSpec.pre6 enc Try.prog Try.f6 Rows.timerStaysRow.domain false) (Rows.timerStaysSpec.post enc Try.prog Try.f6 false true false false) := by
  refine returnsInHanded_of_change (C := Try.checked) timerStays_own started (by kernel_rfl) Try.func6
    (ChangeSpec.witness6 (enc := enc) (C := Try.checked) false ⟨#[], #[.agg #[.int .i64 0, .int .i64 0]], []⟩ 8 (by kernel_rfl) (by kernel_rfl) (by kernel_rfl) (by kernel_rfl)) ?_
  intro W base args ds gs before hval hW _ _
  exact timerStays_contract H enc W base args ds gs before hval hW

theorem timerStays_holds : Rows.TimerStaysSaid :=
  OpenClaim.holds_of_wide 6 Try.f6 rfl rfl rfl rfl rfl rfl rfl ⟨rfl, rfl, rfl, rfl, rfl⟩ rfl rfl rfl rfl rfl (by kernel_rfl) Try.func6 (by kernel_rfl)
    (of_decide_eq_true (by kernel_rfl)) (by unfold Func.isWrapper; first | (rw [if_pos (by decide +kernel)]; kernel_rfl) | (rw [if_neg (by decide +kernel)]; exact ⟨rfl, rfl⟩))
    (fun os started H enc _ => timerStays_lifted os started H enc)

end Go.Proofs.Ythgpkbhilkdckaa
