/- 'bullalaw17.TimerDoes': whatever the timer and the number, the program's functions answer what the reference's answer, and the law returns true. No condition. -/
import Derived.Test.YthgpkbhilkdckaaTj
import Derived.Test.YthgpkbhilkdckaaB1
namespace Go.Proofs.Ythgpkbhilkdckaa
open Go.ChangeShapes Go.WideShapes Go.ChangeAt Go.RowKit Go.Joins
set_option linter.unusedVariables false

set_option maxRecDepth 100000 in
set_option maxHeartbeats 2000000 in
theorem timerDoes_walk (l k n : Int) (w : World) : Calls Try.prog 5 #[.agg #[.int .i64 l, .int .i64 k], .int .i64 n] w fun e w' => e = .returned (.bool true) ∧ B w w' := by
  go_enter Try.func5, Try.ntmps5
  go_wp2_with fail
  refine (tick30 _ _ _).mono ?_
  rintro e w1 ⟨rfl, hb1⟩
  have o0 := Own2.mk.later hb1
  obtain ⟨c1, c2, c3, c4, c5⟩ := id o0
  go_wp2_with fail
  refine (tick33 _ _ _).mono ?_
  rintro e w2 ⟨rfl, hb2⟩
  have o1 := (o0.alloc _).later hb2
  have oa := Own2.mk.later hb2
  clear c1 c2 c3 c4 c5 o0
  obtain ⟨c1, c2, c3, c4, c5⟩ := id o1
  obtain ⟨d1, d2, d3, d4, d5⟩ := id oa
  go_wp2_with fail
  have hs : ∀ w', B (w2.alloc (Obj.cells #[Value.int IntKind.i64 (mL l k), Value.int IntKind.i64 (tK l k)] 35)) w' → Own2 w' w.heap.size (.int .i64 l) (.int .i64 k) ∧ Own2 w' w1.heap.size (.int .i64 (mL l k)) (.int .i64 (tK l k)) ∧ Own2 w' w2.heap.size (.int .i64 (mL l k)) (.int .i64 (tK l k)) :=
    fun w' h => ⟨(o1.alloc _).later h, (oa.alloc _).later h, Own2.mk.later h⟩
  have hB : B w (w2.alloc (Obj.cells #[Value.int IntKind.i64 (mL l k), Value.int IntKind.i64 (tK l k)] 35)) := ((((B.alloc' _ _).trans hb1).trans (B.alloc' _ _)).trans hb2).trans (B.alloc' _ _)
  have l1 : ∀ w', B (w2.alloc (Obj.cells #[Value.int IntKind.i64 (mL l k), Value.int IntKind.i64 (tK l k)] 35)) w' → w'.cell? ⟨w.heap.size, 0, none⟩ = some (.int .i64 l) := fun w' h => (hs w' h).1.1
  have l2 : ∀ w', B (w2.alloc (Obj.cells #[Value.int IntKind.i64 (mL l k), Value.int IntKind.i64 (tK l k)] 35)) w' → w'.cell? ⟨w.heap.size, 1, none⟩ = some (.int .i64 k) := fun w' h => (hs w' h).1.2.1
  have l3 : ∀ w', B (w2.alloc (Obj.cells #[Value.int IntKind.i64 (mL l k), Value.int IntKind.i64 (tK l k)] 35)) w' → w'.cell? ⟨w1.heap.size, 0, none⟩ = some (.int .i64 (mL l k)) := fun w' h => (hs w' h).2.1.1
  have l4 : ∀ w', B (w2.alloc (Obj.cells #[Value.int IntKind.i64 (mL l k), Value.int IntKind.i64 (tK l k)] 35)) w' → w'.cell? ⟨w1.heap.size, 1, none⟩ = some (.int .i64 (tK l k)) := fun w' h => (hs w' h).2.1.2.1
  have l5 : ∀ w', B (w2.alloc (Obj.cells #[Value.int IntKind.i64 (mL l k), Value.int IntKind.i64 (tK l k)] 35)) w' → w'.cell? ⟨w2.heap.size, 0, none⟩ = some (.int .i64 (mL l k)) := fun w' h => (hs w' h).2.2.1
  have l6 : ∀ w', B (w2.alloc (Obj.cells #[Value.int IntKind.i64 (mL l k), Value.int IntKind.i64 (tK l k)] 35)) w' → w'.cell? ⟨w2.heap.size, 1, none⟩ = some (.int .i64 (tK l k)) := fun w' h => (hs w' h).2.2.2.1
  clear hs c1 c2 c3 c4 c5 d1 d2 d3 d4 d5 o1 oa hb1 hb2
  simp only [List.append_eq, List.cons_append, List.nil_append]
  go_region_held3 (fun w' => B (w2.alloc (Obj.cells #[Value.int IntKind.i64 (mL l k), Value.int IntKind.i64 (tK l k)] 35)) w') (first | exact B.trans (by assumption) hb | exact (Below.refl _ _).drew | assumption) (first | (go_at_call 29; refine (new29 _).mono ?_; rintro e wn ⟨rfl, hb⟩) | (go_at_call 34; refine (new34 _).mono ?_; rintro e wn ⟨rfl, hb⟩) | (go_at_call 27; refine (live27 _).mono ?_; rintro e wn ⟨rfl, hb⟩) | (go_at_call 35; refine (check35 _ _ _).mono ?_; rintro e wn ⟨rfl, hb⟩) | (go_at_call 36; refine (check36 _ _ _).mono ?_; rintro e wn ⟨rfl, hb⟩) | (go_at_call 28; refine (start28 _ _ _).mono ?_; rintro e wn ⟨rfl, hb⟩) | (go_at_call 37; refine (start37 _ _ _).mono ?_; rintro e wn ⟨rfl, hb⟩) | (go_at_call 38; refine (again38 _ _ _).mono ?_; rintro e wn ⟨rfl, hb⟩) | (go_at_call 39; refine (again39 _ _ _).mono ?_; rintro e wn ⟨rfl, hb⟩) | (go_at_call 40; refine (stop40 _ _ _).mono ?_; rintro e wn ⟨rfl, hb⟩) | (go_at_call 41; refine (stop41 _ _ _).mono ?_; rintro e wn ⟨rfl, hb⟩) | (go_at_call 31; refine (double31 _ _ _).mono ?_; rintro e wn ⟨rfl, hb⟩) | (go_at_call 42; refine (double42 _ _ _).mono ?_; rintro e wn ⟨rfl, hb⟩) | (go_at_call 43; refine (calm43 _ _ _).mono ?_; rintro e wn ⟨rfl, hb⟩) | (go_at_call 44; refine (calm44 _ _ _).mono ?_; rintro e wn ⟨rfl, hb⟩) | (go_at_call 45; refine (runs45 _ _ _).mono ?_; rintro e wn ⟨rfl, hb⟩) | (go_at_call 46; refine (runs46 _ _ _).mono ?_; rintro e wn ⟨rfl, hb⟩) | (go_at_call 32; refine (total32 _ _).mono ?_; rintro e wn ⟨rfl, hb⟩) | (go_at_call 47; refine (total47 _ _).mono ?_; rintro e wn ⟨rfl, hb⟩) )
  go_wp2
  go_ret
  exact ⟨rfl, hB.trans ‹_›⟩

theorem timerDoes_own : ownKnob Try.prog.godebug = none := by kernel_rfl
theorem timerDoes_laid : laidOutB Try.prog = true := by kernel_rfl

set_option maxRecDepth 100000 in
theorem timerDoes_contract (H : Type) (enc : TypeId × Value → H) (W : World) (base : Nat) (args : Array Value) (ds gs : List (DataW H)) (before : List MemPlace)
    (hval : ∀ (j : Nat) t v, Try.f5.params[j]? = some t → args[j]? = some v → Value.okWide Try.prog W .any base t v)
    (hW : DataW.Whole enc Try.prog Try.f5.params.toList Rows.timerDoesSpec.vars false W args.toList ds gs before) :
    Calls Try.prog 5 args W fun e W' => ∃ v, e = .returned v ∧ Rows.timerDoesSpec.post enc Try.prog Try.f5 false true false false W args v W' := by
  have hW' := hW
  obtain ⟨p, q, hA0, hV, rfl, hfz, hnd⟩ := hW
  have hA : DataW.TrodAll enc Try.prog W 0 (fun _ => true) true Try.f5.params.toList args.toList ds p := hA0
  rw [Try.params5] at hA hval
  obtain ⟨rfl, rfl⟩ := trodVars_none hV
  obtain ⟨v0, vs0, d0, ds0, p0, q0, hargs, rfl, rfl, h0, r0⟩ := trodAll_cons hA
  obtain ⟨v1, vs1, d1, ds1, p1, q1, rfl, rfl, rfl, h1, r1⟩ := trodAll_cons r0
  obtain ⟨rfl, rfl, rfl⟩ := trodAll_nil r1
  obtain rfl : args = #[v0, v1] := by cases args; simp_all
  obtain ⟨c0, c1, y0, y1, m, rfl, rfl, rfl, hy0, hy1⟩ := open_agg2 Try.underlying35 (by kernel_rfl) (by kernel_rfl) (hval 0 35 v0 rfl rfl) h0
  obtain ⟨a, e0, rfl, wa⟩ := DataW.trod_int Try.underlying3 hy0
  obtain ⟨b, e1, rfl, wb⟩ := DataW.trod_int Try.underlying3 hy1
  simp at e0 e1
  subst e0 e1
  obtain ⟨n, rfl, rfl, rfl, wn⟩ := open_int Try.underlying3 (hval 1 3 v1 rfl rfl) h1
  refine (timerDoes_walk _ _ _ W).mono fun e W' ⟨he, hg⟩ => ?_
  subst he
  exact ⟨_, rfl, law_post timerDoes_laid (by kernel_rfl) rfl ⟨rfl, rfl, rfl⟩ (tb := 4) (by kernel_rfl) Try.underlying4 hW' hg⟩

set_option maxRecDepth 100000 in
theorem timerDoes_lifted (os : Os) (started : os.Started) (H : Type) (enc : TypeId × Value → H) :
    ReturnsInHanded {} Try.checked os 5 .any (Rows.timerDoesSpec.pre6 enc Try.prog Try.f5 Rows.timerDoesRow.domain false) (Rows.timerDoesSpec.post enc Try.prog Try.f5 false true false false) := by
  refine returnsInHanded_of_change (C := Try.checked) timerDoes_own started (by kernel_rfl) Try.func5
    (ChangeSpec.witness6 (enc := enc) (C := Try.checked) false ⟨#[], #[.agg #[.int .i64 0, .int .i64 0], .int .i64 0], []⟩ 8 (by kernel_rfl) (by kernel_rfl) (by kernel_rfl) (by kernel_rfl)) ?_
  intro W base args ds gs before hval hW _ _
  exact timerDoes_contract H enc W base args ds gs before hval hW

theorem timerDoes_holds : Rows.TimerDoesSaid :=
  OpenClaim.holds_of_wide 5 Try.f5 rfl rfl rfl rfl rfl rfl rfl ⟨rfl, rfl, rfl, rfl, rfl⟩ rfl rfl rfl rfl rfl (by kernel_rfl) Try.func5 (by kernel_rfl)
    (of_decide_eq_true (by kernel_rfl)) (by unfold Func.isWrapper; first | (rw [if_pos (by decide +kernel)]; kernel_rfl) | (rw [if_neg (by decide +kernel)]; exact ⟨rfl, rfl⟩))
    (fun os started H enc _ => timerDoes_lifted os started H enc)

end Go.Proofs.Ythgpkbhilkdckaa
