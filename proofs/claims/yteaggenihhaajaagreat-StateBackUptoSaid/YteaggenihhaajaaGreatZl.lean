/- StateBack: any core of bulk at most 1048576 is read as it was written, and of what any bytes of bulk at most 1048576 say the same bytes are written: the law returns true and leaves what it was handed as it was. -/
import Derived.Test.YteaggenihhaajaaGreatZk20
/- StateBack: the contract, lifted. -/
namespace Go.Proofs.YteaggenihhaajaaGreat
open Go.ChangeShapes Go.WideShapes Go.ChangeAt Go.RowKit Go.Deep Go.Joins
set_option linter.unusedVariables false

theorem stateBack_own : ownKnob Tryz.prog.godebug = none := by kernel_rfl
theorem stateBack_laid : laidOutB Tryz.prog = true := by kernel_rfl

set_option maxRecDepth 100000 in
theorem stateBack_contract (H : Type) (enc : TypeId × Value → H) (W : World) (base : Nat) (args : Array Value) (ds gs : List (DataW H)) (before : List MemPlace)
    (hval : ∀ (j : Nat) t v, Tryz.f3.params[j]? = some t → args[j]? = some v → Value.okWide Tryz.prog W .any base t v)
    (hW : DataW.Whole enc Tryz.prog Tryz.f3.params.toList Rows.stateBackSpec.vars false W args.toList ds gs before) (hk : Rows.uptoSmall H (ds ++ gs) = true) :
    Calls Tryz.prog 3 args W fun e W' => ∃ v, e = .returned v ∧ Rows.stateBackSpec.post enc Tryz.prog Tryz.f3 false true false false W args v W' := by
  have hW' := hW
  obtain ⟨p, q, hA0, hV, rfl, hfz, hnd⟩ := hW
  have hA : DataW.TrodAll enc Tryz.prog W 0 (fun _ => true) true Tryz.f3.params.toList args.toList ds p := hA0
  rw [Tryz.params3] at hA hval
  obtain ⟨rfl, rfl⟩ := trodVars_none hV
  have hB := uptoBound hk
  rw [List.append_nil] at hB
  obtain ⟨v0, vs0, d0, ds0, p0, q0, hargs, rfl, rfl, h0, r0⟩ := trodAll_cons hA
  obtain ⟨v1, vs1, d1, ds1, p1, q1, rfl, rfl, rfl, h1, r1⟩ := trodAll_cons r0
  obtain ⟨rfl, rfl, rfl⟩ := trodAll_nil r1
  obtain rfl : args = #[v0, v1] := by cases args; simp_all
  simp only [Rows.uptoBulkAll] at hB
  obtain ⟨⟨c0⟩, rfl, _⟩ := okWide_struct Tryz.underlying45 (hval 0 45 _ rfl rfl)
  obtain ⟨a0, x0, z0⟩ := Opens.arg open_Core h0 (by omega)
  obtain ⟨A1, l1, k1, rfl⟩ := okWide_slice Tryz.underlying26 (hval 1 26 _ rfl rfl)
  obtain ⟨a1, x1, z1⟩ := Opens.arg (opensY Tryz.underlying26 Tryz.underlying5 (by kernel_rfl) (by kernel_rfl)) h1 (by omega)

  refine (stBack_c x0 x1 (by omega) (by rw [szY] at z1; omega)).mono fun e W' ⟨he, hg⟩ => ?_
  subst he
  exact ⟨_, rfl, law_post stateBack_laid (by kernel_rfl) rfl ⟨rfl, rfl, rfl⟩ (tb := 4) (by kernel_rfl) Tryz.underlying4 hW' hg⟩

set_option maxRecDepth 100000 in
theorem stateBack_lifted (os : Os) (started : os.Started) (H : Type) (enc : TypeId × Value → H) (F : Stop.Interp) :
    ReturnsInHanded {} Tryz.checked os 3 .any ((Rows.OpenSpec.upto Rows.stateBackSpec).pre6 enc Tryz.prog Tryz.f3 Rows.stateBackUptoRow.domain false) (((Rows.OpenSpec.upto Rows.stateBackSpec).at F).post enc Tryz.prog Tryz.f3 false true false false) := by
  refine returnsInHanded_of_cond (C := Tryz.checked) (s := Rows.OpenSpec.upto Rows.stateBackSpec) (k := Rows.uptoSmall) rfl stateBack_own started (by kernel_rfl) Tryz.func3
    (OpenSpec.witness (enc := enc) (C := Tryz.checked) (s := Rows.OpenSpec.upto Rows.stateBackSpec) (k := Rows.uptoSmall) rfl false ⟨#[], #[.agg #[.int .i64 0, .bool false, .int .i64 0, .int .i64 0, .int .i64 0, .int .i64 0, .int .i64 0, .int .i64 0, .int .i64 0, .slice none 0 0, .slice none 0 0, .int .i64 0, .int .i64 0, .slice none 0 0, .slice none 0 0, .slice none 0 0, .slice none 0 0, .slice none 0 0, .slice none 0 0, .slice none 0 0, .slice none 0 0, .slice none 0 0, .int .i64 0, .int .i64 0, .slice none 0 0, .int .i64 0], .slice none 0 0], []⟩ 8 (by kernel_rfl) (by kernel_rfl) (by kernel_rfl)
      (x := ([.agg [.lit (.int .i64 0), .lit (.bool false), .lit (.int .i64 0), .lit (.int .i64 0), .agg [.lit (.int .i64 0), .lit (.int .i64 0), .lit (.int .i64 0), .lit (.int .i64 0), .lit (.int .i64 0)], .nil, .nil, .agg [.agg [.lit (.int .i64 0), .lit (.int .i64 0), .nil], .nil, .nil], .nil, .nil, .nil, .nil, .nil, .agg [.nil], .agg [.lit (.int .i64 0), .lit (.int .i64 0)], .nil, .lit (.int .i64 0)], .nil], [], [])) (by kernel_rfl) rfl (by kernel_rfl)) ?_
  intro W base args ds gs before hval hW _ hk _
  exact stateBack_contract H enc W base args ds gs before hval hW hk

end Go.Proofs.YteaggenihhaajaaGreat

/- StateBack: the row's closed facts. -/
namespace Go.Proofs.YteaggenihhaajaaGreat
open Go.ChangeShapes Go.WideShapes Go.ChangeAt Go.RowKit Go.Deep Go.Joins
set_option linter.unusedVariables false
theorem andPb {a b : Bool} (h : a = true) (k : b = true) : (a && b) = true := by rw [h, k]; rfl
/-! StateBack's facts, one by one: together they are more than the kernel may hold -/
theorem stateBack_x0 : (Rows.stateBackUptoRow.wf (OpenSpec.ofChange (Rows.OpenSpec.upto Rows.stateBackSpec).bare)) = true := by kernel_rfl
theorem stateBack_x1 : (laidOutB Tryz.checked.prog) = true := by kernel_rfl
theorem stateBack_x2 : (mapsRowed Tryz.checked.prog) = true := by kernel_rfl
theorem stateBack_x3 : (Tryz.f3.params.all (Tryz.checked.prog.readableRec ·)) = true := by kernel_rfl
theorem stateBack_x4 : (namedTie Tryz.checked.prog Rows.stateBackUptoRow.named (Rows.OpenSpec.upto Rows.stateBackSpec).bare.vars) = true := by kernel_rfl
theorem stateBack_x5 : ((Rows.stateBackUptoRow.stops == [])) = true := by kernel_rfl
theorem stateBack_x6 : ((Tryz.checked.prog.stops == [])) = true := by kernel_rfl
theorem stateBack_x7 : ((Rows.stateBackUptoRow.knobs == [])) = true := by kernel_rfl
theorem stateBack_x8 : ((Tryz.checked.prog.stopKnobs == [])) = true := by kernel_rfl
theorem stateBack_x9 : ((Rows.stateBackUptoRow.inPlace == Tryz.checked.prog.inPlace 3)) = true := by kernel_rfl
theorem stateBack_x10 : ((Rows.stateBackUptoRow.unfollowed == Tryz.checked.prog.unfollowed 3)) = true := by kernel_rfl
theorem stateBack_x11 : ((Rows.stateBackUptoRow.recurses == Tryz.checked.prog.recurses 3)) = true := by kernel_rfl
theorem stateBack_x12 : ((Rows.stateBackUptoRow.named == Tryz.checked.prog.varsNamed 3)) = true := by kernel_rfl
theorem stateBack_x13 : ((Rows.stateBackUptoRow.maps == (Tryz.f3.params.toList ++ (Rows.OpenSpec.upto Rows.stateBackSpec).bare.plain.varTypes Tryz.checked.prog).any (Tryz.checked.prog.mapsRec ·))) = true := by kernel_rfl
theorem stateBack_x14 : ((Rows.stateBackUptoRow.ifaces == (Tryz.f3.params.toList ++ (Rows.OpenSpec.upto Rows.stateBackSpec).bare.plain.varTypes Tryz.checked.prog).any (Tryz.checked.prog.ifacesRec ·))) = true := by kernel_rfl
theorem stateBack_x15 : ((Rows.stateBackUptoRow.mapsOut == Tryz.checked.prog.mapsAmong Tryz.f3.resultTypes.toList)) = true := by kernel_rfl
theorem stateBack_x16 : ((Rows.stateBackUptoRow.loops == (Tryz.f3.params.toList ++ (Rows.OpenSpec.upto Rows.stateBackSpec).bare.plain.varTypes Tryz.checked.prog).any (Tryz.checked.prog.loopsFrom ·))) = true := by kernel_rfl
theorem stateBack_x17 : ((Rows.stateBackUptoRow.wideKeys == (Tryz.f3.params.toList ++ (Rows.OpenSpec.upto Rows.stateBackSpec).bare.plain.varTypes Tryz.checked.prog ++ Tryz.f3.resultTypes.toList).any (Tryz.checked.prog.wideKeysFrom ·))) = true := by kernel_rfl
theorem stateBack_x18 : ((Rows.OpenSpec.upto Rows.stateBackSpec).bare.vars.all (Tryz.checked.prog.varReadable ·)) = true := by kernel_rfl
theorem stateBack_x19 : (Tryz.f3.resultTypes.all (fun t => Tryz.checked.prog.readableRec t && decide (t < Tryz.checked.prog.types.size))) = true := by kernel_rfl
theorem stateBack_x20 : ((Rows.stateBackUptoRow.ifacesOut == Tryz.f3.resultTypes.toList.any (Tryz.checked.prog.ifacesRec ·))) = true := by kernel_rfl
theorem stateBack_x21 : ((Rows.stateBackUptoRow.loopsOut == Tryz.f3.resultTypes.toList.any (Tryz.checked.prog.loopsFrom ·))) = true := by kernel_rfl
theorem stateBack_x22 : ((Rows.stateBackUptoRow.plainKeys == Tryz.checked.prog.plainKeys)) = true := by kernel_rfl
theorem stateBack_x23 : (Rows.stateBackUptoRow.shortTexts.isNone) = true := by kernel_rfl
theorem stateBack_x24 : (Tryz.checked.prog.stopsHeard) = true := by kernel_rfl
theorem stateBack_x25 : (Tryz.checked.prog.mayEnter) = true := by kernel_rfl
theorem stateBack_x26 : ((Rows.stateBackUptoRow.lifted == Tryz.checked.prog.liftsFinal)) = true := by kernel_rfl
theorem stateBack_x27 : ((Tryz.checked.prog.make == some Rows.stateBackUptoRow.make)) = true := by kernel_rfl
theorem stateBack_x29 : ((Rows.stateBackUptoRow.pinned == Rows.stateBackUptoRow.pinnedBy)) = true := by kernel_rfl
theorem stateBack_x30 : ((Rows.stateBackUptoRow.veiled == (Tryz.f3.params.toList ++ (Rows.OpenSpec.upto Rows.stateBackSpec).bare.plain.varTypes Tryz.checked.prog ++ Tryz.f3.resultTypes.toList).any (Tryz.checked.prog.veiledRec ·))) = true := by kernel_rfl
theorem stateBack_x31 : (Rows.stateBackUptoRow.veiledFits Tryz.checked.prog Tryz.f3.params.toList (Tryz.f3.params.toList ++ (Rows.OpenSpec.upto Rows.stateBackSpec).bare.plain.varTypes Tryz.checked.prog ++ Tryz.f3.resultTypes.toList)) = true := by kernel_rfl
theorem stateBack_facts : joinedFacts Tryz.checked.prog 3 Tryz.f3 (Rows.OpenSpec.upto Rows.stateBackSpec).bare Rows.stateBackUptoRow = true := by
  unfold joinedFacts
  exact (andPb (andPb (andPb (andPb (andPb (andPb (andPb (andPb (andPb (andPb (andPb (andPb (andPb (andPb (andPb (andPb (andPb (andPb (andPb (andPb (andPb (andPb (andPb (andPb (andPb (andPb (andPb (andPb (andPb (andPb (andPb stateBack_x0 stateBack_x1) stateBack_x2) stateBack_x3) stateBack_x4) stateBack_x5) stateBack_x6) stateBack_x7) stateBack_x8) stateBack_x9) stateBack_x10) stateBack_x11) stateBack_x12) stateBack_x13) stateBack_x14) stateBack_x15) stateBack_x16) stateBack_x17) stateBack_x18) stateBack_x19) stateBack_x20) stateBack_x21) stateBack_x22) stateBack_x23) stateBack_x24) stateBack_x25) stateBack_x26) stateBack_x27) (by kernel_rfl)) stateBack_x29) stateBack_x30) stateBack_x31)

end Go.Proofs.YteaggenihhaajaaGreat

/- StateBack: any core of bulk at most 1048576 is read as it was written, and of what any bytes of bulk at most 1048576 say the same bytes are written: the law returns true and leaves what it was handed as it was. -/
namespace Go.Proofs.YteaggenihhaajaaGreat
open Go.ChangeShapes Go.WideShapes Go.ChangeAt Go.RowKit Go.Deep Go.Joins
set_option linter.unusedVariables false
theorem stateBackUpto_holds : Rows.StateBackUptoSaid :=
  OpenClaim.holds_of_cond 3 Tryz.f3 rfl rfl rfl rfl rfl rfl rfl ⟨rfl, rfl, rfl, rfl, rfl⟩ rfl rfl rfl rfl rfl (by kernel_rfl) Tryz.func3 stateBack_facts
    (of_decide_eq_true (by kernel_rfl)) (by unfold Func.isWrapper; first | (rw [if_pos (by decide +kernel)]; kernel_rfl) | (rw [if_neg (by decide +kernel)]; exact ⟨rfl, rfl⟩))
    (fun os started H enc _ F => stateBack_lifted os started H enc F)

end Go.Proofs.YteaggenihhaajaaGreat
