/- StateBytes: for any core of bulk at most 1048576, the program and the document write the same bytes, or both none, for the same reason: the law returns true and leaves what it was handed as it was. -/
import Derived.Test.YteaggenihhaajaaGreatZe2
/- StateBytes: the contract, lifted. -/
namespace Go.Proofs.YteaggenihhaajaaGreat
open Go.ChangeShapes Go.WideShapes Go.ChangeAt Go.RowKit Go.Deep Go.Joins
set_option linter.unusedVariables false

theorem stateBytes_own : ownKnob Tryz.prog.godebug = none := by kernel_rfl
theorem stateBytes_laid : laidOutB Tryz.prog = true := by kernel_rfl

set_option maxRecDepth 100000 in
theorem stateBytes_contract (H : Type) (enc : TypeId × Value → H) (W : World) (base : Nat) (args : Array Value) (ds gs : List (DataW H)) (before : List MemPlace)
    (hval : ∀ (j : Nat) t v, Tryz.f5.params[j]? = some t → args[j]? = some v → Value.okWide Tryz.prog W .any base t v)
    (hW : DataW.Whole enc Tryz.prog Tryz.f5.params.toList Rows.stateBytesSpec.vars false W args.toList ds gs before) (hk : Rows.uptoSmall H (ds ++ gs) = true) :
    Calls Tryz.prog 5 args W fun e W' => ∃ v, e = .returned v ∧ Rows.stateBytesSpec.post enc Tryz.prog Tryz.f5 false true false false W args v W' := by
  have hW' := hW
  obtain ⟨p, q, hA0, hV, rfl, hfz, hnd⟩ := hW
  have hA : DataW.TrodAll enc Tryz.prog W 0 (fun _ => true) true Tryz.f5.params.toList args.toList ds p := hA0
  rw [Tryz.params5] at hA hval
  obtain ⟨rfl, rfl⟩ := trodVars_none hV
  have hB := uptoBound hk
  rw [List.append_nil] at hB
  obtain ⟨v0, vs0, d0, ds0, p0, q0, hargs, rfl, rfl, h0, r0⟩ := trodAll_cons hA
  obtain ⟨rfl, rfl, rfl⟩ := trodAll_nil r0
  obtain rfl : args = #[v0] := by cases args; simp_all
  simp only [Rows.uptoBulkAll] at hB
  obtain ⟨⟨c0⟩, rfl, _⟩ := okWide_struct Tryz.underlying45 (hval 0 45 _ rfl rfl)
  obtain ⟨a0, x0, z0⟩ := Opens.arg open_Core h0 (by omega)

  refine (stBytesLaw_c x0 (by omega)).mono fun e W' ⟨he, hg⟩ => ?_
  subst he
  exact ⟨_, rfl, law_post stateBytes_laid (by kernel_rfl) rfl ⟨rfl, rfl, rfl⟩ (tb := 4) (by kernel_rfl) Tryz.underlying4 hW' hg⟩

set_option maxRecDepth 100000 in
theorem stateBytes_lifted (os : Os) (started : os.Started) (H : Type) (enc : TypeId × Value → H) (F : Stop.Interp) :
    ReturnsInHanded {} Tryz.checked os 5 .any ((Rows.OpenSpec.upto Rows.stateBytesSpec).pre6 enc Tryz.prog Tryz.f5 Rows.stateBytesUptoRow.domain false) (((Rows.OpenSpec.upto Rows.stateBytesSpec).at F).post enc Tryz.prog Tryz.f5 false true false false) := by
  refine returnsInHanded_of_cond (C := Tryz.checked) (s := Rows.OpenSpec.upto Rows.stateBytesSpec) (k := Rows.uptoSmall) rfl stateBytes_own started (by kernel_rfl) Tryz.func5
    (OpenSpec.witness (enc := enc) (C := Tryz.checked) (s := Rows.OpenSpec.upto Rows.stateBytesSpec) (k := Rows.uptoSmall) rfl false ⟨#[], #[.agg #[.int .i64 0, .bool false, .int .i64 0, .int .i64 0, .int .i64 0, .int .i64 0, .int .i64 0, .int .i64 0, .int .i64 0, .slice none 0 0, .slice none 0 0, .int .i64 0, .int .i64 0, .slice none 0 0, .slice none 0 0, .slice none 0 0, .slice none 0 0, .slice none 0 0, .slice none 0 0, .slice none 0 0, .slice none 0 0, .slice none 0 0, .int .i64 0, .int .i64 0, .slice none 0 0, .int .i64 0]], []⟩ 8 (by kernel_rfl) (by kernel_rfl) (by kernel_rfl)
      (x := ([.agg [.lit (.int .i64 0), .lit (.bool false), .lit (.int .i64 0), .lit (.int .i64 0), .agg [.lit (.int .i64 0), .lit (.int .i64 0), .lit (.int .i64 0), .lit (.int .i64 0), .lit (.int .i64 0)], .nil, .nil, .agg [.agg [.lit (.int .i64 0), .lit (.int .i64 0), .nil], .nil, .nil], .nil, .nil, .nil, .nil, .nil, .agg [.nil], .agg [.lit (.int .i64 0), .lit (.int .i64 0)], .nil, .lit (.int .i64 0)]], [], [])) (by kernel_rfl) rfl (by kernel_rfl)) ?_
  intro W base args ds gs before hval hW _ hk _
  exact stateBytes_contract H enc W base args ds gs before hval hW hk

end Go.Proofs.YteaggenihhaajaaGreat

/- StateBytes: the row's closed facts. -/
namespace Go.Proofs.YteaggenihhaajaaGreat
open Go.ChangeShapes Go.WideShapes Go.ChangeAt Go.RowKit Go.Deep Go.Joins
set_option linter.unusedVariables false
theorem andVw {a b : Bool} (h : a = true) (k : b = true) : (a && b) = true := by rw [h, k]; rfl
/-! StateBytes's facts, one by one: together they are more than the kernel may hold -/
theorem stateBytes_x0 : (Rows.stateBytesUptoRow.wf (OpenSpec.ofChange (Rows.OpenSpec.upto Rows.stateBytesSpec).bare)) = true := by kernel_rfl
theorem stateBytes_x1 : (laidOutB Tryz.checked.prog) = true := by kernel_rfl
theorem stateBytes_x2 : (mapsRowed Tryz.checked.prog) = true := by kernel_rfl
theorem stateBytes_x3 : (Tryz.f5.params.all (Tryz.checked.prog.readableRec ·)) = true := by kernel_rfl
theorem stateBytes_x4 : (namedTie Tryz.checked.prog Rows.stateBytesUptoRow.named (Rows.OpenSpec.upto Rows.stateBytesSpec).bare.vars) = true := by kernel_rfl
theorem stateBytes_x5 : ((Rows.stateBytesUptoRow.stops == [])) = true := by kernel_rfl
theorem stateBytes_x6 : ((Tryz.checked.prog.stops == [])) = true := by kernel_rfl
theorem stateBytes_x7 : ((Rows.stateBytesUptoRow.knobs == [])) = true := by kernel_rfl
theorem stateBytes_x8 : ((Tryz.checked.prog.stopKnobs == [])) = true := by kernel_rfl
theorem stateBytes_x9 : ((Rows.stateBytesUptoRow.inPlace == Tryz.checked.prog.inPlace 5)) = true := by kernel_rfl
theorem stateBytes_x10 : ((Rows.stateBytesUptoRow.unfollowed == Tryz.checked.prog.unfollowed 5)) = true := by kernel_rfl
theorem stateBytes_x11 : ((Rows.stateBytesUptoRow.recurses == Tryz.checked.prog.recurses 5)) = true := by kernel_rfl
theorem stateBytes_x12 : ((Rows.stateBytesUptoRow.named == Tryz.checked.prog.varsNamed 5)) = true := by kernel_rfl
theorem stateBytes_x13 : ((Rows.stateBytesUptoRow.maps == (Tryz.f5.params.toList ++ (Rows.OpenSpec.upto Rows.stateBytesSpec).bare.plain.varTypes Tryz.checked.prog).any (Tryz.checked.prog.mapsRec ·))) = true := by kernel_rfl
theorem stateBytes_x14 : ((Rows.stateBytesUptoRow.ifaces == (Tryz.f5.params.toList ++ (Rows.OpenSpec.upto Rows.stateBytesSpec).bare.plain.varTypes Tryz.checked.prog).any (Tryz.checked.prog.ifacesRec ·))) = true := by kernel_rfl
theorem stateBytes_x15 : ((Rows.stateBytesUptoRow.mapsOut == Tryz.checked.prog.mapsAmong Tryz.f5.resultTypes.toList)) = true := by kernel_rfl
theorem stateBytes_x16 : ((Rows.stateBytesUptoRow.loops == (Tryz.f5.params.toList ++ (Rows.OpenSpec.upto Rows.stateBytesSpec).bare.plain.varTypes Tryz.checked.prog).any (Tryz.checked.prog.loopsFrom ·))) = true := by kernel_rfl
theorem stateBytes_x17 : ((Rows.stateBytesUptoRow.wideKeys == (Tryz.f5.params.toList ++ (Rows.OpenSpec.upto Rows.stateBytesSpec).bare.plain.varTypes Tryz.checked.prog ++ Tryz.f5.resultTypes.toList).any (Tryz.checked.prog.wideKeysFrom ·))) = true := by kernel_rfl
theorem stateBytes_x18 : ((Rows.OpenSpec.upto Rows.stateBytesSpec).bare.vars.all (Tryz.checked.prog.varReadable ·)) = true := by kernel_rfl
theorem stateBytes_x19 : (Tryz.f5.resultTypes.all (fun t => Tryz.checked.prog.readableRec t && decide (t < Tryz.checked.prog.types.size))) = true := by kernel_rfl
theorem stateBytes_x20 : ((Rows.stateBytesUptoRow.ifacesOut == Tryz.f5.resultTypes.toList.any (Tryz.checked.prog.ifacesRec ·))) = true := by kernel_rfl
theorem stateBytes_x21 : ((Rows.stateBytesUptoRow.loopsOut == Tryz.f5.resultTypes.toList.any (Tryz.checked.prog.loopsFrom ·))) = true := by kernel_rfl
theorem stateBytes_x22 : ((Rows.stateBytesUptoRow.plainKeys == Tryz.checked.prog.plainKeys)) = true := by kernel_rfl
theorem stateBytes_x23 : (Rows.stateBytesUptoRow.shortTexts.isNone) = true := by kernel_rfl
theorem stateBytes_x24 : (Tryz.checked.prog.stopsHeard) = true := by kernel_rfl
theorem stateBytes_x25 : (Tryz.checked.prog.mayEnter) = true := by kernel_rfl
theorem stateBytes_x26 : ((Rows.stateBytesUptoRow.lifted == Tryz.checked.prog.liftsFinal)) = true := by kernel_rfl
theorem stateBytes_x27 : ((Tryz.checked.prog.make == some Rows.stateBytesUptoRow.make)) = true := by kernel_rfl
theorem stateBytes_x29 : ((Rows.stateBytesUptoRow.pinned == Rows.stateBytesUptoRow.pinnedBy)) = true := by kernel_rfl
theorem stateBytes_x30 : ((Rows.stateBytesUptoRow.veiled == (Tryz.f5.params.toList ++ (Rows.OpenSpec.upto Rows.stateBytesSpec).bare.plain.varTypes Tryz.checked.prog ++ Tryz.f5.resultTypes.toList).any (Tryz.checked.prog.veiledRec ·))) = true := by kernel_rfl
theorem stateBytes_x31 : (Rows.stateBytesUptoRow.veiledFits Tryz.checked.prog Tryz.f5.params.toList (Tryz.f5.params.toList ++ (Rows.OpenSpec.upto Rows.stateBytesSpec).bare.plain.varTypes Tryz.checked.prog ++ Tryz.f5.resultTypes.toList)) = true := by kernel_rfl
theorem stateBytes_facts : joinedFacts Tryz.checked.prog 5 Tryz.f5 (Rows.OpenSpec.upto Rows.stateBytesSpec).bare Rows.stateBytesUptoRow = true := by
  unfold joinedFacts
  exact (andVw (andVw (andVw (andVw (andVw (andVw (andVw (andVw (andVw (andVw (andVw (andVw (andVw (andVw (andVw (andVw (andVw (andVw (andVw (andVw (andVw (andVw (andVw (andVw (andVw (andVw (andVw (andVw (andVw (andVw (andVw stateBytes_x0 stateBytes_x1) stateBytes_x2) stateBytes_x3) stateBytes_x4) stateBytes_x5) stateBytes_x6) stateBytes_x7) stateBytes_x8) stateBytes_x9) stateBytes_x10) stateBytes_x11) stateBytes_x12) stateBytes_x13) stateBytes_x14) stateBytes_x15) stateBytes_x16) stateBytes_x17) stateBytes_x18) stateBytes_x19) stateBytes_x20) stateBytes_x21) stateBytes_x22) stateBytes_x23) stateBytes_x24) stateBytes_x25) stateBytes_x26) stateBytes_x27) (by kernel_rfl)) stateBytes_x29) stateBytes_x30) stateBytes_x31)

end Go.Proofs.YteaggenihhaajaaGreat

/- StateBytes: for any core of bulk at most 1048576, the program and the document write the same bytes, or both none, for the same reason: the law returns true and leaves what it was handed as it was. -/
namespace Go.Proofs.YteaggenihhaajaaGreat
open Go.ChangeShapes Go.WideShapes Go.ChangeAt Go.RowKit Go.Deep Go.Joins
set_option linter.unusedVariables false
theorem stateBytesUpto_holds : Rows.StateBytesUptoSaid :=
  OpenClaim.holds_of_cond 5 Tryz.f5 rfl rfl rfl rfl rfl rfl rfl ⟨rfl, rfl, rfl, rfl, rfl⟩ rfl rfl rfl rfl rfl (by kernel_rfl) Tryz.func5 stateBytes_facts
    (of_decide_eq_true (by kernel_rfl)) (by unfold Func.isWrapper; first | (rw [if_pos (by decide +kernel)]; kernel_rfl) | (rw [if_neg (by decide +kernel)]; exact ⟨rfl, rfl⟩))
    (fun os started H enc _ F => stateBytes_lifted os started H enc F)

end Go.Proofs.YteaggenihhaajaaGreat
