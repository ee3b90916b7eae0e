/- StateSame: for any two cores of bulk at most 1048576, which are the same is told as the document tells it, a clone is the same, and turning it turns nothing else: the law returns true and leaves what it was handed as it was. -/
import Derived.Test.YteaggenihhaajaaGreatZs20
/- StateSame: the contract, lifted. -/
namespace Go.Proofs.YteaggenihhaajaaGreat
open Go.ChangeShapes Go.WideShapes Go.ChangeAt Go.RowKit Go.Deep Go.Joins
set_option linter.unusedVariables false

theorem stateSame_own : ownKnob Tryz.prog.godebug = none := by kernel_rfl
theorem stateSame_laid : laidOutB Tryz.prog = true := by kernel_rfl

set_option maxRecDepth 100000 in
theorem stateSame_contract (H : Type) (enc : TypeId × Value → H) (W : World) (base : Nat) (args : Array Value) (ds gs : List (DataW H)) (before : List MemPlace)
    (hval : ∀ (j : Nat) t v, Tryz.f6.params[j]? = some t → args[j]? = some v → Value.okWide Tryz.prog W .any base t v)
    (hW : DataW.Whole enc Tryz.prog Tryz.f6.params.toList Rows.stateSameSpec.vars false W args.toList ds gs before) (hk : Rows.uptoSmall H (ds ++ gs) = true) :
    Calls Tryz.prog 6 args W fun e W' => ∃ v, e = .returned v ∧ Rows.stateSameSpec.post enc Tryz.prog Tryz.f6 false true false false W args v W' := by
  have hW' := hW
  obtain ⟨p, q, hA0, hV, rfl, hfz, hnd⟩ := hW
  have hA : DataW.TrodAll enc Tryz.prog W 0 (fun _ => true) true Tryz.f6.params.toList args.toList ds p := hA0
  rw [Tryz.params6] at hA hval
  obtain ⟨rfl, rfl⟩ := trodVars_none hV
  have hB := uptoBound hk
  rw [List.append_nil] at hB
  obtain ⟨v0, vs0, d0, ds0, p0, q0, hargs, rfl, rfl, h0, r0⟩ := trodAll_cons hA
  obtain ⟨v1, vs1, d1, ds1, p1, q1, rfl, rfl, rfl, h1, r1⟩ := trodAll_cons r0
  obtain ⟨rfl, rfl, rfl⟩ := trodAll_nil r1
  obtain rfl : args = #[v0, v1] := by cases args; simp_all
  simp only [Rows.uptoBulkAll] at hB
  obtain ⟨⟨c0⟩, rfl, _⟩ := okWide_struct Tryz.underlying45 (hval 0 45 _ rfl rfl)
  obtain ⟨a0, x0, z0⟩ := Opens.arg open_Core h0 (by omega)
  obtain ⟨⟨c1⟩, rfl, _⟩ := okWide_struct Tryz.underlying45 (hval 1 45 _ rfl rfl)
  obtain ⟨a1, x1, z1⟩ := Opens.arg open_Core h1 (by omega)

  refine (stSameLaw_c x0 x1).mono fun e W' ⟨he, hg⟩ => ?_
  subst he
  exact ⟨_, rfl, law_post stateSame_laid (by kernel_rfl) rfl ⟨rfl, rfl, rfl⟩ (tb := 4) (by kernel_rfl) Tryz.underlying4 hW' hg⟩

set_option maxRecDepth 100000 in
theorem stateSame_lifted (os : Os) (started : os.Started) (H : Type) (enc : TypeId × Value → H) (F : Stop.Interp) :
    ReturnsInHanded {} Tryz.checked os 6 .any ((Rows.OpenSpec.upto Rows.stateSameSpec).pre6 enc Tryz.prog Tryz.f6 Rows.stateSameUptoRow.domain false) (((Rows.OpenSpec.upto Rows.stateSameSpec).at F).post enc Tryz.prog Tryz.f6 false true false false) := by
  refine returnsInHanded_of_cond (C := Tryz.checked) (s := Rows.OpenSpec.upto Rows.stateSameSpec) (k := Rows.uptoSmall) rfl stateSame_own started (by kernel_rfl) Tryz.func6
    (OpenSpec.witness (enc := enc) (C := Tryz.checked) (s := Rows.OpenSpec.upto Rows.stateSameSpec) (k := Rows.uptoSmall) rfl false ⟨#[], #[.agg #[.int .i64 0, .bool false, .int .i64 0, .int .i64 0, .int .i64 0, .int .i64 0, .int .i64 0, .int .i64 0, .int .i64 0, .slice none 0 0, .slice none 0 0, .int .i64 0, .int .i64 0, .slice none 0 0, .slice none 0 0, .slice none 0 0, .slice none 0 0, .slice none 0 0, .slice none 0 0, .slice none 0 0, .slice none 0 0, .slice none 0 0, .int .i64 0, .int .i64 0, .slice none 0 0, .int .i64 0], .agg #[.int .i64 0, .bool false, .int .i64 0, .int .i64 0, .int .i64 0, .int .i64 0, .int .i64 0, .int .i64 0, .int .i64 0, .slice none 0 0, .slice none 0 0, .int .i64 0, .int .i64 0, .slice none 0 0, .slice none 0 0, .slice none 0 0, .slice none 0 0, .slice none 0 0, .slice none 0 0, .slice none 0 0, .slice none 0 0, .slice none 0 0, .int .i64 0, .int .i64 0, .slice none 0 0, .int .i64 0]], []⟩ 8 (by kernel_rfl) (by kernel_rfl) (by kernel_rfl)
      (x := ([.agg [.lit (.int .i64 0), .lit (.bool false), .lit (.int .i64 0), .lit (.int .i64 0), .agg [.lit (.int .i64 0), .lit (.int .i64 0), .lit (.int .i64 0), .lit (.int .i64 0), .lit (.int .i64 0)], .nil, .nil, .agg [.agg [.lit (.int .i64 0), .lit (.int .i64 0), .nil], .nil, .nil], .nil, .nil, .nil, .nil, .nil, .agg [.nil], .agg [.lit (.int .i64 0), .lit (.int .i64 0)], .nil, .lit (.int .i64 0)], .agg [.lit (.int .i64 0), .lit (.bool false), .lit (.int .i64 0), .lit (.int .i64 0), .agg [.lit (.int .i64 0), .lit (.int .i64 0), .lit (.int .i64 0), .lit (.int .i64 0), .lit (.int .i64 0)], .nil, .nil, .agg [.agg [.lit (.int .i64 0), .lit (.int .i64 0), .nil], .nil, .nil], .nil, .nil, .nil, .nil, .nil, .agg [.nil], .agg [.lit (.int .i64 0), .lit (.int .i64 0)], .nil, .lit (.int .i64 0)]], [], [])) (by kernel_rfl) rfl (by kernel_rfl)) ?_
  intro W base args ds gs before hval hW _ hk _
  exact stateSame_contract H enc W base args ds gs before hval hW hk

end Go.Proofs.YteaggenihhaajaaGreat

/- StateSame: the row's closed facts. -/
namespace Go.Proofs.YteaggenihhaajaaGreat
open Go.ChangeShapes Go.WideShapes Go.ChangeAt Go.RowKit Go.Deep Go.Joins
set_option linter.unusedVariables false
theorem andPe {a b : Bool} (h : a = true) (k : b = true) : (a && b) = true := by rw [h, k]; rfl
/-! StateSame's facts, one by one: together they are more than the kernel may hold -/
theorem stateSame_x0 : (Rows.stateSameUptoRow.wf (OpenSpec.ofChange (Rows.OpenSpec.upto Rows.stateSameSpec).bare)) = true := by kernel_rfl
theorem stateSame_x1 : (laidOutB Tryz.checked.prog) = true := by kernel_rfl
theorem stateSame_x2 : (mapsRowed Tryz.checked.prog) = true := by kernel_rfl
theorem stateSame_x3 : (Tryz.f6.params.all (Tryz.checked.prog.readableRec ·)) = true := by kernel_rfl
theorem stateSame_x4 : (namedTie Tryz.checked.prog Rows.stateSameUptoRow.named (Rows.OpenSpec.upto Rows.stateSameSpec).bare.vars) = true := by kernel_rfl
theorem stateSame_x5 : ((Rows.stateSameUptoRow.stops == [])) = true := by kernel_rfl
theorem stateSame_x6 : ((Tryz.checked.prog.stops == [])) = true := by kernel_rfl
theorem stateSame_x7 : ((Rows.stateSameUptoRow.knobs == [])) = true := by kernel_rfl
theorem stateSame_x8 : ((Tryz.checked.prog.stopKnobs == [])) = true := by kernel_rfl
theorem stateSame_x9 : ((Rows.stateSameUptoRow.inPlace == Tryz.checked.prog.inPlace 6)) = true := by kernel_rfl
theorem stateSame_x10 : ((Rows.stateSameUptoRow.unfollowed == Tryz.checked.prog.unfollowed 6)) = true := by kernel_rfl
theorem stateSame_x11 : ((Rows.stateSameUptoRow.recurses == Tryz.checked.prog.recurses 6)) = true := by kernel_rfl
theorem stateSame_x12 : ((Rows.stateSameUptoRow.named == Tryz.checked.prog.varsNamed 6)) = true := by kernel_rfl
theorem stateSame_x13 : ((Rows.stateSameUptoRow.maps == (Tryz.f6.params.toList ++ (Rows.OpenSpec.upto Rows.stateSameSpec).bare.plain.varTypes Tryz.checked.prog).any (Tryz.checked.prog.mapsRec ·))) = true := by kernel_rfl
theorem stateSame_x14 : ((Rows.stateSameUptoRow.ifaces == (Tryz.f6.params.toList ++ (Rows.OpenSpec.upto Rows.stateSameSpec).bare.plain.varTypes Tryz.checked.prog).any (Tryz.checked.prog.ifacesRec ·))) = true := by kernel_rfl
theorem stateSame_x15 : ((Rows.stateSameUptoRow.mapsOut == Tryz.checked.prog.mapsAmong Tryz.f6.resultTypes.toList)) = true := by kernel_rfl
theorem stateSame_x16 : ((Rows.stateSameUptoRow.loops == (Tryz.f6.params.toList ++ (Rows.OpenSpec.upto Rows.stateSameSpec).bare.plain.varTypes Tryz.checked.prog).any (Tryz.checked.prog.loopsFrom ·))) = true := by kernel_rfl
theorem stateSame_x17 : ((Rows.stateSameUptoRow.wideKeys == (Tryz.f6.params.toList ++ (Rows.OpenSpec.upto Rows.stateSameSpec).bare.plain.varTypes Tryz.checked.prog ++ Tryz.f6.resultTypes.toList).any (Tryz.checked.prog.wideKeysFrom ·))) = true := by kernel_rfl
theorem stateSame_x18 : ((Rows.OpenSpec.upto Rows.stateSameSpec).bare.vars.all (Tryz.checked.prog.varReadable ·)) = true := by kernel_rfl
theorem stateSame_x19 : (Tryz.f6.resultTypes.all (fun t => Tryz.checked.prog.readableRec t && decide (t < Tryz.checked.prog.types.size))) = true := by kernel_rfl
theorem stateSame_x20 : ((Rows.stateSameUptoRow.ifacesOut == Tryz.f6.resultTypes.toList.any (Tryz.checked.prog.ifacesRec ·))) = true := by kernel_rfl
theorem stateSame_x21 : ((Rows.stateSameUptoRow.loopsOut == Tryz.f6.resultTypes.toList.any (Tryz.checked.prog.loopsFrom ·))) = true := by kernel_rfl
theorem stateSame_x22 : ((Rows.stateSameUptoRow.plainKeys == Tryz.checked.prog.plainKeys)) = true := by kernel_rfl
theorem stateSame_x23 : (Rows.stateSameUptoRow.shortTexts.isNone) = true := by kernel_rfl
theorem stateSame_x24 : (Tryz.checked.prog.stopsHeard) = true := by kernel_rfl
theorem stateSame_x25 : (Tryz.checked.prog.mayEnter) = true := by kernel_rfl
theorem stateSame_x26 : ((Rows.stateSameUptoRow.lifted == Tryz.checked.prog.liftsFinal)) = true := by kernel_rfl
theorem stateSame_x27 : ((Tryz.checked.prog.make == some Rows.stateSameUptoRow.make)) = true := by kernel_rfl
theorem stateSame_x29 : ((Rows.stateSameUptoRow.pinned == Rows.stateSameUptoRow.pinnedBy)) = true := by kernel_rfl
theorem stateSame_x30 : ((Rows.stateSameUptoRow.veiled == (Tryz.f6.params.toList ++ (Rows.OpenSpec.upto Rows.stateSameSpec).bare.plain.varTypes Tryz.checked.prog ++ Tryz.f6.resultTypes.toList).any (Tryz.checked.prog.veiledRec ·))) = true := by kernel_rfl
theorem stateSame_x31 : (Rows.stateSameUptoRow.veiledFits Tryz.checked.prog Tryz.f6.params.toList (Tryz.f6.params.toList ++ (Rows.OpenSpec.upto Rows.stateSameSpec).bare.plain.varTypes Tryz.checked.prog ++ Tryz.f6.resultTypes.toList)) = true := by kernel_rfl
theorem stateSame_facts : joinedFacts Tryz.checked.prog 6 Tryz.f6 (Rows.OpenSpec.upto Rows.stateSameSpec).bare Rows.stateSameUptoRow = true := by
  unfold joinedFacts
  exact (andPe (andPe (andPe (andPe (andPe (andPe (andPe (andPe (andPe (andPe (andPe (andPe (andPe (andPe (andPe (andPe (andPe (andPe (andPe (andPe (andPe (andPe (andPe (andPe (andPe (andPe (andPe (andPe (andPe (andPe (andPe stateSame_x0 stateSame_x1) stateSame_x2) stateSame_x3) stateSame_x4) stateSame_x5) stateSame_x6) stateSame_x7) stateSame_x8) stateSame_x9) stateSame_x10) stateSame_x11) stateSame_x12) stateSame_x13) stateSame_x14) stateSame_x15) stateSame_x16) stateSame_x17) stateSame_x18) stateSame_x19) stateSame_x20) stateSame_x21) stateSame_x22) stateSame_x23) stateSame_x24) stateSame_x25) stateSame_x26) stateSame_x27) (by kernel_rfl)) stateSame_x29) stateSame_x30) stateSame_x31)

end Go.Proofs.YteaggenihhaajaaGreat

/- StateSame: for any two cores of bulk at most 1048576, which are the same is told as the document tells it, a clone is the same, and turning it turns nothing else: the law returns true and leaves what it was handed as it was. -/
namespace Go.Proofs.YteaggenihhaajaaGreat
open Go.ChangeShapes Go.WideShapes Go.ChangeAt Go.RowKit Go.Deep Go.Joins
set_option linter.unusedVariables false
theorem stateSameUpto_holds : Rows.StateSameUptoSaid :=
  OpenClaim.holds_of_cond 6 Tryz.f6 rfl rfl rfl rfl rfl rfl rfl ⟨rfl, rfl, rfl, rfl, rfl⟩ rfl rfl rfl rfl rfl (by kernel_rfl) Tryz.func6 stateSame_facts
    (of_decide_eq_true (by kernel_rfl)) (by unfold Func.isWrapper; first | (rw [if_pos (by decide +kernel)]; kernel_rfl) | (rw [if_neg (by decide +kernel)]; exact ⟨rfl, rfl⟩))
    (fun os started H enc _ F => stateSame_lifted os started H enc F)

end Go.Proofs.YteaggenihhaajaaGreat
