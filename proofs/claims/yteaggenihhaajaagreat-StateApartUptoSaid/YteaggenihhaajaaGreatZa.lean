/- StateApart: for any two cores of bulk at most 1048576, cores that are not the same have unlike bytes: the law returns true and leaves what it was handed as it was. -/
import Derived.Test.YteaggenihhaajaaGreatZb18
/- StateApart: the contract, lifted. -/
namespace Go.Proofs.YteaggenihhaajaaGreat
open Go.ChangeShapes Go.WideShapes Go.ChangeAt Go.RowKit Go.Deep Go.Joins
set_option linter.unusedVariables false

theorem stateApart_own : ownKnob Tryz.prog.godebug = none := by kernel_rfl
theorem stateApart_laid : laidOutB Tryz.prog = true := by kernel_rfl

set_option maxRecDepth 100000 in
theorem stateApart_contract (H : Type) (enc : TypeId × Value → H) (W : World) (base : Nat) (args : Array Value) (ds gs : List (DataW H)) (before : List MemPlace)
    (hval : ∀ (j : Nat) t v, Tryz.f4.params[j]? = some t → args[j]? = some v → Value.okWide Tryz.prog W .any base t v)
    (hW : DataW.Whole enc Tryz.prog Tryz.f4.params.toList Rows.stateApartSpec.vars false W args.toList ds gs before) (hk : Rows.uptoSmall H (ds ++ gs) = true) :
    Calls Tryz.prog 4 args W fun e W' => ∃ v, e = .returned v ∧ Rows.stateApartSpec.post enc Tryz.prog Tryz.f4 false true false false W args v W' := by
  have hW' := hW
  obtain ⟨p, q, hA0, hV, rfl, hfz, hnd⟩ := hW
  have hA : DataW.TrodAll enc Tryz.prog W 0 (fun _ => true) true Tryz.f4.params.toList args.toList ds p := hA0
  rw [Tryz.params4] at hA hval
  obtain ⟨rfl, rfl⟩ := trodVars_none hV
  have hB := uptoBound hk
  rw [List.append_nil] at hB
  obtain ⟨v0, vs0, d0, ds0, p0, q0, hargs, rfl, rfl, h0, r0⟩ := trodAll_cons hA
  obtain ⟨v1, vs1, d1, ds1, p1, q1, rfl, rfl, rfl, h1, r1⟩ := trodAll_cons r0
  obtain ⟨rfl, rfl, rfl⟩ := trodAll_nil r1
  obtain rfl : args = #[v0, v1] := by cases args; simp_all
  simp only [Rows.uptoBulkAll] at hB
  obtain ⟨⟨c0⟩, rfl, _⟩ := okWide_struct Tryz.underlying45 (hval 0 45 _ rfl rfl)
  obtain ⟨a0, x0, z0⟩ := Opens.arg open_Core h0 (by omega)
  obtain ⟨⟨c1⟩, rfl, _⟩ := okWide_struct Tryz.underlying45 (hval 1 45 _ rfl rfl)
  obtain ⟨a1, x1, z1⟩ := Opens.arg open_Core h1 (by omega)

  refine (stApart_c x0 x1 (by omega) (by omega)).mono fun e W' ⟨he, hg⟩ => ?_
  subst he
  exact ⟨_, rfl, law_post stateApart_laid (by kernel_rfl) rfl ⟨rfl, rfl, rfl⟩ (tb := 4) (by kernel_rfl) Tryz.underlying4 hW' hg⟩

set_option maxRecDepth 100000 in
theorem stateApart_lifted (os : Os) (started : os.Started) (H : Type) (enc : TypeId × Value → H) (F : Stop.Interp) :
    ReturnsInHanded {} Tryz.checked os 4 .any ((Rows.OpenSpec.upto Rows.stateApartSpec).pre6 enc Tryz.prog Tryz.f4 Rows.stateApartUptoRow.domain false) (((Rows.OpenSpec.upto Rows.stateApartSpec).at F).post enc Tryz.prog Tryz.f4 false true false false) := by
  refine returnsInHanded_of_cond (C := Tryz.checked) (s := Rows.OpenSpec.upto Rows.stateApartSpec) (k := Rows.uptoSmall) rfl stateApart_own started (by kernel_rfl) Tryz.func4
    (OpenSpec.witness (enc := enc) (C := Tryz.checked) (s := Rows.OpenSpec.upto Rows.stateApartSpec) (k := Rows.uptoSmall) rfl false ⟨#[], #[.agg #[.int .i64 0, .bool false, .int .i64 0, .int .i64 0, .int .i64 0, .int .i64 0, .int .i64 0, .int .i64 0, .int .i64 0, .slice none 0 0, .slice none 0 0, .int .i64 0, .int .i64 0, .slice none 0 0, .slice none 0 0, .slice none 0 0, .slice none 0 0, .slice none 0 0, .slice none 0 0, .slice none 0 0, .slice none 0 0, .slice none 0 0, .int .i64 0, .int .i64 0, .slice none 0 0, .int .i64 0], .agg #[.int .i64 0, .bool false, .int .i64 0, .int .i64 0, .int .i64 0, .int .i64 0, .int .i64 0, .int .i64 0, .int .i64 0, .slice none 0 0, .slice none 0 0, .int .i64 0, .int .i64 0, .slice none 0 0, .slice none 0 0, .slice none 0 0, .slice none 0 0, .slice none 0 0, .slice none 0 0, .slice none 0 0, .slice none 0 0, .slice none 0 0, .int .i64 0, .int .i64 0, .slice none 0 0, .int .i64 0]], []⟩ 8 (by kernel_rfl) (by kernel_rfl) (by kernel_rfl)
      (x := ([.agg [.lit (.int .i64 0), .lit (.bool false), .lit (.int .i64 0), .lit (.int .i64 0), .agg [.lit (.int .i64 0), .lit (.int .i64 0), .lit (.int .i64 0), .lit (.int .i64 0), .lit (.int .i64 0)], .nil, .nil, .agg [.agg [.lit (.int .i64 0), .lit (.int .i64 0), .nil], .nil, .nil], .nil, .nil, .nil, .nil, .nil, .agg [.nil], .agg [.lit (.int .i64 0), .lit (.int .i64 0)], .nil, .lit (.int .i64 0)], .agg [.lit (.int .i64 0), .lit (.bool false), .lit (.int .i64 0), .lit (.int .i64 0), .agg [.lit (.int .i64 0), .lit (.int .i64 0), .lit (.int .i64 0), .lit (.int .i64 0), .lit (.int .i64 0)], .nil, .nil, .agg [.agg [.lit (.int .i64 0), .lit (.int .i64 0), .nil], .nil, .nil], .nil, .nil, .nil, .nil, .nil, .agg [.nil], .agg [.lit (.int .i64 0), .lit (.int .i64 0)], .nil, .lit (.int .i64 0)]], [], [])) (by kernel_rfl) rfl (by kernel_rfl)) ?_
  intro W base args ds gs before hval hW _ hk _
  exact stateApart_contract H enc W base args ds gs before hval hW hk

end Go.Proofs.YteaggenihhaajaaGreat

/- StateApart: the row's closed facts. -/
namespace Go.Proofs.YteaggenihhaajaaGreat
open Go.ChangeShapes Go.WideShapes Go.ChangeAt Go.RowKit Go.Deep Go.Joins
set_option linter.unusedVariables false
theorem andVt {a b : Bool} (h : a = true) (k : b = true) : (a && b) = true := by rw [h, k]; rfl
/-! StateApart's facts, one by one: together they are more than the kernel may hold -/
theorem stateApart_x0 : (Rows.stateApartUptoRow.wf (OpenSpec.ofChange (Rows.OpenSpec.upto Rows.stateApartSpec).bare)) = true := by kernel_rfl
theorem stateApart_x1 : (laidOutB Tryz.checked.prog) = true := by kernel_rfl
theorem stateApart_x2 : (mapsRowed Tryz.checked.prog) = true := by kernel_rfl
theorem stateApart_x3 : (Tryz.f4.params.all (Tryz.checked.prog.readableRec ·)) = true := by kernel_rfl
theorem stateApart_x4 : (namedTie Tryz.checked.prog Rows.stateApartUptoRow.named (Rows.OpenSpec.upto Rows.stateApartSpec).bare.vars) = true := by kernel_rfl
theorem stateApart_x5 : ((Rows.stateApartUptoRow.stops == [])) = true := by kernel_rfl
theorem stateApart_x6 : ((Tryz.checked.prog.stops == [])) = true := by kernel_rfl
theorem stateApart_x7 : ((Rows.stateApartUptoRow.knobs == [])) = true := by kernel_rfl
theorem stateApart_x8 : ((Tryz.checked.prog.stopKnobs == [])) = true := by kernel_rfl
theorem stateApart_x9 : ((Rows.stateApartUptoRow.inPlace == Tryz.checked.prog.inPlace 4)) = true := by kernel_rfl
theorem stateApart_x10 : ((Rows.stateApartUptoRow.unfollowed == Tryz.checked.prog.unfollowed 4)) = true := by kernel_rfl
theorem stateApart_x11 : ((Rows.stateApartUptoRow.recurses == Tryz.checked.prog.recurses 4)) = true := by kernel_rfl
theorem stateApart_x12 : ((Rows.stateApartUptoRow.named == Tryz.checked.prog.varsNamed 4)) = true := by kernel_rfl
theorem stateApart_x13 : ((Rows.stateApartUptoRow.maps == (Tryz.f4.params.toList ++ (Rows.OpenSpec.upto Rows.stateApartSpec).bare.plain.varTypes Tryz.checked.prog).any (Tryz.checked.prog.mapsRec ·))) = true := by kernel_rfl
theorem stateApart_x14 : ((Rows.stateApartUptoRow.ifaces == (Tryz.f4.params.toList ++ (Rows.OpenSpec.upto Rows.stateApartSpec).bare.plain.varTypes Tryz.checked.prog).any (Tryz.checked.prog.ifacesRec ·))) = true := by kernel_rfl
theorem stateApart_x15 : ((Rows.stateApartUptoRow.mapsOut == Tryz.checked.prog.mapsAmong Tryz.f4.resultTypes.toList)) = true := by kernel_rfl
theorem stateApart_x16 : ((Rows.stateApartUptoRow.loops == (Tryz.f4.params.toList ++ (Rows.OpenSpec.upto Rows.stateApartSpec).bare.plain.varTypes Tryz.checked.prog).any (Tryz.checked.prog.loopsFrom ·))) = true := by kernel_rfl
theorem stateApart_x17 : ((Rows.stateApartUptoRow.wideKeys == (Tryz.f4.params.toList ++ (Rows.OpenSpec.upto Rows.stateApartSpec).bare.plain.varTypes Tryz.checked.prog ++ Tryz.f4.resultTypes.toList).any (Tryz.checked.prog.wideKeysFrom ·))) = true := by kernel_rfl
theorem stateApart_x18 : ((Rows.OpenSpec.upto Rows.stateApartSpec).bare.vars.all (Tryz.checked.prog.varReadable ·)) = true := by kernel_rfl
theorem stateApart_x19 : (Tryz.f4.resultTypes.all (fun t => Tryz.checked.prog.readableRec t && decide (t < Tryz.checked.prog.types.size))) = true := by kernel_rfl
theorem stateApart_x20 : ((Rows.stateApartUptoRow.ifacesOut == Tryz.f4.resultTypes.toList.any (Tryz.checked.prog.ifacesRec ·))) = true := by kernel_rfl
theorem stateApart_x21 : ((Rows.stateApartUptoRow.loopsOut == Tryz.f4.resultTypes.toList.any (Tryz.checked.prog.loopsFrom ·))) = true := by kernel_rfl
theorem stateApart_x22 : ((Rows.stateApartUptoRow.plainKeys == Tryz.checked.prog.plainKeys)) = true := by kernel_rfl
theorem stateApart_x23 : (Rows.stateApartUptoRow.shortTexts.isNone) = true := by kernel_rfl
theorem stateApart_x24 : (Tryz.checked.prog.stopsHeard) = true := by kernel_rfl
theorem stateApart_x25 : (Tryz.checked.prog.mayEnter) = true := by kernel_rfl
theorem stateApart_x26 : ((Rows.stateApartUptoRow.lifted == Tryz.checked.prog.liftsFinal)) = true := by kernel_rfl
theorem stateApart_x27 : ((Tryz.checked.prog.make == some Rows.stateApartUptoRow.make)) = true := by kernel_rfl
theorem stateApart_x29 : ((Rows.stateApartUptoRow.pinned == Rows.stateApartUptoRow.pinnedBy)) = true := by kernel_rfl
theorem stateApart_x30 : ((Rows.stateApartUptoRow.veiled == (Tryz.f4.params.toList ++ (Rows.OpenSpec.upto Rows.stateApartSpec).bare.plain.varTypes Tryz.checked.prog ++ Tryz.f4.resultTypes.toList).any (Tryz.checked.prog.veiledRec ·))) = true := by kernel_rfl
theorem stateApart_x31 : (Rows.stateApartUptoRow.veiledFits Tryz.checked.prog Tryz.f4.params.toList (Tryz.f4.params.toList ++ (Rows.OpenSpec.upto Rows.stateApartSpec).bare.plain.varTypes Tryz.checked.prog ++ Tryz.f4.resultTypes.toList)) = true := by kernel_rfl
theorem stateApart_facts : joinedFacts Tryz.checked.prog 4 Tryz.f4 (Rows.OpenSpec.upto Rows.stateApartSpec).bare Rows.stateApartUptoRow = true := by
  unfold joinedFacts
  exact (andVt (andVt (andVt (andVt (andVt (andVt (andVt (andVt (andVt (andVt (andVt (andVt (andVt (andVt (andVt (andVt (andVt (andVt (andVt (andVt (andVt (andVt (andVt (andVt (andVt (andVt (andVt (andVt (andVt (andVt (andVt stateApart_x0 stateApart_x1) stateApart_x2) stateApart_x3) stateApart_x4) stateApart_x5) stateApart_x6) stateApart_x7) stateApart_x8) stateApart_x9) stateApart_x10) stateApart_x11) stateApart_x12) stateApart_x13) stateApart_x14) stateApart_x15) stateApart_x16) stateApart_x17) stateApart_x18) stateApart_x19) stateApart_x20) stateApart_x21) stateApart_x22) stateApart_x23) stateApart_x24) stateApart_x25) stateApart_x26) stateApart_x27) (by kernel_rfl)) stateApart_x29) stateApart_x30) stateApart_x31)

end Go.Proofs.YteaggenihhaajaaGreat

/- StateApart: for any two cores of bulk at most 1048576, cores that are not the same have unlike bytes: the law returns true and leaves what it was handed as it was. -/
namespace Go.Proofs.YteaggenihhaajaaGreat
open Go.ChangeShapes Go.WideShapes Go.ChangeAt Go.RowKit Go.Deep Go.Joins
set_option linter.unusedVariables false
theorem stateApartUpto_holds : Rows.StateApartUptoSaid :=
  OpenClaim.holds_of_cond 4 Tryz.f4 rfl rfl rfl rfl rfl rfl rfl ⟨rfl, rfl, rfl, rfl, rfl⟩ rfl rfl rfl rfl rfl (by kernel_rfl) Tryz.func4 stateApart_facts
    (of_decide_eq_true (by kernel_rfl)) (by unfold Func.isWrapper; first | (rw [if_pos (by decide +kernel)]; kernel_rfl) | (rw [if_neg (by decide +kernel)]; exact ⟨rfl, rfl⟩))
    (fun os started H enc _ F => stateApart_lifted os started H enc F)

end Go.Proofs.YteaggenihhaajaaGreat
