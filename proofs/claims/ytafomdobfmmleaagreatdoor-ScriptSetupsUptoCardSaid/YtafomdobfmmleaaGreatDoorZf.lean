/- ScriptSetups: for any setup, line and bytes of bulk at most 1048576, the setup's line, what the line says, bytes as a word and what the word says are the document's. Condition: the seven listed package variables hold what their initialisers lay. -/
import Derived.Test.YtafomdobfmmleaaGreatDoorZb27
/- ScriptSetups: for any setup, line and bytes of bulk at most 1048576, the setup's line, what the line says, bytes as a word and what the word says are the document's. Condition: the seven listed package variables hold what their initialisers lay. -/
namespace Go.Proofs.YtafomdobfmmleaaGreatDoor
open Go.ChangeShapes Go.WideShapes Go.ChangeAt Go.RowKit Go.Deep
set_option linter.unusedVariables false

set_option maxRecDepth 100000 in
theorem scriptSetups_contract (H : Type) (enc : TypeId × Value → H) (W : World) (base : Nat) (args : Array Value) (ds gs : List (DataW H)) (before : List MemPlace)
    (hval : ∀ (j : Nat) t v, Tryz.f3.params[j]? = some t → args[j]? = some v → Value.okWide Tryz.prog W .any base t v)
    (hW : DataW.Whole enc Tryz.prog Tryz.f3.params.toList Rows.scriptSetupsSpec.vars false W args.toList ds gs before) (hk : ∀ k, (Rows.OpenSpec.upto Rows.scriptSetupsSpec).cond = some k → k H (ds ++ gs) = true)
    (hT : ScrT W) :
    Calls Tryz.prog 3 args W fun e W' => ∃ v, e = .returned v ∧ Rows.scriptSetupsSpec.post enc Tryz.prog Tryz.f3 false true false false W args v W' := by
  have hW' := hW
  obtain ⟨p, q, hA0, hV, rfl, hfz, hnd⟩ := hW
  have hA : DataW.TrodAll enc Tryz.prog W 0 (fun _ => true) true Tryz.f3.params.toList args.toList ds p := hA0
  rw [Tryz.params3] at hA hval
  obtain ⟨rfl, rfl⟩ := trodVars_none hV
  have hB := uptoBound (hk _ rfl)
  rw [List.append_nil] at hB
  obtain ⟨v0, vs0, d0, ds0, p0, q0, hargs, rfl, rfl, h0, r0⟩ := trodAll_cons hA
  obtain ⟨v1, vs1, d1, ds1, p1, q1, rfl, rfl, rfl, h1, r1⟩ := trodAll_cons r0
  obtain ⟨v2, vs2, d2, ds2, p2, q2, rfl, rfl, rfl, h2, r2⟩ := trodAll_cons r1
  obtain ⟨rfl, rfl, rfl⟩ := trodAll_nil r2
  obtain rfl : args = #[v0, v1, v2] := by cases args; simp_all
  simp only [Rows.uptoBulkAll] at hB
  obtain ⟨⟨c0⟩, rfl, _⟩ := okWide_struct Tryz.underlying25 (hval 0 25 _ rfl rfl)
  obtain ⟨a0, x0, _⟩ := Opens.arg open_Setup h0 (by omega)
  obtain ⟨a1, x1, _⟩ := Opens.arg (opensS Tryz.underlying9 (by kernel_rfl)) h1 (by omega)
  obtain ⟨s1, rfl⟩ := okWide_string Tryz.underlying9 (hval 1 9 _ rfl rfl)
  obtain ⟨A2, l2, k2, rfl⟩ := okWide_slice Tryz.underlying26 (hval 2 26 _ rfl rfl)
  obtain ⟨a2, x2, _⟩ := Opens.arg (opensY Tryz.underlying26 Tryz.underlying5 (by kernel_rfl) (by kernel_rfl)) h2 (by omega)
  refine (setups_c hT x0 x1 x2).mono fun e W' ⟨he, hg⟩ => ?_
  subst he
  exact ⟨_, rfl, law_post prog_laid (by kernel_rfl) rfl ⟨rfl, rfl, rfl⟩ (tb := 4) (by kernel_rfl) Tryz.underlying4 hW' hg⟩
def scriptSetupsArgs : Array Value := #[.agg #[.int .i64 0, .int .u16 0, .int .u16 0, .int .i64 0, .string ⟨#[]⟩], .string ⟨#[]⟩, .slice none 0 0]
def scriptSetupsDs (H : Type) : List (DataW H) := [.agg [.lit (.int .i64 0), .lit (.int .u16 0), .lit (.int .u16 0), .lit (.int .i64 0), .lit (.string [])], .lit (.string []), .nil]
set_option maxRecDepth 100000 in
theorem scriptSetups_reads (os : Os) (H : Type) (enc : TypeId × Value → H) : ∃ places, DataW.whole enc Tryz.prog ((laidWorld os).forCall (fun _ _ => 0) ⟨#[], scriptSetupsArgs, []⟩).memory Tryz.f3.params.toList Rows.scriptSetupsSpec.vars false scriptSetupsArgs.toList 8 = some (scriptSetupsDs H, [], places) :=
  ⟨[], by kernel_rfl⟩
set_option maxRecDepth 100000 in
theorem scriptSetups_lifted (os : Os) (started : os.Started) (H : Type) (enc : TypeId × Value → H) (F : Stop.Interp) :
    ReturnsInHanded {} Tryz.checked os 3 .any ((Rows.OpenSpec.upto Rows.scriptSetupsSpec).preRow enc Tryz.prog Tryz.f3 Rows.scriptSetupsUptoRow.domain false Rows.scriptSetupsUptoRow.laid) (((Rows.OpenSpec.upto Rows.scriptSetupsSpec).at F).post enc Tryz.prog Tryz.f3 false true false false) := by
  obtain ⟨places, hx⟩ := scriptSetups_reads os H enc
  refine returnsInHanded_of_row (C := Tryz.checked) (s := (Rows.OpenSpec.upto Rows.scriptSetupsSpec)) prog_own started (by kernel_rfl) Tryz.func3
    (witness_row_atRef (enc := enc) (C := Tryz.checked) false (laidWorld os) scriptSetupsArgs rfl (by kernel_rfl) (by kernel_rfl) (by kernel_rfl)
      (OpenSpec.preRow_of_cond 8 hx (by kernel_rfl) (fun k hk => by cases hk; kernel_rfl) (by kernel_rfl) (laid_met os _))) ?_
  intro W base args ds gs before hval hW _ hk hsz hlaid hshp _
  exact scriptSetups_contract H enc W base args ds gs before hval hW hk (scrT_of_laid hlaid hshp)
theorem scriptSetups_said : Rows.ScriptSetupsUptoSaid :=
  OpenClaim.holds_of_cond 3 Tryz.f3 rfl rfl rfl rfl rfl rfl rfl ⟨rfl, rfl, rfl, rfl, rfl⟩ rfl rfl rfl rfl rfl (by kernel_rfl) Tryz.func3 scriptSetups_facts
    (of_decide_eq_true (by kernel_rfl)) (by unfold Func.isWrapper; first | (rw [if_pos (by decide +kernel)]; kernel_rfl) | (rw [if_neg (by decide +kernel)]; exact ⟨rfl, rfl⟩))
    (fun os started H enc _ F => by rw [OpenClaim.pre_eq_preRow]; exact scriptSetups_lifted os started H enc F)
theorem scriptSetups_plain (f : FuncId) (fn : Func) (hf : Tryz.pinned.checked.prog.funcNamed "bulla/bullalaw27.ScriptSetups" = some f) (hfn : Tryz.pinned.checked.prog.funcs[f]? = some fn) :
    true = Tryz.pinned.checked.prog.looks [] ∧ ∀ (j : Nat) t, fn.params[j]? = some t → Tryz.pinned.checked.prog.wantsStandIn t = false := by
  obtain rfl : f = 3 := Option.some.inj ((show Tryz.prog.funcNamed "bulla/bullalaw27.ScriptSetups" = some 3 by kernel_rfl).symm.trans hf) |>.symm
  obtain rfl : fn = Tryz.f3 := (Option.some.inj (Tryz.func3.symm.trans hfn)).symm
  refine ⟨by kernel_rfl, fun j t ht => ?_⟩
  rw [Tryz.params3] at ht
  have hm : t = 25 ∨ t = 9 ∨ t = 26 := by
    have := Array.mem_of_getElem? ht
    simpa using this
  rcases hm with rfl | rfl | rfl
  · exact (show Tryz.prog.wantsStandIn 25 = false by kernel_rfl)
  · exact (show Tryz.prog.wantsStandIn 9 = false by kernel_rfl)
  · exact (show Tryz.prog.wantsStandIn 26 = false by kernel_rfl)
theorem scriptSetupsUpto_holds : Rows.ScriptSetupsUptoCardSaid :=
  Claim7.holds_tied_plain_at .later [] _ _ _ _ scriptSetups_said (fun _ h => by cases h) (by kernel_rfl) (fun _ h => by cases h) scriptSetupsUpto_row_tie rfl ⟨rfl, rfl⟩ (by kernel_rfl) rfl scriptSetups_plain (by kernel_rfl)
end Go.Proofs.YtafomdobfmmleaaGreatDoor
