/- MerkleComplete: for every list of byte strings of bulk at most 1048576 and every number the law returns true and leaves what it was handed as it was. -/
import Derived.Test.YthgpkbhilkdckaaZm4
/- MerkleComplete: for every list of byte strings of bulk at most 1048576 and every number the law returns true and leaves what it was handed as it was. -/
namespace Go.Proofs.Ythgpkbhilkdckaa
open Go.ChangeShapes Go.WideShapes Go.ChangeAt Go.RowKit Go.Deep Go.Joins
set_option linter.unusedVariables false

theorem merkleComplete_own : ownKnob Try.prog.godebug = none := by kernel_rfl
theorem merkleComplete_laid : laidOutB Try.prog = true := by kernel_rfl

set_option maxRecDepth 100000 in
theorem merkleComplete_contract (H : Type) (enc : TypeId × Value → H) (W : World) (base : Nat) (args : Array Value) (ds gs : List (DataW H)) (before : List MemPlace)
    (hval : ∀ (j : Nat) t v, Try.f17.params[j]? = some t → args[j]? = some v → Value.okWide Try.prog W .any base t v)
    (hW : DataW.Whole enc Try.prog Try.f17.params.toList Rows.merkleCompleteSpec.vars false W args.toList ds gs before) (hk : Rows.uptoSmall H (ds ++ gs) = true) :
    Calls Try.prog 17 args W fun e W' => ∃ v, e = .returned v ∧ Rows.merkleCompleteSpec.post enc Try.prog Try.f17 false true false false W args v W' := by
  have hW' := hW
  obtain ⟨p, q, hA0, hV, rfl, hfz, hnd⟩ := hW
  have hA : DataW.TrodAll enc Try.prog W 0 (fun _ => true) true Try.f17.params.toList args.toList ds p := hA0
  rw [Try.params17] at hA hval
  obtain ⟨rfl, rfl⟩ := trodVars_none hV
  have hB := uptoBound hk
  rw [List.append_nil] at hB
  obtain ⟨v0, vs0, d0, ds0, p0, q0, hargs, rfl, rfl, h0, r0⟩ := trodAll_cons hA
  obtain ⟨v1, vs1, d1, ds1, p1, q1, rfl, rfl, rfl, h1, r1⟩ := trodAll_cons r0
  obtain ⟨rfl, rfl, rfl⟩ := trodAll_nil r1
  obtain rfl : args = #[v0, v1] := by cases args; simp_all
  simp only [Rows.uptoBulkAll] at hB
  obtain ⟨L, hL, hLl⟩ := open_bssU Try.underlying46 Try.underlying47 Try.underlying5 (by kernel_rfl) (by kernel_rfl) (hval 0 46 v0 rfl rfl) h0 (by omega)
  obtain ⟨A, m, c, n, rfl, a, b, d, e, f, g, i⟩ := leaves_cut hL (by omega)
  obtain ⟨n0, rfl, rfl, rfl, wn⟩ := open_int Try.underlying5 (hval 1 5 v1 rfl rfl) h1
  obtain ⟨u, rfl, hu⟩ := u8_arg wn

  refine (complete_walk a b d e f hu g i).mono fun e W' ⟨he, hg⟩ => ?_
  subst he
  exact ⟨_, rfl, law_post merkleComplete_laid (by kernel_rfl) rfl ⟨rfl, rfl, rfl⟩ (tb := 4) (by kernel_rfl) Try.underlying4 hW' hg⟩

set_option maxRecDepth 100000 in
theorem merkleComplete_lifted (os : Os) (started : os.Started) (H : Type) (enc : TypeId × Value → H) (F : Stop.Interp) :
    ReturnsInHanded {} Try.checked os 17 .any ((Rows.OpenSpec.upto Rows.merkleCompleteSpec).pre6 enc Try.prog Try.f17 Rows.merkleCompleteUptoRow.domain false) (((Rows.OpenSpec.upto Rows.merkleCompleteSpec).at F).post enc Try.prog Try.f17 false true false false) := by
  refine returnsInHanded_of_cond (C := Try.checked) (s := Rows.OpenSpec.upto Rows.merkleCompleteSpec) (k := Rows.uptoSmall) rfl merkleComplete_own started (by kernel_rfl) Try.func17
    (OpenSpec.witness (enc := enc) (C := Try.checked) (s := Rows.OpenSpec.upto Rows.merkleCompleteSpec) (k := Rows.uptoSmall) rfl false ⟨#[], #[.slice none 0 0, .int .u8 0], []⟩ 8 (by kernel_rfl) (by kernel_rfl) (by kernel_rfl)
      (x := ([.nil, .lit (.int .u8 0)], [], [])) (by kernel_rfl) rfl (by kernel_rfl)) ?_
  intro W base args ds gs before hval hW _ hk _
  exact merkleComplete_contract H enc W base args ds gs before hval hW hk

theorem merkleCompleteUpto_holds : Rows.MerkleCompleteUptoSaid :=
  OpenClaim.holds_of_cond 17 Try.f17 rfl rfl rfl rfl rfl rfl rfl ⟨rfl, rfl, rfl, rfl, rfl⟩ rfl rfl rfl rfl rfl (by kernel_rfl) Try.func17 (by kernel_rfl)
    (of_decide_eq_true (by kernel_rfl)) (by unfold Func.isWrapper; first | (rw [if_pos (by decide +kernel)]; kernel_rfl) | (rw [if_neg (by decide +kernel)]; exact ⟨rfl, rfl⟩))
    (fun os started H enc _ F => merkleComplete_lifted os started H enc F)

end Go.Proofs.Ythgpkbhilkdckaa
