/- WalSure: for every list of operations of bulk at most 1048576 and every number: behind a crash the records up to some number are there, at or above what was sure, each as it was; opened again, it is the same. Condition: the five listed package variables hold what their initialisers lay. -/
import Derived.Test.YtoikjgcggmemaaaGreatDoorZb23
import Derived.Lib.LaidTab
import Derived.LaidSub
import Derived.MakeChecks
import Derived.Deep.Fields
/- WalSure: for every list of operations of bulk at most 1048576 and every number: behind a crash the records up to some number are there, at or above what was sure, each as it was; opened again, it is the same. Condition: the five listed package variables hold what their initialisers lay. -/
namespace Go.Proofs.YtoikjgcggmemaaaGreatDoor
open Go.ChangeShapes Go.WideShapes Go.ChangeAt Go.RowKit Go.Deep
set_option linter.unusedVariables false

/-- the library's table of powers, out of what is laid -/
theorem tabW_of_laid {W : World} (h : laidMetH Tryz.prog Rows.walSureRow.laid W) : TabW W := by
  rw [MakeChecks.laidMetH_plain _ _ _ (by kernel_rfl)] at h
  have h1 := h.filter (fun x => x.1 == "internal/strconv.uint64pow10")
  have e : Rows.walSureRow.laid.filter (fun x => x.1 == "internal/strconv.uint64pow10") = [("internal/strconv.uint64pow10", Lib.tabData .u64 Lib.pow10Tab)] := by kernel_rfl
  rw [e] at h1
  have h2 := Lib.tabIs_of_head (g := 2) (t := 161) (e := 87) (n := 20) (by kernel_rfl) (by kernel_rfl) Tryz.underlying161 Tryz.underlying87 (by kernel_rfl) (by kernel_rfl) h1
  intro w' hb
  unfold Lib.TabIs World.var? at *
  cases hg : Tryz.prog.globalNamed "internal/strconv.uint64pow10" with
  | none => simp [hg] at h2
  | some g =>
    simp only [hg, Option.bind_some] at h2 ⊢
    have hlt : g < W.heap.size := by
      rcases Nat.lt_or_ge g W.heap.size with h' | h'
      · exact h'
      · rw [Array.getElem?_eq_none h'] at h2; simp at h2
    rw [hb.block g hlt]
    exact h2
set_option maxRecDepth 100000 in
theorem walSure_contract (H : Type) (enc : TypeId × Value → H) (W : World) (base : Nat) (args : Array Value) (ds gs : List (DataW H)) (before : List MemPlace)
    (hval : ∀ (j : Nat) t v, Tryz.f3.params[j]? = some t → args[j]? = some v → Value.okWide Tryz.prog W .any base t v)
    (hW : DataW.Whole enc Tryz.prog Tryz.f3.params.toList Rows.walSureSpec.vars false W args.toList ds gs before) (hk : ∀ k, (Rows.OpenSpec.upto Rows.walSureSpec).cond = some k → k H (ds ++ gs) = true)
    (hT : TabW W) :
    Calls Tryz.prog 3 args W fun e W' => ∃ v, e = .returned v ∧ Rows.walSureSpec.post enc Tryz.prog Tryz.f3 false true false false W args v W' := by
  have hW' := hW
  obtain ⟨p, q, hA0, hV, rfl, hfz, hnd⟩ := hW
  have hA : DataW.TrodAll enc Tryz.prog W 0 (fun _ => true) true Tryz.f3.params.toList args.toList ds p := hA0
  rw [Tryz.params3] at hA hval
  obtain ⟨rfl, rfl⟩ := trodVars_none hV
  have hB := uptoBound (hk _ rfl)
  rw [List.append_nil] at hB
  obtain ⟨v0, vs0, d0, ds0, p0, q0, hargs, rfl, rfl, h0, r0⟩ := trodAll_cons hA
  obtain ⟨v1, vs1, d1, ds1, p1, q1, rfl, rfl, rfl, h1, r1⟩ := trodAll_cons r0
  obtain ⟨rfl, rfl, rfl⟩ := trodAll_nil r1
  obtain rfl : args = #[v0, v1] := by cases args; simp_all
  simp only [Rows.uptoBulkAll] at hB
  obtain ⟨n1, rfl, _, _, wn⟩ := Go.ChangeShapes.open_int Tryz.underlying3 (hval 1 3 v1 rfl rfl) h1
  have hn : -9223372036854775808 ≤ n1 ∧ n1 ≤ 9223372036854775807 := by simpa [Lit.wf, IntKind.min, IntKind.max, IntKind.signed, IntKind.bits] using wn
  obtain ⟨L, hL⟩ := open_opsW Tryz.underlying22 Tryz.underlying34 (by kernel_rfl) ⟨rfl, by kernel_rfl, Tryz.underlying3⟩ ⟨rfl, by kernel_rfl, Tryz.underlying32⟩ ⟨rfl, by kernel_rfl, Tryz.underlying2⟩ ⟨rfl, by kernel_rfl, Tryz.underlying3⟩ Tryz.underlying5 (by kernel_rfl) (hval 0 22 v0 rfl rfl) h0 (by omega)
  refine (walSure_c hT hL hn).mono fun e W' ⟨he, hg⟩ => ?_
  subst he
  exact ⟨_, rfl, law_post prog_laid (by kernel_rfl) rfl ⟨rfl, rfl, rfl⟩ (tb := 4) (by kernel_rfl) Tryz.underlying4 hW' hg⟩
def walSureArgs : Array Value := #[.slice none 0 0, .int .i64 0]
def walSureDs (H : Type) : List (DataW H) := [.nil, .lit (.int .i64 0)]
set_option maxRecDepth 100000 in
theorem walSure_reads (os : Os) (H : Type) (enc : TypeId × Value → H) : ∃ places, DataW.whole enc Tryz.prog ((laidWorld os).forCall (fun _ _ => 0) ⟨#[], walSureArgs, []⟩).memory Tryz.f3.params.toList Rows.walSureSpec.vars false walSureArgs.toList 8 = some (walSureDs H, [], places) :=
  ⟨[], by kernel_rfl⟩
set_option maxRecDepth 100000 in
theorem walSure_lifted (os : Os) (started : os.Started) (H : Type) (enc : TypeId × Value → H) (F : Stop.Interp) :
    ReturnsInHanded {} Tryz.checked os 3 .any ((Rows.OpenSpec.upto Rows.walSureSpec).preRow enc Tryz.prog Tryz.f3 Rows.walSureUptoRow.domain false Rows.walSureUptoRow.laid) (((Rows.OpenSpec.upto Rows.walSureSpec).at F).post enc Tryz.prog Tryz.f3 false true false false) := by
  obtain ⟨places, hx⟩ := walSure_reads os H enc
  refine returnsInHanded_of_row (C := Tryz.checked) (s := (Rows.OpenSpec.upto Rows.walSureSpec)) prog_own started (by kernel_rfl) Tryz.func3
    (witness_row_atRef (enc := enc) (C := Tryz.checked) false (laidWorld os) walSureArgs rfl (by kernel_rfl) (by kernel_rfl) (by kernel_rfl)
      (OpenSpec.preRow_of_cond 8 hx (by kernel_rfl) (fun k hk => by cases hk; kernel_rfl) (by kernel_rfl) (laid_met os _))) ?_
  intro W base args ds gs before hval hW _ hk hsz hlaid _ _
  exact walSure_contract H enc W base args ds gs before hval hW hk (tabW_of_laid hlaid)
theorem walSure_said : Rows.WalSureUptoSaid :=
  OpenClaim.holds_of_cond 3 Tryz.f3 rfl rfl rfl rfl rfl rfl rfl ⟨rfl, rfl, rfl, rfl, rfl⟩ rfl rfl rfl rfl rfl (by kernel_rfl) Tryz.func3 (by kernel_rfl)
    (of_decide_eq_true (by kernel_rfl)) (by unfold Func.isWrapper; first | (rw [if_pos (by decide +kernel)]; kernel_rfl) | (rw [if_neg (by decide +kernel)]; exact ⟨rfl, rfl⟩))
    (fun os started H enc _ F => by rw [OpenClaim.pre_eq_preRow]; exact walSure_lifted os started H enc F)
theorem walSure_plain (f : FuncId) (fn : Func) (hf : Tryz.pinned.checked.prog.funcNamed "bulla/bullalaw04.WalSure" = some f) (hfn : Tryz.pinned.checked.prog.funcs[f]? = some fn) :
    true = Tryz.pinned.checked.prog.looks [] ∧ ∀ (j : Nat) t, fn.params[j]? = some t → Tryz.pinned.checked.prog.wantsStandIn t = false := by
  obtain rfl : f = 3 := Option.some.inj ((show Tryz.prog.funcNamed "bulla/bullalaw04.WalSure" = some 3 by kernel_rfl).symm.trans hf) |>.symm
  obtain rfl : fn = Tryz.f3 := (Option.some.inj (Tryz.func3.symm.trans hfn)).symm
  refine ⟨by kernel_rfl, fun j t ht => ?_⟩
  rw [Tryz.params3] at ht
  have hm : t = 22 ∨ t = 3 := by
    have := Array.mem_of_getElem? ht
    simpa using this
  rcases hm with rfl | rfl
  · exact (show Tryz.prog.wantsStandIn 22 = false by kernel_rfl)
  · exact (show Tryz.prog.wantsStandIn 3 = false by kernel_rfl)
theorem walSureUpto_holds : Rows.WalSureUptoCardSaid :=
  Claim7.holds_tied_plain_at .later [] _ _ _ _ walSure_said (fun _ h => by cases h) (by kernel_rfl) (fun _ h => by cases h) walSureUpto_row_tie rfl ⟨rfl, rfl⟩ (by kernel_rfl) rfl walSure_plain (by kernel_rfl)
end Go.Proofs.YtoikjgcggmemaaaGreatDoor
