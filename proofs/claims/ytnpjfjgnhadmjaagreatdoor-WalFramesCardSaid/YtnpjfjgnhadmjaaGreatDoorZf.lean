/- WalFrames: whatever the bytes, sums, frames and records are the document's, and a record is there when the log is opened again. Condition: the five listed package variables hold what their initialisers lay. -/
import Derived.Test.YtnpjfjgnhadmjaaGreatDoorZb4
/- The walk of WalFrames. -/
namespace Go.Proofs.YtnpjfjgnhadmjaaGreatDoor
open Go.RowKit Go.Deep Go.Maps
set_option linter.unusedVariables false

section
variable {W w : World} {u : Value} {b : List UInt8} {X : List Asn}
/-- what Frame makes -/
def frB (b : List UInt8) : List UInt8 := if b.length ≤ 524288 then frameF b else []
def frE (b : List UInt8) : Int := if b.length ≤ 524288 then 0 else 3
theorem frB_len (b : List UInt8) : (frB b).length ≤ big := by
  unfold frB; split
  · rename_i h; have := frame_len h; unfold big; omega
  · simp [big]
theorem frame_u (h : St W w X) (hu : Bs w u b) : Calls Tryz.prog 8 #[u] w fun e w' => ∃ v, e = .returned (.tuple #[v, .int .i64 (frE b)]) ∧ St W w' (aBy v (frB b) :: X) := by
  unfold frB frE
  by_cases hb : b.length ≤ 524288
  · rw [if_pos hb, if_pos hb]; exact frame_yes h hu hb
  · rw [if_neg hb, if_neg hb]
    exact (frame_no h hu hb).mono fun e w' ⟨he, hw⟩ => ⟨_, he, by subst hw; exact aBy.nil h⟩
theorem rframe_u (h : St W w X) (hu : Bs w u b) : Calls Tryz.prog 9 #[u] w fun e w' => ∃ v, e = .returned (.tuple #[v, .int .i64 (frE b)]) ∧ St W w' (aBy v (frB b) :: X) := by
  unfold frB frE
  by_cases hb : b.length ≤ 524288
  · rw [if_pos hb, if_pos hb]; exact rframe_yes h hu hb
  · rw [if_neg hb, if_neg hb]
    exact (rframe_no h hu hb).mono fun e w' ⟨he, hw⟩ => ⟨_, he, by subst hw; exact aBy.nil h⟩
/-- what Unframe tells -/
def unB (b : List UInt8) : List UInt8 := ((unframeF b).map (·.1)).getD []
def unN (b : List UInt8) : Int := (((unframeF b).map (·.2)).getD 0 : Nat)
def unO (b : List UInt8) : Bool := (unframeF b).isSome
theorem unpost_u {e : Ending} {w' : World} (h : St W w X) (hp : UnPost w b e w') : ∃ v, e = .returned (.tuple #[v, .int .i64 (unN b), .bool (unO b)]) ∧ St W w' (aBy v (unB b) :: X) := by
  unfold UnPost at hp
  unfold unN unO unB
  cases hr : unframeF b with
  | none => rw [hr] at hp; exact ⟨_, hp.1, aBy.nil (h.later hp.2)⟩
  | some r =>
    rw [hr] at hp
    obtain ⟨v, he, hS⟩ := hp
    exact ⟨v, he, h.onto hS⟩
theorem unB_len (h : b.length ≤ big) : (unB b).length ≤ big := by
  unfold unB
  cases hr : unframeF b with
  | none => simp [big]
  | some r => have := (unframe_le hr).2.2; simp; omega
set_option maxRecDepth 20000 in
set_option maxHeartbeats 8000000 in
theorem walFrames_c {v : Value} {x : List UInt8} (hu : Bs w u b) (hv : Bs w v x) : Calls Tryz.prog 3 #[u, v] w fun e w' => e = .returned (.bool true) ∧ B w w' := by
  obtain ⟨Au, cu, rfl⟩ := hu.rd.slice
  obtain ⟨Av, cv, rfl⟩ := hv.rd.slice
  have HU := Lib.hid hu
  have HV := Lib.hid hv
  have hxl := unB_len hv.2
  have HXL := Lib.hid hxl
  obtain ⟨ub, hub⟩ : ∃ q, unB x = q := ⟨_, rfl⟩
  obtain ⟨un, hun⟩ : ∃ q, unN x = q := ⟨_, rfl⟩
  obtain ⟨uo, huo⟩ : ∃ q, unO x = q := ⟨_, rfl⟩
  obtain ⟨fb, hfb⟩ : ∃ q, frB b = q := ⟨_, rfl⟩
  obtain ⟨fe, hfe⟩ : ∃ q, frE b = q := ⟨_, rfl⟩
  obtain ⟨z, hz⟩ : ∃ q, ((sumF b).toNat : Int) = q := ⟨_, rfl⟩
  have H0 := Lib.hid (St.nil w)
  have HF := Lib.hid (fun w' X (h : St w w' X) => show Calls Tryz.prog 8 #[.slice Au b.length cu] w' fun e w'' => ∃ v, e = .returned (.tuple #[v, .int .i64 fe]) ∧ St w w'' (aBy v fb :: X) from by
    rw [← hfb, ← hfe]; exact frame_u h (HU.out.later h.b))
  have HRF := Lib.hid (fun w' X (h : St w w' X) => show Calls Tryz.prog 9 #[.slice Au b.length cu] w' fun e w'' => ∃ v, e = .returned (.tuple #[v, .int .i64 fe]) ∧ St w w'' (aBy v fb :: X) from by
    rw [← hfb, ← hfe]; exact rframe_u h (HU.out.later h.b))
  have HUF := Lib.hid (fun w' X (h : St w w' X) => show Calls Tryz.prog 10 #[.slice Av x.length cv] w' fun e w'' => ∃ v, e = .returned (.tuple #[v, .int .i64 un, .bool uo]) ∧ St w w'' (aBy v ub :: X) from by
    rw [← hub, ← hun, ← huo]; exact (unframe_c (HV.out.later h.b)).mono fun e w'' hp => unpost_u h hp)
  have HRU := Lib.hid (fun w' X (h : St w w' X) => show Calls Tryz.prog 11 #[.slice Av x.length cv] w' fun e w'' => ∃ v, e = .returned (.tuple #[v, .int .i64 un, .bool uo]) ∧ St w w'' (aBy v ub :: X) from by
    rw [← hub, ← hun, ← huo]; exact (runframe_c (HV.out.later h.b)).mono fun e w'' hp => unpost_u h hp)
  have HSM := Lib.hid (fun w' (hb : B w w') => show Calls Tryz.prog 13 #[.slice Au b.length cu] w' fun e w'' => e = .returned (.int .u32 z) ∧ w' = w'' from by
    rw [← hz]; exact sum_c (HU.out.later hb))
  have HRS := Lib.hid (fun w' (hb : B w w') => show Calls Tryz.prog 14 #[.slice Au b.length cu] w' fun e w'' => e = .returned (.int .u32 z) ∧ w' = w'' from by
    rw [← hz]; exact rsum_c (HU.out.later hb))
  have hfl := frB_len b
  rw [hfb] at hfl
  rw [hub] at hxl
  have HFL := Lib.hid hfl
  have HUL := Lib.hid hxl
  have qf : (fb == fb) = true := by simp
  have qu : (ub == ub) = true := by simp
  obtain ⟨bl, hbl⟩ : ∃ q, b.length = q := ⟨_, rfl⟩
  obtain ⟨xl, hxl2⟩ : ∃ q, x.length = q := ⟨_, rfl⟩
  rw [hbl] at HF HRF HSM HRS ⊢
  rw [hxl2] at HUF HRU ⊢
  clear hu hv HXL hub hun huo hfb hfe hz hfl hxl hbl hxl2
  go_enter Tryz.func3, Tryz.ntmps3
  go_wp2_with (first
    | (go_at_call 8; (with_reducible refine (HF.out _ _ H0.out).mono ?_); rintro e w1 ⟨p, rfl, hS⟩; have H1 := Lib.hid hS; clear hS)
    | (go_at_call 9; (with_reducible refine (HRF.out _ _ H1.out).mono ?_); rintro e w2 ⟨q, rfl, hS⟩; have H2 := Lib.hid hS; clear hS)
    | (go_at_call 10; (with_reducible refine (HUF.out _ _ H2.out).mono ?_); rintro e w3 ⟨r, rfl, hS⟩; have H3 := Lib.hid hS; clear hS)
    | (go_at_call 11; (with_reducible refine (HRU.out _ _ H3.out).mono ?_); rintro e w4 ⟨s, rfl, hS⟩; have H4 := Lib.hid hS; clear hS)
    | (go_at_call 12; (with_reducible refine (begun_c _).mono ?_); rintro e w5 ⟨rfl, hb⟩; have H5 := Lib.hid (H4.out.later hb); clear hb)
    | (go_at_call 13; (with_reducible refine (HSM.out _ H5.out.b).mono ?_); rintro e w6 ⟨rfl, rfl⟩)
    | (go_at_call 14; (with_reducible refine (HRS.out _ H5.out.b).mono ?_); rintro e w7 ⟨rfl, rfl⟩)
    | (go_at_call_of 15 p; (with_reducible refine (equal68 (H5.out.rot4.byBs HFL.out) (H5.out.rot3.byBs HFL.out)).mono ?_); rintro e w8 ⟨rfl, rfl⟩; rw [qf])
    | (go_at_call_of 15 r; (with_reducible refine (equal68 (H5.out.swap.byBs HUL.out) (H5.out.byBs HUL.out)).mono ?_); rintro e w9 ⟨rfl, rfl⟩; rw [qu]))
  go_ret
  exact ⟨rfl, H5.out.b⟩
end
end Go.Proofs.YtnpjfjgnhadmjaaGreatDoor

/- WalFrames: whatever the bytes, sums, frames and records are the document's, and a record is there when the log is opened again. Condition: the five listed package variables hold what their initialisers lay. -/
namespace Go.Proofs.YtnpjfjgnhadmjaaGreatDoor
open Go.ChangeShapes Go.WideShapes Go.ChangeAt Go.RowKit Go.Deep
set_option linter.unusedVariables false

set_option maxRecDepth 100000 in
theorem walFrames_contract (H : Type) (enc : TypeId × Value → H) (W : World) (base : Nat) (args : Array Value) (ds gs : List (DataW H)) (before : List MemPlace)
    (hval : ∀ (j : Nat) t v, Tryz.f3.params[j]? = some t → args[j]? = some v → Value.okWide Tryz.prog W .any base t v)
    (hW : DataW.Whole enc Tryz.prog Tryz.f3.params.toList Rows.walFramesSpec.vars false W args.toList ds gs before) (hk : ∀ k, (OpenSpec.ofChange Rows.walFramesSpec).cond = some k → k H (ds ++ gs) = true)
    (hsz0 : (DataW.weightsEach Tryz.prog (Tryz.f3.params.toList ++ Rows.walFramesSpec.plain.varTypes Tryz.prog) (ds ++ gs)).all (· ≤ reachBytes) = true) :
    Calls Tryz.prog 3 args W fun e W' => ∃ v, e = .returned v ∧ Rows.walFramesSpec.post enc Tryz.prog Tryz.f3 false true false false W args v W' := by
  have hW' := hW
  obtain ⟨p, q, hA0, hV, rfl, hfz, hnd⟩ := hW
  have hA : DataW.TrodAll enc Tryz.prog W 0 (fun _ => true) true Tryz.f3.params.toList args.toList ds p := hA0
  rw [Tryz.params3] at hA hval
  obtain ⟨rfl, rfl⟩ := trodVars_none hV
  have hsz : (DataW.weightsEach Tryz.prog (Tryz.f3.params.toList ++ []) (ds ++ [])).all (· ≤ reachBytes) = true := hsz0
  rw [Tryz.params3] at hsz
  obtain ⟨v0, vs0, d0, ds0, p0, q0, hargs, rfl, rfl, h0, r0⟩ := trodAll_cons hA
  obtain ⟨v1, vs1, d1, ds1, p1, q1, rfl, rfl, rfl, h1, r1⟩ := trodAll_cons r0
  obtain ⟨rfl, rfl, rfl⟩ := trodAll_nil r1
  obtain rfl : args = #[v0, v1] := by cases args; simp_all
  have hw0 : ∀ n ∈ d0.weights Tryz.prog 22, n ≤ reachBytes := fun n hn => of_decide_eq_true (List.all_eq_true.1 hsz n (by simp [DataW.weightsEach, hn]))
  have hw1 : ∀ n ∈ d1.weights Tryz.prog 22, n ≤ reachBytes := fun n hn => of_decide_eq_true (List.all_eq_true.1 hsz n (by simp [DataW.weightsEach, hn]))
  obtain ⟨b, hb⟩ := open_bs Tryz.underlying22 Tryz.underlying5 (by kernel_rfl) (by kernel_rfl) (hval 0 22 v0 rfl rfl) h0 hw0
  obtain ⟨x, hx⟩ := open_bs Tryz.underlying22 Tryz.underlying5 (by kernel_rfl) (by kernel_rfl) (hval 1 22 v1 rfl rfl) h1 hw1
  refine (walFrames_c hb hx).mono fun e W' ⟨he, hg⟩ => ?_
  subst he
  exact ⟨_, rfl, law_post prog_laid (by kernel_rfl) rfl ⟨rfl, rfl, rfl⟩ (tb := 4) (by kernel_rfl) Tryz.underlying4 hW' hg⟩
set_option maxRecDepth 100000 in
theorem walFrames_reads (os : Os) (H : Type) (enc : TypeId × Value → H) : ∃ places, DataW.whole enc Tryz.prog ((laidWorld os).forCall (fun _ _ => 0) ⟨#[], #[.slice none 0 0, .slice none 0 0], []⟩).memory Tryz.f3.params.toList Rows.walFramesSpec.vars false (#[.slice none 0 0, .slice none 0 0] : Array Value).toList 8 = some ([.nil, .nil], [], places) :=
  ⟨[], by kernel_rfl⟩
set_option maxRecDepth 100000 in
theorem walFrames_lifted (os : Os) (started : os.Started) (H : Type) (enc : TypeId × Value → H) (F : Stop.Interp) :
    ReturnsInHanded {} Tryz.checked os 3 .any ((OpenSpec.ofChange Rows.walFramesSpec).preRow enc Tryz.prog Tryz.f3 Rows.walFramesRow.domain false Rows.walFramesRow.laid) (((OpenSpec.ofChange Rows.walFramesSpec).at F).post enc Tryz.prog Tryz.f3 false true false false) := by
  obtain ⟨places, hx⟩ := walFrames_reads os H enc
  refine returnsInHanded_of_row (C := Tryz.checked) (s := (OpenSpec.ofChange Rows.walFramesSpec)) prog_own started (by kernel_rfl) Tryz.func3
    (witness_row_atRef (enc := enc) (C := Tryz.checked) false (laidWorld os) #[.slice none 0 0, .slice none 0 0] rfl (by kernel_rfl) (by kernel_rfl) (by kernel_rfl)
      (OpenSpec.preRow_of_cond 8 hx (by kernel_rfl) (fun k hk => by cases hk) (by kernel_rfl) (laid_met os _))) ?_
  intro W base args ds gs before hval hW _ hk hsz _ _ _
  exact walFrames_contract H enc W base args ds gs before hval hW hk hsz
theorem walFrames_said : Rows.WalFramesSaid :=
  OpenClaim.holds_of_cond 3 Tryz.f3 rfl rfl rfl rfl rfl rfl rfl ⟨rfl, rfl, rfl, rfl, rfl⟩ rfl rfl rfl rfl rfl (by kernel_rfl) Tryz.func3 (by kernel_rfl)
    (of_decide_eq_true (by kernel_rfl)) (by unfold Func.isWrapper; first | (rw [if_pos (by decide +kernel)]; kernel_rfl) | (rw [if_neg (by decide +kernel)]; exact ⟨rfl, rfl⟩))
    (fun os started H enc _ F => by rw [OpenClaim.pre_eq_preRow]; exact walFrames_lifted os started H enc F)
theorem walFrames_plain (f : FuncId) (fn : Func) (hf : Tryz.pinned.checked.prog.funcNamed "bulla/bullalaw04.WalFrames" = some f) (hfn : Tryz.pinned.checked.prog.funcs[f]? = some fn) :
    true = Tryz.pinned.checked.prog.looks [] ∧ ∀ (j : Nat) t, fn.params[j]? = some t → Tryz.pinned.checked.prog.wantsStandIn t = false := by
  obtain rfl : f = 3 := Option.some.inj ((show Tryz.prog.funcNamed "bulla/bullalaw04.WalFrames" = some 3 by kernel_rfl).symm.trans hf) |>.symm
  obtain rfl : fn = Tryz.f3 := (Option.some.inj (Tryz.func3.symm.trans hfn)).symm
  refine ⟨by kernel_rfl, fun j t ht => ?_⟩
  rw [Tryz.params3] at ht
  have hm : t = 22 := by
    have := Array.mem_of_getElem? ht
    simpa using this
  subst hm
  exact (show Tryz.prog.wantsStandIn 22 = false by kernel_rfl)
theorem walFrames_holds : Rows.WalFramesCardSaid :=
  Claim7.holds_tied_plain_at .later [] _ _ _ _ walFrames_said (fun _ h => by cases h) (by kernel_rfl) (fun _ h => by cases h) walFrames_row_tie rfl ⟨rfl, rfl⟩ (by kernel_rfl) rfl walFrames_plain (by kernel_rfl)
end Go.Proofs.YtnpjfjgnhadmjaaGreatDoor
