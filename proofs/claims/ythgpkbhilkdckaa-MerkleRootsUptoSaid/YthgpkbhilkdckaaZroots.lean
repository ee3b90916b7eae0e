/- MerkleRoots: for every two lists of byte strings and every number, together of bulk at most 1048576, the law returns true and leaves what it was handed as it was. -/
import Derived.Test.YthgpkbhilkdckaaZm4
/- MerkleRoots: the walk. -/
namespace Go.Proofs.Ythgpkbhilkdckaa
open Go.RowKit Go.Deep
set_option linter.unusedVariables false
theorem proveG_from (M : List (List UInt8)) (i : Int) (L : List (List UInt8)) (hM : M.length ≤ 1048576) : (proveG M i L).2.2.length ≤ 1048576 ∧ ∀ x ∈ (proveG M i L).1, x ≤ 9223372036854775807 := by
  unfold proveG
  split
  · have := proveF_bd _ L rfl i.toNat M hM
    exact ⟨this.1, fun x hx => by have := this.2.2 x hx; omega⟩
  · exact ⟨hM, by simp⟩
set_option maxRecDepth 20000 in
set_option maxHeartbeats 4000000 in
/-- the leaves cut to L -/
theorem roots_walk {W : World} {v : Value} {A : Option Addr} {c m n : Nat} {i : Int} {L0 L : List (List UInt8)} (hv : Lss (fun g => g < W.heap.size) W v L0) (hu : Lss (fun g => g < W.heap.size) W (.slice A n c) L) (hL : L.length = n) (hn : n ≤ 40) (hlen : ∀ x ∈ L, x.length + 1 ≤ big)
    (hmn : (m : Int) ≤ 40 ∧ n = m ∨ ¬ (m : Int) ≤ 40 ∧ n = 40)
    (r1 : ∀ w' : World, (Instr.slice 46 (.slice A m c) none (some (.int .i64 (n : Int))) none).run Try.prog w' = .ok (.slice A n c) w')
    (r2 : ∀ w' : World, (Instr.sliceAt 46 (.slice A m c) none (some (.int .i64 (n : Int))) none).run Try.prog w' = .ok (.slice A n c) w') :
    Calls Try.prog 22 #[v, .slice A m c, .int .i64 i] W fun e w' => e = .returned (.bool true) ∧ B W w' := by
  have HL := Lib.hid (live91 (St.nil W))
  have HV := Lib.hid hv
  have HT := Lib.hid (fun (w : World) (h : St W w []) => tables92 hv h)
  have hT := tabL_from L0
  generalize tabL L0 = T at *
  have hT1 := rootF_from _ L rfl T hT
  have HR := Lib.hid (fun (w : World) (p r : Nat) (h : St W w [aTab p T, aRef r T]) => St.root101 n L hL hlen T w A c (fromC_le hT).1 (fun w' M' h' => ⟨_, hu.later h'.b⟩) h)
  have HR4 := Lib.hid (fun (w : World) (p r : Nat) (h : St W w [aRef r T, aTab p (rootF T L).2]) => St.root104 n L hL hlen T w A c (fromC_le hT).1 (fun w' M' h' => ⟨_, hu.later h'.b⟩) h)
  generalize rootF T L = dT at *
  obtain ⟨d, T1⟩ := dT
  simp only at hT1 HR HR4
  have HP := Lib.hid (fun (w : World) (p r : Nat) (h : St W w [aTab p T1, aRef r T1]) => St.proveG102 L n hL (by omega) hlen i T1 w A c hT1 (fun w' M' h' => ⟨_, hu.later h'.b⟩) h)
  have HP7 := Lib.hid (fun (w : World) (p r : Nat) (v' : Value) (h : St W w [aRef r T1, aDg v' (proveG T1 i L).1, aTab p (proveG T1 i L).2.2]) => St.proveG107 L n hL (by omega) hlen i T1 w A c (fromC_le hT1).1 (fun w' M' h' => ⟨_, hu.later h'.b⟩) h)
  have HG := Lib.hid (proveG_from T1 i L (fromC_le hT1).1)
  generalize proveG T1 i L = P at *
  obtain ⟨ps, er, T2⟩ := P
  simp only at HP HP7 HG
  clear hv hu hlen hT hT1 hL HV
  rcases hmn with ⟨h40, rfl⟩ | ⟨h40, hn40⟩
  case' inr => rw [show (n : Int) = 40 by omega] at r1 r2; clear hn40
  all_goals
    go_enter Try.func22, Try.ntmps22
    go_wp2_with (first
      | (go_at_call 91; (with_reducible refine HL.out.mono ?_); rintro e w1 ⟨rfl, hS⟩; have H1 := Lib.hid hS; clear hS)
      | (go_at_call 92; (with_reducible refine (HT.out _ H1.out).mono ?_); rintro e w2 ⟨p, r, rfl, hS⟩; have H2 := Lib.hid hS; clear hS)
      | (go_at_call 101; (with_reducible refine (HR.out _ _ _ H2.out).mono ?_); rintro e w3 ⟨rfl, hS⟩; have H3 := Lib.hid hS.swap; clear hS)
      | (go_at_call 104; (with_reducible refine (HR4.out _ _ _ H3.out).mono ?_); rintro e w4 ⟨rfl, hS⟩; have H4 := Lib.hid hS.swap; clear hS)
      | (go_at_call 102; (with_reducible refine (HP.out _ _ _ H4.out).mono ?_); rintro e w5 ⟨v5, rfl, hS⟩; obtain ⟨A5, c5, rfl⟩ := St.rowSlice hS; have H5 := Lib.hid hS.rot3; clear hS)
      | (go_at_call 107; (with_reducible refine (HP7.out _ _ _ _ H5.out).mono ?_); rintro e w6 ⟨v6, rfl, hS⟩; obtain ⟨A6, c6, rfl⟩ := St.rowSlice hS; have H6 := Lib.hid hS; clear hS))
    obtain ⟨A9, c9, hr9⟩ := H6.out.swap.rcell
    have l1 : ∀ w', B w6 w' → w'.cell? ⟨r, 0, none⟩ = some (.slice A9 T2.length c9) := fun w' h => h.cell hr9
    have c1 := Lib.hid (fun w' (h : B w6 w') => show Calls Try.prog 108 #[.slice A5 ps.length c5, .slice A6 ps.length c6] w' fun e w'' => e = .returned (.bool true) ∧ B w' w'' from (equal108 ((H6.out.later h).rot3.dgIs HG.out.2) ((H6.out.later h).dgIs HG.out.2)).mono fun e w'' ⟨he, hb⟩ => ⟨by rw [he]; simp, hb⟩)
    have c2 := Lib.hid (fun w' (h : B w6 w') => St.len54 (H6.out.later h).rot4)
    have q1 : (er == er) = true := by simp
    clear hr9
    go_region_held3 (fun w' => B w6 w') (first | assumption | exact (Below.refl _ _).drew | exact B.trans (by assumption) hS1 | exact B.trans (by assumption) (Below.refl _ _).drew) (first
      | (go_at_call 108; (with_reducible refine (c1.out _ (by assumption)).mono ?_); rintro e w9 ⟨rfl, hS1⟩)
      | (go_at_call 54; (with_reducible refine (c2.out _ (by assumption)).mono ?_); rintro e w10 ⟨rfl, rfl⟩))
    all_goals
      have hlast := ‹B w6 _›
      go_wp2_with fail
      go_ret
      exact ⟨rfl, H6.out.b.trans hlast⟩
end Go.Proofs.Ythgpkbhilkdckaa

/- MerkleRoots: for every two lists of byte strings and every number, together of bulk at most 1048576, the law returns true and leaves what it was handed as it was. -/
namespace Go.Proofs.Ythgpkbhilkdckaa
open Go.ChangeShapes Go.WideShapes Go.ChangeAt Go.RowKit Go.Deep Go.Joins
set_option linter.unusedVariables false

theorem merkleRoots_own : ownKnob Try.prog.godebug = none := by kernel_rfl
theorem merkleRoots_laid : laidOutB Try.prog = true := by kernel_rfl

set_option maxRecDepth 100000 in
theorem merkleRoots_contract (H : Type) (enc : TypeId × Value → H) (W : World) (base : Nat) (args : Array Value) (ds gs : List (DataW H)) (before : List MemPlace)
    (hval : ∀ (j : Nat) t v, Try.f22.params[j]? = some t → args[j]? = some v → Value.okWide Try.prog W .any base t v)
    (hW : DataW.Whole enc Try.prog Try.f22.params.toList Rows.merkleRootsSpec.vars false W args.toList ds gs before) (hk : Rows.uptoSmall H (ds ++ gs) = true) :
    Calls Try.prog 22 args W fun e W' => ∃ v, e = .returned v ∧ Rows.merkleRootsSpec.post enc Try.prog Try.f22 false true false false W args v W' := by
  have hW' := hW
  obtain ⟨p, q, hA0, hV, rfl, hfz, hnd⟩ := hW
  have hA : DataW.TrodAll enc Try.prog W 0 (fun _ => true) true Try.f22.params.toList args.toList ds p := hA0
  rw [Try.params22] at hA hval
  obtain ⟨rfl, rfl⟩ := trodVars_none hV
  have hB := uptoBound hk
  rw [List.append_nil] at hB
  obtain ⟨v0, vs0, d0, ds0, p0, q0, hargs, rfl, rfl, h0, r0⟩ := trodAll_cons hA
  obtain ⟨v1, vs1, d1, ds1, p1, q1, rfl, rfl, rfl, h1, r1⟩ := trodAll_cons r0
  obtain ⟨v2, vs2, d2, ds2, p2, q2, rfl, rfl, rfl, h2, r2⟩ := trodAll_cons r1
  obtain ⟨rfl, rfl, rfl⟩ := trodAll_nil r2
  obtain rfl : args = #[v0, v1, v2] := by cases args; simp_all
  simp only [Rows.uptoBulkAll] at hB
  obtain ⟨L, hL, hLl⟩ := open_bssU Try.underlying46 Try.underlying47 Try.underlying5 (by kernel_rfl) (by kernel_rfl) (hval 0 46 v0 rfl rfl) h0 (by omega)
  obtain ⟨L', hL', hL'l⟩ := open_bssU Try.underlying46 Try.underlying47 Try.underlying5 (by kernel_rfl) (by kernel_rfl) (hval 1 46 v1 rfl rfl) h1 (by omega)
  obtain ⟨A', m', c', n', rfl, a', b', d', e', f', g', i'⟩ := leaves_cut hL' (by omega)
  obtain ⟨n0, rfl, rfl, rfl, wn⟩ := open_int Try.underlying3 (hval 2 3 v2 rfl rfl) h2

  refine (roots_walk hL a' b' d' e' f' g' i').mono fun e W' ⟨he, hg⟩ => ?_
  subst he
  exact ⟨_, rfl, law_post merkleRoots_laid (by kernel_rfl) rfl ⟨rfl, rfl, rfl⟩ (tb := 4) (by kernel_rfl) Try.underlying4 hW' hg⟩

set_option maxRecDepth 100000 in
theorem merkleRoots_lifted (os : Os) (started : os.Started) (H : Type) (enc : TypeId × Value → H) (F : Stop.Interp) :
    ReturnsInHanded {} Try.checked os 22 .any ((Rows.OpenSpec.upto Rows.merkleRootsSpec).pre6 enc Try.prog Try.f22 Rows.merkleRootsUptoRow.domain false) (((Rows.OpenSpec.upto Rows.merkleRootsSpec).at F).post enc Try.prog Try.f22 false true false false) := by
  refine returnsInHanded_of_cond (C := Try.checked) (s := Rows.OpenSpec.upto Rows.merkleRootsSpec) (k := Rows.uptoSmall) rfl merkleRoots_own started (by kernel_rfl) Try.func22
    (OpenSpec.witness (enc := enc) (C := Try.checked) (s := Rows.OpenSpec.upto Rows.merkleRootsSpec) (k := Rows.uptoSmall) rfl false ⟨#[], #[.slice none 0 0, .slice none 0 0, .int .i64 0], []⟩ 8 (by kernel_rfl) (by kernel_rfl) (by kernel_rfl)
      (x := ([.nil, .nil, .lit (.int .i64 0)], [], [])) (by kernel_rfl) rfl (by kernel_rfl)) ?_
  intro W base args ds gs before hval hW _ hk _
  exact merkleRoots_contract H enc W base args ds gs before hval hW hk

theorem merkleRootsUpto_holds : Rows.MerkleRootsUptoSaid :=
  OpenClaim.holds_of_cond 22 Try.f22 rfl rfl rfl rfl rfl rfl rfl ⟨rfl, rfl, rfl, rfl, rfl⟩ rfl rfl rfl rfl rfl (by kernel_rfl) Try.func22 (by kernel_rfl)
    (of_decide_eq_true (by kernel_rfl)) (by unfold Func.isWrapper; first | (rw [if_pos (by decide +kernel)]; kernel_rfl) | (rw [if_neg (by decide +kernel)]; exact ⟨rfl, rfl⟩))
    (fun os started H enc _ F => merkleRoots_lifted os started H enc F)

end Go.Proofs.Ythgpkbhilkdckaa
