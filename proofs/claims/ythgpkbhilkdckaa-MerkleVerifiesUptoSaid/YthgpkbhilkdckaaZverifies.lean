/- MerkleVerifies: for every list of byte strings and every claim, together of bulk at most 1048576, the law returns true and leaves what it was handed as it was. -/
import Derived.Test.YthgpkbhilkdckaaZm4
/- MerkleVerifies: the walk. -/
namespace Go.Proofs.Ythgpkbhilkdckaa
open Go.RowKit Go.Deep
set_option linter.unusedVariables false

set_option maxRecDepth 20000 in
set_option maxHeartbeats 8000000 in
theorem verifies_walk {W : World} {A : Option Addr} {c m n : Nat} {L : List (List UInt8)} (hu : Lss (fun g => g < W.heap.size) W (.slice A n c) L) (hL : L.length = n) (hn : n ≤ 40) (hlen : ∀ x ∈ L, x.length + 1 ≤ big)
    (hmn : (m : Int) ≤ 40 ∧ n = m ∨ ¬ (m : Int) ≤ 40 ∧ n = 40)
    (r1 : ∀ w' : World, (Instr.slice 46 (.slice A m c) none (some (.int .i64 (n : Int))) none).run Try.prog w' = .ok (.slice A n c) w')
    (r2 : ∀ w' : World, (Instr.sliceAt 46 (.slice A m c) none (some (.int .i64 (n : Int))) none).run Try.prog w' = .ok (.slice A n c) w')
    {vl vp : Value} {i0 n0 d0 : Int} {b0 : Bool} {lb : List UInt8} {xs : List Int} (hlb : Bs W vl lb) (hlbl : lb.length + 1 ≤ big) (hxs : Is W vp xs) (hi63 : i0 ≤ 9223372036854775807) (hn63 : n0 ≤ 9223372036854775807) :
    Calls Try.prog 20 #[.slice A m c, .agg #[vl, .int .i64 i0, .int .i64 n0, vp, .int .i64 d0, .bool b0]] W fun e w' => e = .returned (.bool true) ∧ B W w' := by
  obtain ⟨Al, cl, rfl⟩ := hlb.rd.slice
  obtain ⟨Ap, cp, hvp, _⟩ := id hxs
  subst hvp
  obtain ⟨nl, hnl⟩ : ∃ k, lb.length = k := ⟨_, rfl⟩
  obtain ⟨np, hnp⟩ : ∃ k, xs.length = k := ⟨_, rfl⟩
  rw [hnl] at hlb ⊢
  rw [hnp] at hxs ⊢
  have H0 := Lib.hid (aBlk.new (St.nil W) 131 #[(.slice Al nl cl), .int .i64 i0, .int .i64 n0, (.slice Ap np cp), .int .i64 d0, .bool b0])
  have HL := Lib.hid (live91 H0.out)
  have HT := Lib.hid (fun (w : World) (g : Nat) (h : St W w [aBlk g 131 #[(.slice Al nl cl), .int .i64 i0, .int .i64 n0, (.slice Ap np cp), .int .i64 d0, .bool b0]]) => show Calls Try.prog 92 #[.slice none 0 0] w fun e w' => ∃ p r, e = .returned (.tuple #[.pointer (some ⟨p, 0, none⟩), .pointer (some ⟨r, 0, none⟩)]) ∧ St W w' [aTab p [], aRef r [], aBlk g 131 #[(.slice Al nl cl), .int .i64 i0, .int .i64 n0, (.slice Ap np cp), .int .i64 d0, .bool b0]] from tables92 (Lss.nil _ W) h)
  have HR := Lib.hid (fun (w : World) (g p r : Nat) (h : St W w [aTab p [], aRef r [], aBlk g 131 #[(.slice Al nl cl), .int .i64 i0, .int .i64 n0, (.slice Ap np cp), .int .i64 d0, .bool b0]]) => St.root101 n L hL hlen [] w A c (by simp) (fun w' M' h' => ⟨_, hu.later h'.b⟩) h)
  have HR4 := Lib.hid (fun (w : World) (g p r : Nat) (h : St W w [aRef r [], aTab p (rootF [] L).2, aBlk g 131 #[(.slice Al nl cl), .int .i64 i0, .int .i64 n0, (.slice Ap np cp), .int .i64 d0, .bool b0]]) => St.root104 n L hL hlen [] w A c (by simp) (fun w' M' h' => ⟨_, hu.later h'.b⟩) h)
  have hM1 := (rootF_bd _ L rfl [] (by simp)).1
  generalize rootF [] L = dT at *
  obtain ⟨d, T1⟩ := dT
  simp only at hM1 HR HR4
  have HV := Lib.hid (fun (w : World) (p : Nat) (X : List Asn) (dd : Int) (h : St W w (aTab p T1 :: X)) => show Calls Try.prog 103 #[.pointer (some ⟨p, 0, none⟩), .int .i64 dd, (.slice Al nl cl), .int .i64 i0, .int .i64 n0, (.slice Ap np cp)] w fun e w' => e = .returned (.bool (verF T1 dd lb i0 n0 xs)) ∧ B w w' by
    obtain ⟨own, ht, _⟩ := h.get
    exact verify103 ht hM1 (hlb.later h.b) hlbl (hxs.later h.b) dd i0 n0 hi63 hn63)
  have HV5 := Lib.hid (fun (w : World) (p : Nat) (X : List Asn) (dd : Int) (h : St W w (aRef p T1 :: X)) => show Calls Try.prog 105 #[.pointer (some ⟨p, 0, none⟩), .int .i64 dd, (.slice Al nl cl), .int .i64 i0, .int .i64 n0, (.slice Ap np cp)] w fun e w' => e = .returned (.bool (verF T1 dd lb i0 n0 xs)) ∧ B w w' by
    obtain ⟨own, ht, _⟩ := h.get
    exact verify105 ht hM1 (hlb.later h.b) hlbl (hxs.later h.b) dd i0 n0 hi63 hn63)
  have HC5 := Lib.hid (fun (w : World) (g p r : Nat) (h : St W w [aRef r T1, aTab p T1, aBlk g 131 #[(.slice Al nl cl), .int .i64 i0, .int .i64 n0, (.slice Ap np cp), .int .i64 d0, .bool b0]]) => (⟨h.cellOf (g := g) (t := 131) (cs := #[(.slice Al nl cl), .int .i64 i0, .int .i64 n0, (.slice Ap np cp), .int .i64 d0, .bool b0]) (by simp) 5, h.cellOf (g := g) (t := 131) (cs := #[(.slice Al nl cl), .int .i64 i0, .int .i64 n0, (.slice Ap np cp), .int .i64 d0, .bool b0]) (by simp) 4, h.frozenOf (g := g) (t := 131) (cs := #[(.slice Al nl cl), .int .i64 i0, .int .i64 n0, (.slice Ap np cp), .int .i64 d0, .bool b0]) (by simp) 4⟩ : w.cell? ⟨g, 5, none⟩ = some (.bool b0) ∧ w.cell? ⟨g, 4, none⟩ = some (.int .i64 d0) ∧ w.frozen? ⟨g, 4, none⟩ = false))
  have HCS := Lib.hid (fun (w : World) (g p r : Nat) (dd : Int) (h : St W w [aBlk g 131 #[(.slice Al nl cl), .int .i64 i0, .int .i64 n0, (.slice Ap np cp), .int .i64 dd, .bool b0], aRef r T1, aTab p T1]) => (⟨(aBlk.get h).cell 0, (aBlk.get h).cell 1, (aBlk.get h).cell 2, (aBlk.get h).cell 3, (aBlk.get h).cell 4⟩ : w.cell? ⟨g, 0, none⟩ = some (.slice Al nl cl) ∧ w.cell? ⟨g, 1, none⟩ = some (.int .i64 i0) ∧ w.cell? ⟨g, 2, none⟩ = some (.int .i64 n0) ∧ w.cell? ⟨g, 3, none⟩ = some (.slice Ap np cp) ∧ w.cell? ⟨g, 4, none⟩ = some (.int .i64 dd)))
  clear hu hlen hM1 hL hn hlb hlbl hxs hi63 hn63
  have e40 : ((40 : Nat) : Int) = 40 := rfl
  rcases hmn with ⟨h40, rfl⟩ | ⟨h40, rfl⟩
  case' inr => rw [e40] at r1 r2
  all_goals
    clear e40
    cases b0
  all_goals
    go_enter Try.func20, Try.ntmps20
    go_wp2_with (first
      | (go_at_call 91; (with_reducible refine HL.out.mono ?_); rintro e w1 ⟨rfl, hS⟩; have H1 := Lib.hid hS; clear hS)
      | (go_at_call 92; (with_reducible refine (HT.out _ _ H1.out).mono ?_); rintro e w2 ⟨p, r, rfl, hS⟩; have H2 := Lib.hid hS; clear hS)
      | (go_at_call 101; (with_reducible refine (HR.out _ _ _ _ H2.out).mono ?_); rintro e w3 ⟨rfl, hS⟩; have H3 := Lib.hid hS.swap; clear hS)
      | (go_at_call 104; (with_reducible refine (HR4.out _ _ _ _ H3.out).mono ?_); rintro e w4 ⟨rfl, hS⟩; obtain ⟨k5, k4, f4⟩ := HC5.out _ _ _ _ hS; have H4 := Lib.hid hS.rot3; have H5 := Lib.hid (aBlk.set hS.rot3 4 (.int .i64 d)); clear hS)
      | (go_at_call 54; (with_reducible refine (St.len54 H4.out.rot3).mono ?_); rintro e w5 ⟨rfl, rfl⟩)
      | (go_at_call 54; (with_reducible refine (St.len54 H5.out.rot3).mono ?_); rintro e w5 ⟨rfl, rfl⟩))
  all_goals
    first
      | (have H9 := Lib.hid (show St W (w4.setCell ⟨W.heap.size, 4, none⟩ (.int .i64 d)) [aBlk W.heap.size 131 #[(.slice Al nl cl), .int .i64 i0, .int .i64 n0, (.slice Ap np cp), .int .i64 d, .bool true], aRef r T1, aTab p T1] from H5.out)
         clear H4 H5
         generalize w4.setCell ⟨W.heap.size, 4, none⟩ (.int .i64 d) = w9 at *
         have hcs := fun w' (hb : B w9 w') => HCS.out w' W.heap.size p r d (H9.out.later hb)
         have l5 : ∀ w', B w9 w' → w'.cell? ⟨W.heap.size, 4, none⟩ = some (.int .i64 d) := fun w' hb => (hcs w' hb).2.2.2.2
         have c1 := Lib.hid (fun w' (hb : B w9 w') => HV.out w' _ _ d (H9.out.rot3.later hb))
         have c2 := Lib.hid (fun w' (hb : B w9 w') => HV5.out w' _ _ d (H9.out.swap.later hb))
         generalize verF T1 d lb i0 n0 xs = z at *)
      | (have H9 := H4
         clear H5 H4
         generalize w4 = w9 at *
         have hcs := fun w' (hb : B w9 w') => HCS.out w' W.heap.size p r d0 (H9.out.later hb)
         have l5 : ∀ w', B w9 w' → w'.cell? ⟨W.heap.size, 4, none⟩ = some (.int .i64 d0) := fun w' hb => (hcs w' hb).2.2.2.2
         have c1 := Lib.hid (fun w' (hb : B w9 w') => HV.out w' _ _ d0 (H9.out.rot3.later hb))
         have c2 := Lib.hid (fun w' (hb : B w9 w') => HV5.out w' _ _ d0 (H9.out.swap.later hb))
         generalize verF T1 d0 lb i0 n0 xs = z at *)
    have l1 : ∀ w', B w9 w' → w'.cell? ⟨W.heap.size, 0, none⟩ = some (.slice Al nl cl) := fun w' hb => (hcs w' hb).1
    have l2 : ∀ w', B w9 w' → w'.cell? ⟨W.heap.size, 1, none⟩ = some (.int .i64 i0) := fun w' hb => (hcs w' hb).2.1
    have l3 : ∀ w', B w9 w' → w'.cell? ⟨W.heap.size, 2, none⟩ = some (.int .i64 n0) := fun w' hb => (hcs w' hb).2.2.1
    have l4 : ∀ w', B w9 w' → w'.cell? ⟨W.heap.size, 3, none⟩ = some (.slice Ap np cp) := fun w' hb => (hcs w' hb).2.2.2.1
    have c3 := Lib.hid (fun w' (hb : B w9 w') => St.len54 (H9.out.rot3.later hb))
    clear hcs
    have q1 : (z == z) = true := by simp
    go_region_held3 (fun w' => B w9 w') (first | assumption | exact (Below.refl _ _).drew | exact B.trans (by assumption) hS1 | exact B.trans (by assumption) (Below.refl _ _).drew) (first
      | (go_at_call 103; (with_reducible refine (c1.out _ (by assumption)).mono ?_); rintro e w5 ⟨rfl, hS1⟩)
      | (go_at_call 105; (with_reducible refine (c2.out _ (by assumption)).mono ?_); rintro e w6 ⟨rfl, hS1⟩)
      | (go_at_call 54; (with_reducible refine (c3.out _ (by assumption)).mono ?_); rintro e w7 ⟨rfl, rfl⟩))
    all_goals
      have hlast := ‹B w9 _›
      go_wp2_with fail
      go_ret
      exact ⟨rfl, H9.out.b.trans hlast⟩
end Go.Proofs.Ythgpkbhilkdckaa

/- MerkleVerifies: for every list of byte strings and every claim, together of bulk at most 1048576, the law returns true and leaves what it was handed as it was. -/
namespace Go.Proofs.Ythgpkbhilkdckaa
open Go.ChangeShapes Go.WideShapes Go.ChangeAt Go.RowKit Go.Deep Go.Joins
set_option linter.unusedVariables false

theorem merkleVerifies_own : ownKnob Try.prog.godebug = none := by kernel_rfl
theorem merkleVerifies_laid : laidOutB Try.prog = true := by kernel_rfl

set_option maxRecDepth 100000 in
theorem merkleVerifies_contract (H : Type) (enc : TypeId × Value → H) (W : World) (base : Nat) (args : Array Value) (ds gs : List (DataW H)) (before : List MemPlace)
    (hval : ∀ (j : Nat) t v, Try.f20.params[j]? = some t → args[j]? = some v → Value.okWide Try.prog W .any base t v)
    (hW : DataW.Whole enc Try.prog Try.f20.params.toList Rows.merkleVerifiesSpec.vars false W args.toList ds gs before) (hk : Rows.uptoSmall H (ds ++ gs) = true) :
    Calls Try.prog 20 args W fun e W' => ∃ v, e = .returned v ∧ Rows.merkleVerifiesSpec.post enc Try.prog Try.f20 false true false false W args v W' := by
  have hW' := hW
  obtain ⟨p, q, hA0, hV, rfl, hfz, hnd⟩ := hW
  have hA : DataW.TrodAll enc Try.prog W 0 (fun _ => true) true Try.f20.params.toList args.toList ds p := hA0
  rw [Try.params20] at hA hval
  obtain ⟨rfl, rfl⟩ := trodVars_none hV
  have hB := uptoBound hk
  rw [List.append_nil] at hB
  obtain ⟨v0, vs0, d0, ds0, p0, q0, hargs, rfl, rfl, h0, r0⟩ := trodAll_cons hA
  obtain ⟨v1, vs1, d1, ds1, p1, q1, rfl, rfl, rfl, h1, r1⟩ := trodAll_cons r0
  obtain ⟨rfl, rfl, rfl⟩ := trodAll_nil r1
  obtain rfl : args = #[v0, v1] := by cases args; simp_all
  simp only [Rows.uptoBulkAll] at hB
  obtain ⟨L, hL, hLl⟩ := open_bssU Try.underlying46 Try.underlying47 Try.underlying5 (by kernel_rfl) (by kernel_rfl) (hval 0 46 v0 rfl rfl) h0 (by omega)
  obtain ⟨A, m, c, n, rfl, a, b, d, e, f, g, i⟩ := leaves_cut hL (by omega)
  obtain ⟨c0, c1, c2, c3, c4, c5, y0, y1, y2, y3, y4, y5, m, rfl, rfl, rfl, hy0, hy1, hy2, hy3, hy4, hy5⟩ := open_agg6 Try.underlying131 (by kernel_rfl) (by kernel_rfl) (hval 1 131 v1 rfl rfl) h1
  simp only [Rows.uptoBulk, Rows.uptoBulkAll] at hB
  obtain ⟨Ac, lc, cc, hc0⟩ := slice_form Try.underlying47 hy0
  simp only [List.cons.injEq, and_true] at hc0
  subst hc0
  obtain ⟨lb, hlb, hlbl⟩ := bs_upto Try.underlying47 Try.underlying5 (by kernel_rfl) hy0 (by omega)
  obtain ⟨i0, e0, e0', w0⟩ := DataW.trod_int Try.underlying3 hy1
  obtain ⟨n0, e1, e1', w1⟩ := DataW.trod_int Try.underlying3 hy2
  obtain ⟨xs, hxs⟩ := open_is Try.underlying124 Try.underlying23 (by kernel_rfl) hy3
  obtain ⟨z0, e2, e2', w2⟩ := DataW.trod_int Try.underlying23 hy4
  obtain ⟨t0, e3, e3'⟩ := DataW.trod_bool Try.underlying4 hy5
  simp only [List.cons.injEq, and_true] at e0 e1 e2 e3
  subst e0 e1 e2 e3
  have w0 := i64_arg w0
  have w1 := i64_arg w1

  refine (verifies_walk a b d e f g i hlb (by unfold big; omega) hxs w0.2 w1.2).mono fun e W' ⟨he, hg⟩ => ?_
  subst he
  exact ⟨_, rfl, law_post merkleVerifies_laid (by kernel_rfl) rfl ⟨rfl, rfl, rfl⟩ (tb := 4) (by kernel_rfl) Try.underlying4 hW' hg⟩

set_option maxRecDepth 100000 in
theorem merkleVerifies_lifted (os : Os) (started : os.Started) (H : Type) (enc : TypeId × Value → H) (F : Stop.Interp) :
    ReturnsInHanded {} Try.checked os 20 .any ((Rows.OpenSpec.upto Rows.merkleVerifiesSpec).pre6 enc Try.prog Try.f20 Rows.merkleVerifiesUptoRow.domain false) (((Rows.OpenSpec.upto Rows.merkleVerifiesSpec).at F).post enc Try.prog Try.f20 false true false false) := by
  refine returnsInHanded_of_cond (C := Try.checked) (s := Rows.OpenSpec.upto Rows.merkleVerifiesSpec) (k := Rows.uptoSmall) rfl merkleVerifies_own started (by kernel_rfl) Try.func20
    (OpenSpec.witness (enc := enc) (C := Try.checked) (s := Rows.OpenSpec.upto Rows.merkleVerifiesSpec) (k := Rows.uptoSmall) rfl false ⟨#[], #[.slice none 0 0, .agg #[.slice none 0 0, .int .i64 0, .int .i64 0, .slice none 0 0, .int .i64 0, .bool false]], []⟩ 8 (by kernel_rfl) (by kernel_rfl) (by kernel_rfl)
      (x := ([.nil, .agg [.nil, .lit (.int .i64 0), .lit (.int .i64 0), .nil, .lit (.int .i64 0), .lit (.bool false)]], [], [])) (by kernel_rfl) rfl (by kernel_rfl)) ?_
  intro W base args ds gs before hval hW _ hk _
  exact merkleVerifies_contract H enc W base args ds gs before hval hW hk

theorem merkleVerifiesUpto_holds : Rows.MerkleVerifiesUptoSaid :=
  OpenClaim.holds_of_cond 20 Try.f20 rfl rfl rfl rfl rfl rfl rfl ⟨rfl, rfl, rfl, rfl, rfl⟩ rfl rfl rfl rfl rfl (by kernel_rfl) Try.func20 (by kernel_rfl)
    (of_decide_eq_true (by kernel_rfl)) (by unfold Func.isWrapper; first | (rw [if_pos (by decide +kernel)]; kernel_rfl) | (rw [if_neg (by decide +kernel)]; exact ⟨rfl, rfl⟩))
    (fun os started H enc _ F => merkleVerifies_lifted os started H enc F)

end Go.Proofs.Ythgpkbhilkdckaa
