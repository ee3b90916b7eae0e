/- MerkleParts: for every byte string and all numbers, together of bulk at most 1048576, the law returns true and leaves what it was handed as it was. -/
import Derived.Test.YthgpkbhilkdckaaZm4
/- MerkleParts: the walk. -/
namespace Go.Proofs.Ythgpkbhilkdckaa
open Go.RowKit Go.Deep
set_option linter.unusedVariables false

theorem B.drewN' {w : World} (n : Nat) : B w (w.drewN n) := ⟨rfl, rfl, rfl, Nat.le_refl _, fun _ _ => rfl⟩
theorem i64_w {x : Int} (h : -9223372036854775808 ≤ x) (h2 : x ≤ 9223372036854775807) : IntKind.i64.wrap x = x := by
  simp [IntKind.wrap, IntKind.signed, IntKind.bits]; omega
set_option maxRecDepth 20000 in
set_option maxHeartbeats 8000000 in
theorem parts_walk {W : World} {v : Value} {bs : List UInt8} (hb : Bs W v bs) (hbl : bs.length + 1 ≤ big) (l r n : Int) (hl : l ≤ 9223372036854775807) (hr : r ≤ 9223372036854775807) (hn : n ≤ 9223372036854775807) (hn0 : -9223372036854775808 ≤ n) :
    Calls Try.prog 16 #[.agg #[v, .int .i64 l, .int .i64 r, .int .i64 n]] W fun e w' => e = .returned (.bool true) ∧ B W w' := by
  obtain ⟨Ab, cb, hvb⟩ := hb.rd.slice
  obtain ⟨nb, hnb⟩ : ∃ k, bs.length = k := ⟨_, rfl⟩
  rw [hnb] at hvb
  subst hvb
  have HNB := Lib.hid (show (nb : Int) ≤ 9223372036854775807 by unfold big at hbl; omega)
  have H0 := Lib.hid (aBlk.new (St.nil W) 113 #[.slice Ab nb cb, .int .i64 l, .int .i64 r, .int .i64 n])
  have HL := Lib.hid (fun w (h : B (W.alloc (.cells #[.slice Ab nb cb, .int .i64 l, .int .i64 r, .int .i64 n] 113)) w) => live91 (H0.out.later h))
  obtain ⟨bk, hbk⟩ : ∃ bk, aBlk W.heap.size 113 #[.slice Ab nb cb, .int .i64 l, .int .i64 r, .int .i64 n] = bk := ⟨_, rfl⟩
  have HT := Lib.hid (fun (w : World) (h : St W w [bk]) => show Calls Try.prog 92 #[.slice none 0 0] w fun e w' => ∃ p r, e = .returned (.tuple #[.pointer (some ⟨p, 0, none⟩), .pointer (some ⟨r, 0, none⟩)]) ∧ St W w' [aTab p [], aRef r [], bk] from tables92 (Lss.nil _ W) h)
  have H93 := Lib.hid (fun (w : World) (p r : Nat) (h : St W w [aTab p [], aRef r [], bk]) => St.leaf93 h (by simp) (hb.later h.b) hbl)
  have H94 := Lib.hid (fun (w : World) (p r : Nat) (h : St W w [aRef r [], aTab p (sumM [] ([0] ++ bs)), bk]) => St.leaf94 h (by simp) (hb.later h.b) hbl)
  have hM1 := sumM_le (M := []) (by simp) ([0] ++ bs)
  generalize sumM [] ([0] ++ bs) = M1 at *
  generalize sumN [] ([0] ++ bs) = z1 at *
  have q1 : (z1 == z1) = true := by simp
  have H95 := Lib.hid (fun (w : World) (p q : Nat) (h : St W w [aTab p M1, aRef q M1, bk]) => St.node95 h (by omega) l r hl hr)
  have H96 := Lib.hid (fun (w : World) (p q : Nat) (h : St W w [aRef q M1, aTab p (sumM M1 (ndB l r)), bk]) => St.node96 h (by omega) l r hl hr)
  generalize sumM M1 (ndB l r) = M2 at *
  generalize sumN M1 (ndB l r) = z2 at *
  have q2 : (z2 == z2) = true := by simp
  have H97 := Lib.hid (fun w => split97 w n hn)
  have H98 := Lib.hid (fun w => split98 w n hn)
  generalize splitN n.toNat = s at *
  have q3 : ((s : Int) == (s : Int)) = true := by simp
  by_cases hc : n ≤ 1099511627776
  case' pos => obtain ⟨m, hm, hmb⟩ : ∃ m, n = m ∧ -9223372036854775808 ≤ m ∧ m ≤ 1099511627776 := ⟨n, rfl, hn0, hc⟩
  case' neg => obtain ⟨m, hm, hmb⟩ : ∃ m : Int, (1099511627776 : Int) = m ∧ -9223372036854775808 ≤ m ∧ m ≤ 1099511627776 := ⟨_, rfl, by omega, Int.le_refl _⟩
  all_goals
    obtain ⟨h, hh, hhb⟩ : ∃ h, Int.tdiv m 2 = h ∧ -9223372036854775808 ≤ h ∧ h ≤ 1099511627776 := ⟨_, rfl, by
      rcases Int.le_total 0 m with h | h
      · rw [Int.tdiv_eq_ediv_of_nonneg h]; omega
      · have : Int.tdiv m 2 = -((-m) / 2) := by rw [← Int.tdiv_eq_ediv_of_nonneg (by omega), Int.neg_tdiv, Int.neg_neg]
        omega⟩
    have H99 := Lib.hid (fun w i (hi : i ≤ 9223372036854775807) => length99 w i m hi (by omega))
    have H100 := Lib.hid (fun w i (hi : i ≤ 9223372036854775807) => length100 w i m hi (by omega))
    have HH := Lib.hid (show h ≤ 9223372036854775807 by omega)
    have HL63 := Lib.hid hl
    have q4 : ∀ i j, ((lenF i j : Int) == (lenF i j : Int)) = true := fun i j => by simp
    obtain ⟨f1, hf1⟩ : ∃ f, lenF nb m = f := ⟨_, rfl⟩
    obtain ⟨f2, hf2⟩ : ∃ f, lenF h m = f := ⟨_, rfl⟩
    obtain ⟨f3, hf3⟩ : ∃ f, lenF l m = f := ⟨_, rfl⟩
    have A1 := Lib.hid (fun w => H99.out w nb HNB.out)
    have A2 := Lib.hid (fun w => H99.out w h HH.out)
    have A3 := Lib.hid (fun w => H99.out w l HL63.out)
    have B1 := Lib.hid (fun w => H100.out w nb HNB.out)
    have B2 := Lib.hid (fun w => H100.out w h HH.out)
    have B3 := Lib.hid (fun w => H100.out w l HL63.out)
    rw [hf1] at A1 B1
    rw [hf2] at A2 B2
    rw [hf3] at A3 B3
    have e1 : ((f1 : Int) == (f1 : Int)) = true := by simp
    have e2 : ((f2 : Int) == (f2 : Int)) = true := by simp
    have e3 : ((f3 : Int) == (f3 : Int)) = true := by simp
    have hw : IntKind.i64.wrap h = h := i64_w (by omega) (by omega)
    clear q4 hf1 hf2 hf3 H99 H100 hb hbl hnb hM1 hmb hhb
    first
      | (have hh' : h = 549755813888 := by rw [← hh, ← hm]; decide
         subst hh'
         subst hm)
      | subst hm
    go_enter Try.func16, Try.ntmps16
    go_wp2_with fail
    go_quiet (fail)
    go_wp2_with (first
      | (go_at_call 91; (with_reducible refine (HL.out _ (B.drewN' _)).mono ?_); rintro e w1 ⟨rfl, hS⟩; rw [hbk] at hS; have H1 := Lib.hid hS; clear hS)
      | (go_at_call 92; (with_reducible refine (HT.out _ H1.out).mono ?_); rintro e w2 ⟨p, q, rfl, hS⟩; have H2 := Lib.hid hS; clear hS)
      | (go_at_call 93; (with_reducible refine (H93.out _ _ _ H2.out).mono ?_); rintro e w3 ⟨rfl, hS⟩; have H3 := Lib.hid hS.swap; clear hS)
      | (go_at_call 94; (with_reducible refine (H94.out _ _ _ H3.out).mono ?_); rintro e w4 ⟨rfl, hS⟩; have H4 := Lib.hid hS.swap; clear hS)
      | (go_at_call 95; (with_reducible refine (H95.out _ _ _ H4.out).mono ?_); rintro e w5 ⟨rfl, hS⟩; have H5 := Lib.hid hS.swap; clear hS)
      | (go_at_call 96; (with_reducible refine (H96.out _ _ _ H5.out).mono ?_); rintro e w6 ⟨rfl, hS⟩; have H6 := Lib.hid hS.swap; clear hS)
      | (go_at_call 97; (with_reducible refine (H97.out _).mono ?_); rintro e w7 ⟨rfl, rfl⟩)
      | (go_at_call 98; (with_reducible refine (H98.out _).mono ?_); rintro e w7 ⟨rfl, rfl⟩)
      | (go_at_call 99; (with_reducible refine (A1.out _).mono ?_); rintro e w7 ⟨rfl, rfl⟩)
      | (go_at_call 99; (with_reducible refine (A2.out _).mono ?_); rintro e w7 ⟨rfl, rfl⟩)
      | (go_at_call 99; (with_reducible refine (A3.out _).mono ?_); rintro e w7 ⟨rfl, rfl⟩)
      | (go_at_call 100; (with_reducible refine (B1.out _).mono ?_); rintro e w7 ⟨rfl, rfl⟩)
      | (go_at_call 100; (with_reducible refine (B2.out _).mono ?_); rintro e w7 ⟨rfl, rfl⟩)
      | (go_at_call 100; (with_reducible refine (B3.out _).mono ?_); rintro e w7 ⟨rfl, rfl⟩))
    all_goals
      go_ret
      exact ⟨rfl, H6.out.b⟩
end Go.Proofs.Ythgpkbhilkdckaa

/- MerkleParts: for every byte string and all numbers, together of bulk at most 1048576, the law returns true and leaves what it was handed as it was. -/
namespace Go.Proofs.Ythgpkbhilkdckaa
open Go.ChangeShapes Go.WideShapes Go.ChangeAt Go.RowKit Go.Deep Go.Joins
set_option linter.unusedVariables false

theorem merkleParts_own : ownKnob Try.prog.godebug = none := by kernel_rfl
theorem merkleParts_laid : laidOutB Try.prog = true := by kernel_rfl

set_option maxRecDepth 100000 in
theorem merkleParts_contract (H : Type) (enc : TypeId × Value → H) (W : World) (base : Nat) (args : Array Value) (ds gs : List (DataW H)) (before : List MemPlace)
    (hval : ∀ (j : Nat) t v, Try.f16.params[j]? = some t → args[j]? = some v → Value.okWide Try.prog W .any base t v)
    (hW : DataW.Whole enc Try.prog Try.f16.params.toList Rows.merklePartsSpec.vars false W args.toList ds gs before) (hk : Rows.uptoSmall H (ds ++ gs) = true) :
    Calls Try.prog 16 args W fun e W' => ∃ v, e = .returned v ∧ Rows.merklePartsSpec.post enc Try.prog Try.f16 false true false false W args v W' := by
  have hW' := hW
  obtain ⟨p, q, hA0, hV, rfl, hfz, hnd⟩ := hW
  have hA : DataW.TrodAll enc Try.prog W 0 (fun _ => true) true Try.f16.params.toList args.toList ds p := hA0
  rw [Try.params16] at hA hval
  obtain ⟨rfl, rfl⟩ := trodVars_none hV
  have hB := uptoBound hk
  rw [List.append_nil] at hB
  obtain ⟨v0, vs0, d0, ds0, p0, q0, hargs, rfl, rfl, h0, r0⟩ := trodAll_cons hA
  obtain ⟨rfl, rfl, rfl⟩ := trodAll_nil r0
  obtain rfl : args = #[v0] := by cases args; simp_all
  simp only [Rows.uptoBulkAll] at hB
  obtain ⟨c0, c1, c2, c3, y0, y1, y2, y3, m, rfl, rfl, rfl, hy0, hy1, hy2, hy3⟩ := open_agg4 Try.underlying113 (by kernel_rfl) (by kernel_rfl) (hval 0 113 v0 rfl rfl) h0
  simp only [Rows.uptoBulk, Rows.uptoBulkAll] at hB
  obtain ⟨Ac, lc, cc, hc0⟩ := slice_form Try.underlying47 hy0
  simp only [List.cons.injEq, and_true] at hc0
  subst hc0
  obtain ⟨lb, hlb, hlbl⟩ := bs_upto Try.underlying47 Try.underlying5 (by kernel_rfl) hy0 (by omega)
  obtain ⟨i0, e0, e0', w0⟩ := DataW.trod_int Try.underlying23 hy1
  obtain ⟨n0, e1, e1', w1⟩ := DataW.trod_int Try.underlying23 hy2
  obtain ⟨z0, e2, e2', w2⟩ := DataW.trod_int Try.underlying3 hy3
  simp only [List.cons.injEq, and_true] at e0 e1 e2
  subst e0 e1 e2
  have w0 := i64_arg w0
  have w1 := i64_arg w1
  have w2 := i64_arg w2

  refine (parts_walk hlb (by unfold big; omega) i0 n0 z0 w0.2 w1.2 w2.2 w2.1).mono fun e W' ⟨he, hg⟩ => ?_
  subst he
  exact ⟨_, rfl, law_post merkleParts_laid (by kernel_rfl) rfl ⟨rfl, rfl, rfl⟩ (tb := 4) (by kernel_rfl) Try.underlying4 hW' hg⟩

set_option maxRecDepth 100000 in
theorem merkleParts_lifted (os : Os) (started : os.Started) (H : Type) (enc : TypeId × Value → H) (F : Stop.Interp) :
    ReturnsInHanded {} Try.checked os 16 .any ((Rows.OpenSpec.upto Rows.merklePartsSpec).pre6 enc Try.prog Try.f16 Rows.merklePartsUptoRow.domain false) (((Rows.OpenSpec.upto Rows.merklePartsSpec).at F).post enc Try.prog Try.f16 false true false false) := by
  refine returnsInHanded_of_cond (C := Try.checked) (s := Rows.OpenSpec.upto Rows.merklePartsSpec) (k := Rows.uptoSmall) rfl merkleParts_own started (by kernel_rfl) Try.func16
    (OpenSpec.witness (enc := enc) (C := Try.checked) (s := Rows.OpenSpec.upto Rows.merklePartsSpec) (k := Rows.uptoSmall) rfl false ⟨#[], #[.agg #[.slice none 0 0, .int .i64 0, .int .i64 0, .int .i64 0]], []⟩ 8 (by kernel_rfl) (by kernel_rfl) (by kernel_rfl)
      (x := ([.agg [.nil, .lit (.int .i64 0), .lit (.int .i64 0), .lit (.int .i64 0)]], [], [])) (by kernel_rfl) rfl (by kernel_rfl)) ?_
  intro W base args ds gs before hval hW _ hk _
  exact merkleParts_contract H enc W base args ds gs before hval hW hk

theorem merklePartsUpto_holds : Rows.MerklePartsUptoSaid :=
  OpenClaim.holds_of_cond 16 Try.f16 rfl rfl rfl rfl rfl rfl rfl ⟨rfl, rfl, rfl, rfl, rfl⟩ rfl rfl rfl rfl rfl (by kernel_rfl) Try.func16 (by kernel_rfl)
    (of_decide_eq_true (by kernel_rfl)) (by unfold Func.isWrapper; first | (rw [if_pos (by decide +kernel)]; kernel_rfl) | (rw [if_neg (by decide +kernel)]; exact ⟨rfl, rfl⟩))
    (fun os started H enc _ F => merkleParts_lifted os started H enc F)

end Go.Proofs.Ythgpkbhilkdckaa
