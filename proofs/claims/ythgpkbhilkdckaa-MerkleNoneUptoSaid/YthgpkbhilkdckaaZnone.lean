/- MerkleNone: for every list of byte strings of bulk at most 1048576 and every number the law returns true and leaves what it was handed as it was. -/
import Derived.Test.YthgpkbhilkdckaaZm4
/- MerkleNone: a table that no call made. -/
namespace Go.Proofs.Ythgpkbhilkdckaa
open Go.RowKit Go.Deep
set_option linter.unusedVariables false

theorem NoOne.ptr {T : TypeId} {w : World} {v : Value} (h : NoOne T w v) : ∃ q, v = .pointer q := by
  rcases h with h | ⟨p, h, _⟩
  · exact ⟨_, h⟩
  · exact ⟨_, h⟩
theorem leaf93n {w : World} {t v : Value} {b : List UInt8} (h : NoOne 105 w t) (hb : Bs w v b) (hl : b.length + 1 ≤ big) : Calls Try.prog 93 #[t, v] w fun e w' => e = .returned (.int .i64 0) ∧ B w w' := by
  have HC := Lib.hid (leaf123 hb hl)
  have HN := Lib.hid h
  clear h hb hl
  go_enter Try.func93, Try.ntmps93
  go_wp2_with (first
    | (go_at_call 123; (with_reducible refine HC.out.mono ?_); rintro e w1 ⟨v1, rfl, r1, hb1⟩; have H1 := Lib.hid hb1; clear r1 hb1)
    | (go_at_call 52; (with_reducible refine (sum52n (HN.out.later H1.out) _).mono ?_); rintro e w2 ⟨rfl, hb2⟩; have H2 := Lib.hid (H1.out.trans hb2); clear hb2))
  go_ret
  exact ⟨rfl, H2.out⟩
theorem node95n {w : World} {t : Value} (h : NoOne 105 w t) (l r : Int) (hl : l ≤ 9223372036854775807) (hr : r ≤ 9223372036854775807) : Calls Try.prog 95 #[t, .int .i64 l, .int .i64 r] w fun e w' => e = .returned (.int .i64 0) ∧ B w w' := by
  have HC := Lib.hid (node125 w l r hl hr)
  have HN := Lib.hid h
  clear h hl hr
  go_enter Try.func95, Try.ntmps95
  go_wp2_with (first
    | (go_at_call 125; (with_reducible refine HC.out.mono ?_); rintro e w1 ⟨v1, rfl, r1, hb1⟩; have H1 := Lib.hid hb1; clear r1 hb1)
    | (go_at_call 52; (with_reducible refine (sum52n (HN.out.later H1.out) _).mono ?_); rintro e w2 ⟨rfl, hb2⟩; have H2 := Lib.hid (H1.out.trans hb2); clear hb2))
  go_ret
  exact ⟨rfl, H2.out⟩
set_option maxRecDepth 20000 in
set_option maxHeartbeats 4000000 in
theorem root101n {inn : Nat → Prop} {t : Value} : ∀ (n : Nat) (L : List (List UInt8)), L.length = n → (∀ x ∈ L, x.length + 1 ≤ big) → ∀ (w : World) (A : Option Addr) (c : Nat), Lss inn w (.slice A n c) L → NoOne 105 w t →
    Calls Try.prog 101 #[t, .slice A n c] w fun e w' => e = .returned (.int .i64 0) ∧ B w w' := by
  intro n
  induction n using Nat.strongRecOn with
  | ind n ih =>
    intro L hL hlen w A c hl h
    have HN := Lib.hid h
    have HLEN := Lib.hid hlen
    obtain ⟨A', c', hv', hnn, hc1, hm1, hr⟩ := id hl
    injection hv' with e1 e0 e2
    subst e1 e2
    clear hnn
    have hn63 : (n : Int) ≤ 9223372036854775807 := by unfold maxLen at hm1; omega
    by_cases h2 : 2 ≤ n
    · have hb := splitN_bd h2
      have HSP := Lib.hid (split97 w (n : Int) hn63)
      rw [Int.toNat_natCast] at HSP
      have hl' : Lss inn w (.slice A L.length c) L := by rw [hL]; exact hl
      have t1 := hl'.to (splitN n) (by omega)
      have t2 := hl'.from_ (splitN n) (by omega)
      rw [hL] at t2
      have IH1 := Lib.hid (ih (splitN n) hb.2 (L.take (splitN n)) (by simp; omega) (fun x hx => hlen x (List.mem_of_mem_take hx)) w A c t1 h)
      have IH2 := Lib.hid (fun (w2 : World) (hw : B w w2) => ih (n - splitN n) (by omega) (L.drop (splitN n)) (by simp; omega) (fun x hx => hlen x (List.mem_of_mem_drop hx)) w2 (cutA A c (splitN n)) (c - splitN n) (t2.later hw) (h.later hw))
      have hsn : (splitN n : Int) ≤ n := by omega
      have r1 : ∀ w' : World, (Instr.slice 46 (.slice A n c) none (some (.int .i64 (splitN n : Int))) none).run Try.prog w' = .ok (.slice A (splitN n) c) w' := fun w' => (Lss.runTo (by omega) (by omega) w').1
      have r2 : ∀ w' : World, (Instr.sliceAt 46 (.slice A n c) none (some (.int .i64 (splitN n : Int))) none).run Try.prog w' = .ok (.slice A (splitN n) c) w' := fun w' => (Lss.runTo (by omega) (by omega) w').2
      have r3 : ∀ w' : World, (Instr.slice 46 (.slice A n c) (some (.int .i64 (splitN n : Int))) none none).run Try.prog w' = .ok (.slice (cutA A c (splitN n)) (n - splitN n) (c - splitN n)) w' := fun w' => (Lss.runFrom (by omega) (by omega) w').1
      have r4 : ∀ w' : World, (Instr.sliceAt 46 (.slice A n c) (some (.int .i64 (splitN n : Int))) none none).run Try.prog w' = .ok (.slice (cutA A c (splitN n)) (n - splitN n) (c - splitN n)) w' := fun w' => (Lss.runFrom (by omega) (by omega) w').2
      have q0 : ((n : Int) == 0) = false := by simp; omega
      have q1 : ((n : Int) == 1) = false := by simp; omega
      generalize cutA A c (splitN n) = A2 at *
      generalize n - splitN n = n2 at *
      generalize c - splitN n = c2 at *
      generalize splitN n = sp at *
      clear hb ih hlen h hl hl' t1 t2 hr hc1 hm1 h2 hL e0
      go_enter Try.func101, Try.ntmps101
      go_wp2_with (first
        | (go_at_call 97; (with_reducible refine HSP.out.mono ?_); rintro e w1 ⟨rfl, rfl⟩)
        | (go_at_call 101; (with_reducible refine IH1.out.mono ?_); rintro e w2 ⟨rfl, hb2⟩; have H2 := Lib.hid hb2; clear hb2)
        | (go_at_call 101; (with_reducible refine (IH2.out _ H2.out).mono ?_); rintro e w3 ⟨rfl, hb3⟩; have H3 := Lib.hid (H2.out.trans hb3); clear hb3)
        | (go_at_call 95; (with_reducible refine (node95n (HN.out.later H3.out) 0 0 (by omega) (by omega)).mono ?_); rintro e w4 ⟨rfl, hb4⟩; have H4 := Lib.hid (H3.out.trans hb4); clear hb4))
      go_ret
      exact ⟨rfl, H4.out⟩
    · match L, hL with
      | [], hL =>
        obtain rfl : n = 0 := by simpa using hL.symm
        have HB := Lib.hid (B.alloc' w (.cells #[.int .u8 2] 5))
        clear ih hlen h hl hr hc1 hm1 h2 hn63 e0
        go_enter Try.func101, Try.ntmps101
        go_wp2_with (first
          | (go_at_call 52; (with_reducible refine (sum52n (HN.out.later HB.out) _).mono ?_); rintro e w2 ⟨rfl, hb2⟩; have H2 := Lib.hid (HB.out.trans hb2); clear hb2))
        go_ret
        exact ⟨rfl, H2.out⟩
      | [x], hL =>
        obtain rfl : n = 1 := by simpa using hL.symm
        obtain ⟨b, off, rfl, hb, _, hx⟩ := hr (by simp)
        obtain ⟨u, k1, k2, _⟩ := hx 0 x rfl
        have HS := Lib.hid (leaf93n h k2 (hlen x (by simp)))
        have k1 : w.cell? ⟨b, off, none⟩ = some u := by simpa using k1
        clear ih hlen h hl hr hc1 hm1 h2 hx k2 hn63 e0
        go_enter Try.func101, Try.ntmps101
        go_wp2_with (first
          | (go_at_call 93; (with_reducible refine HS.out.mono ?_); rintro e w2 ⟨rfl, hb2⟩; have H2 := Lib.hid hb2; clear hb2))
        go_ret
        exact ⟨rfl, H2.out⟩
      | y :: z :: r, hL => exact absurd (by simp at hL; omega) h2
theorem prove102n {w : World} {t v : Value} (h : NoOne 105 w t) (i : Int) : Calls Try.prog 102 #[t, .int .i64 i, v] w fun e w' => e = .returned (.tuple #[.slice none 0 0, .int .i64 2]) ∧ B w w' := by
  obtain ⟨q, rfl⟩ := h.ptr
  have HN := Lib.hid (h.later (B.alloc' w (.cells #[.pointer q] 48)))
  have HB := Lib.hid (B.alloc' w (.cells #[.pointer q] 48))
  clear h
  go_enter Try.func102, Try.ntmps102
  go_wp2_with (first
    | (go_at_call 62; (with_reducible refine (tclone62n HN.out).mono ?_); rintro e w2 ⟨rfl, hb2⟩; have H2 := Lib.hid (HB.out.trans hb2); clear hb2))
  go_ret2
  exact ⟨rfl, H2.out⟩
set_option maxRecDepth 20000 in
set_option maxHeartbeats 4000000 in
theorem up128n {w : World} {t : Value} {bt bb : Nat} {f : Value} (h : NoOne 105 w t) (h1 : w.cell? ⟨bt, 0, none⟩ = some t) (h2 : w.cell? ⟨bb, 0, none⟩ = some (.slice none 0 0)) :
    Calls Try.prog 128 #[.int .i64 0, .int .i64 1, .slice none 0 0, .pointer (some ⟨bt, 0, none⟩), .pointer (some ⟨bb, 0, none⟩), f] w fun e w' => e = .returned (.tuple #[.int .i64 0, .bool false]) ∧ B w w' := by
  have lt1 : ∀ w', B w w' → w'.cell? ⟨bt, 0, none⟩ = some t := fun w' h => h.cell h1
  have lt2 : ∀ w', B w w' → w'.cell? ⟨bb, 0, none⟩ = some (.slice none 0 0) := fun w' h => h.cell h2
  have HT := Lib.hid h
  have HL := Lib.hid (fun (w' : World) (hw : B w w') => leaf123 (Bs.nil w') (by unfold big; decide))
  clear h h1 h2
  go_enter Try.func128, Try.ntmps128
  go_wp2_with fail
  go_region_held3 (fun w' => B w w') (first | assumption | exact (Below.refl _ _).drew | exact B.trans (by assumption) hb2 | exact B.trans (by assumption) hb3 | exact B.trans (by assumption) (Below.refl _ _).drew) (first
    | (go_at_call 123; (with_reducible refine (HL.out _ (by assumption)).mono ?_); rintro e w3 ⟨v3, rfl, r3, hb3⟩; clear r3)
    | (go_at_call 66; (with_reducible refine (look66n (HT.out.later (by assumption)) _).mono ?_); rintro e w4 ⟨rfl, hb2⟩))
  have hBx := ‹B w _›
  go_wp2_with fail
  go_ret2
  exact ⟨rfl, hBx⟩
set_option maxRecDepth 20000 in
set_option maxHeartbeats 4000000 in
theorem verify103n {w : World} {t : Value} (h : NoOne 105 w t) :
    Calls Try.prog 103 #[t, .int .i64 0, .slice none 0 0, .int .i64 0, .int .i64 1, .slice none 0 0] w fun e w' => e = .returned (.bool false) ∧ B w w' := by
  obtain ⟨q, rfl⟩ := h.ptr
  have HL := Lib.hid (fun w => length99 w 0 1 (by omega) (by omega))
  rw [show lenF 0 1 = 0 by unfold lenF; rw [if_neg (by omega)]; exact lenW_one (by decide)] at HL
  have HB3 := Lib.hid (((B.alloc' w (.cells #[.pointer q] 48)).trans (B.alloc' _ (.cells #[.slice none 0 0] 47))).trans (B.alloc' ((w.alloc (.cells #[.pointer q] 48)).alloc (.cells #[.slice none 0 0] 47)) (.cells #[.func (.func 128) #[] #[.pointer (some ⟨w.heap.size, 0, none⟩), .pointer (some ⟨w.heap.size + 1, 0, none⟩), .pointer (some ⟨w.heap.size + 1 + 1, 0, none⟩)]] 146)))
  have HU := Lib.hid (up128n (f := .pointer (some ⟨w.heap.size + 1 + 1, 0, none⟩)) (bt := w.heap.size) (bb := w.heap.size + 1) (h.later HB3.out) (by simp [go_sem]) (by simp [go_sem]))
  clear h
  go_enter Try.func103, Try.ntmps103
  go_wp2_with (first
    | (go_at_call 99; (with_reducible refine (HL.out _).mono ?_); rintro e w1 ⟨rfl, rfl⟩)
    | (go_at_call 128; (with_reducible refine HU.out.mono ?_); rintro e w2 ⟨rfl, hb2⟩))
  go_ret
  exact ⟨rfl, HB3.out.trans hb2⟩
set_option maxRecDepth 20000 in
set_option maxHeartbeats 4000000 in
theorem none_walk {W : World} {v : Value} {L : List (List UInt8)} (i : Int) (hv : Lss (fun g => g < W.heap.size) W v L) (hlen : ∀ x ∈ L, x.length + 1 ≤ big) :
    Calls Try.prog 18 #[v, .int .i64 i] W fun e w' => e = .returned (.bool true) ∧ B W w' := by
  have HL := Lib.hid (live91 (St.nil W))
  obtain ⟨A, c, rfl, _, hc1, hm1, _⟩ := id hv
  have HRT := Lib.hid (fun (w : World) (t : Value) (hw : B W w) (h : NoOne 105 w t) => root101n (t := t) L.length L rfl hlen w A c (hv.later hw) h)
  clear hv hlen hc1 hm1
  go_enter Try.func18, Try.ntmps18
  go_wp2_with (first
    | (go_at_call 91; (with_reducible refine HL.out.mono ?_); rintro e w1 ⟨rfl, hS⟩; have H1 := Lib.hid hS.b; clear hS))
  have hE1 : Blk ((w1.alloc (.cells #[.slice none 0 0, .map none] 105)).alloc (.cells #[.pointer none, .pointer (some ⟨w1.heap.size, 0, none⟩)] 48)) w1.heap.size 105 #[.slice none 0 0, .map none] := (Blk.new w1 _ _).alloc _
  have hE2 : Blk ((w1.alloc (.cells #[.slice none 0 0, .map none] 105)).alloc (.cells #[.pointer none, .pointer (some ⟨w1.heap.size, 0, none⟩)] 48)) (w1.heap.size + 1) 48 #[.pointer none, .pointer (some ⟨w1.heap.size, 0, none⟩)] := by simpa using Blk.new (w1.alloc (.cells #[.slice none 0 0, .map none] 105)) 48 #[.pointer none, .pointer (some ⟨w1.heap.size, 0, none⟩)]
  have hB2 : B W ((w1.alloc (.cells #[.slice none 0 0, .map none] 105)).alloc (.cells #[.pointer none, .pointer (some ⟨w1.heap.size, 0, none⟩)] 48)) := (H1.out.trans (B.alloc' _ _)).trans (B.alloc' _ _)
  generalize (w1.alloc (.cells #[.slice none 0 0, .map none] 105)).alloc (.cells #[.pointer none, .pointer (some ⟨w1.heap.size, 0, none⟩)] 48) = w2 at *
  have HE := Lib.hid (show ∀ q : Nat, q < 2 → ∃ v, w2.cell? ⟨w1.heap.size + 1, q, none⟩ = some v ∧ NoOne 105 w2 v from fun q hq => by
    rcases q with _ | _ | q
    · exact ⟨_, by rw [hE2.cell]; rfl, .inl rfl⟩
    · exact ⟨_, by rw [hE2.cell]; rfl, .inr ⟨_, rfl, hE1⟩⟩
    · omega)
  have HB2 := Lib.hid hB2
  clear hE1 hE2 hB2
  generalize w1.heap.size = g1 at *
  go_loopw [15] (fun i wr => ∃ q : Nat, q ≤ 2 ∧ i = .int .i64 q ∧ Hid (B w2 wr)) (fun i _ => 2 - (intOf i).toNat)
  case atStart => exact ⟨0, by omega, rfl, Below.refl _ _⟩
  case round =>
    obtain ⟨q, hq, rfl, hB⟩ := hrel
    by_cases hlt : q < 2
    · obtain ⟨t, hc, hN⟩ := HE.out q hlt
      have HN := Lib.hid hN
      have hc := hB.out.cell hc
      have hqi : (q : Int) < 2 := by omega
      clear hN
      go_wp2_with (first
        | (go_at_call 102; (with_reducible refine (prove102n (HN.out.later hB.out) _).mono ?_); rintro e w3 ⟨rfl, hb3⟩; have hB3 := Lib.hid (hB.out.trans hb3); clear hb3)
        | (go_at_call 101; (with_reducible refine (HRT.out _ _ (HB2.out.trans hB3.out) (HN.out.later hB3.out)).mono ?_); rintro e w4 ⟨rfl, hb4⟩; have hB4 := Lib.hid (hB3.out.trans hb4); clear hb4)
        | (go_at_call 93; (with_reducible refine (leaf93n (HN.out.later hB4.out) (Bs.nil _) (by unfold big; decide)).mono ?_); rintro e w5 ⟨rfl, hb5⟩; have hB5 := Lib.hid (hB4.out.trans hb5); clear hb5)
        | (go_at_call 95; (with_reducible refine (node95n (HN.out.later hB5.out) 1 2 (by omega) (by omega)).mono ?_); rintro e w6 ⟨rfl, hb6⟩; have hB6 := Lib.hid (hB5.out.trans hb6); clear hb6)
        | (go_at_call 103; (with_reducible refine (verify103n (HN.out.later hB6.out)).mono ?_); rintro e w7 ⟨rfl, hb7⟩; have hB7 := Lib.hid (hB6.out.trans hb7); clear hb7))
      go_roundw
      case rel => exact ⟨q + 1, by omega, by go_num, hB7.out⟩
      case measure => simp [intOf]; omega
    · have hqi : ¬ (q : Int) < 2 := by omega
      go_wp2_with fail
      go_ret
      exact ⟨rfl, HB2.out.trans hB.out⟩
end Go.Proofs.Ythgpkbhilkdckaa

/- MerkleNone: for every list of byte strings of bulk at most 1048576 and every number the law returns true and leaves what it was handed as it was. -/
namespace Go.Proofs.Ythgpkbhilkdckaa
open Go.ChangeShapes Go.WideShapes Go.ChangeAt Go.RowKit Go.Deep Go.Joins
set_option linter.unusedVariables false

theorem merkleNone_own : ownKnob Try.prog.godebug = none := by kernel_rfl
theorem merkleNone_laid : laidOutB Try.prog = true := by kernel_rfl

set_option maxRecDepth 100000 in
theorem merkleNone_contract (H : Type) (enc : TypeId × Value → H) (W : World) (base : Nat) (args : Array Value) (ds gs : List (DataW H)) (before : List MemPlace)
    (hval : ∀ (j : Nat) t v, Try.f18.params[j]? = some t → args[j]? = some v → Value.okWide Try.prog W .any base t v)
    (hW : DataW.Whole enc Try.prog Try.f18.params.toList Rows.merkleNoneSpec.vars false W args.toList ds gs before) (hk : Rows.uptoSmall H (ds ++ gs) = true) :
    Calls Try.prog 18 args W fun e W' => ∃ v, e = .returned v ∧ Rows.merkleNoneSpec.post enc Try.prog Try.f18 false true false false W args v W' := by
  have hW' := hW
  obtain ⟨p, q, hA0, hV, rfl, hfz, hnd⟩ := hW
  have hA : DataW.TrodAll enc Try.prog W 0 (fun _ => true) true Try.f18.params.toList args.toList ds p := hA0
  rw [Try.params18] at hA hval
  obtain ⟨rfl, rfl⟩ := trodVars_none hV
  have hB := uptoBound hk
  rw [List.append_nil] at hB
  obtain ⟨v0, vs0, d0, ds0, p0, q0, hargs, rfl, rfl, h0, r0⟩ := trodAll_cons hA
  obtain ⟨v1, vs1, d1, ds1, p1, q1, rfl, rfl, rfl, h1, r1⟩ := trodAll_cons r0
  obtain ⟨rfl, rfl, rfl⟩ := trodAll_nil r1
  obtain rfl : args = #[v0, v1] := by cases args; simp_all
  simp only [Rows.uptoBulkAll] at hB
  obtain ⟨L, hL, hLl⟩ := open_bssU Try.underlying46 Try.underlying47 Try.underlying5 (by kernel_rfl) (by kernel_rfl) (hval 0 46 v0 rfl rfl) h0 (by omega)
  obtain ⟨n0, rfl, rfl, rfl, wn⟩ := open_int Try.underlying3 (hval 1 3 v1 rfl rfl) h1

  refine (none_walk n0 hL (fun x hx => by have := bulk_mem hx; unfold big; omega)).mono fun e W' ⟨he, hg⟩ => ?_
  subst he
  exact ⟨_, rfl, law_post merkleNone_laid (by kernel_rfl) rfl ⟨rfl, rfl, rfl⟩ (tb := 4) (by kernel_rfl) Try.underlying4 hW' hg⟩

set_option maxRecDepth 100000 in
theorem merkleNone_lifted (os : Os) (started : os.Started) (H : Type) (enc : TypeId × Value → H) (F : Stop.Interp) :
    ReturnsInHanded {} Try.checked os 18 .any ((Rows.OpenSpec.upto Rows.merkleNoneSpec).pre6 enc Try.prog Try.f18 Rows.merkleNoneUptoRow.domain false) (((Rows.OpenSpec.upto Rows.merkleNoneSpec).at F).post enc Try.prog Try.f18 false true false false) := by
  refine returnsInHanded_of_cond (C := Try.checked) (s := Rows.OpenSpec.upto Rows.merkleNoneSpec) (k := Rows.uptoSmall) rfl merkleNone_own started (by kernel_rfl) Try.func18
    (OpenSpec.witness (enc := enc) (C := Try.checked) (s := Rows.OpenSpec.upto Rows.merkleNoneSpec) (k := Rows.uptoSmall) rfl false ⟨#[], #[.slice none 0 0, .int .i64 0], []⟩ 8 (by kernel_rfl) (by kernel_rfl) (by kernel_rfl)
      (x := ([.nil, .lit (.int .i64 0)], [], [])) (by kernel_rfl) rfl (by kernel_rfl)) ?_
  intro W base args ds gs before hval hW _ hk _
  exact merkleNone_contract H enc W base args ds gs before hval hW hk

theorem merkleNoneUpto_holds : Rows.MerkleNoneUptoSaid :=
  OpenClaim.holds_of_cond 18 Try.f18 rfl rfl rfl rfl rfl rfl rfl ⟨rfl, rfl, rfl, rfl, rfl⟩ rfl rfl rfl rfl rfl (by kernel_rfl) Try.func18 (by kernel_rfl)
    (of_decide_eq_true (by kernel_rfl)) (by unfold Func.isWrapper; first | (rw [if_pos (by decide +kernel)]; kernel_rfl) | (rw [if_neg (by decide +kernel)]; exact ⟨rfl, rfl⟩))
    (fun os started H enc _ F => merkleNone_lifted os started H enc F)

end Go.Proofs.Ythgpkbhilkdckaa
