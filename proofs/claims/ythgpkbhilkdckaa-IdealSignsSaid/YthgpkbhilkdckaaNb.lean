/- 'bullalaw02.IdealNobody': whatever is asked for, what was not signed is not signed; the law returns true. No condition. -/
import Derived.Test.YthgpkbhilkdckaaBg
import Derived.Test.YthgpkbhilkdckaaOg
namespace Go.Proofs.Ythgpkbhilkdckaa
open Go.ChangeShapes Go.WideShapes Go.ChangeAt Go.RowKit Go.Joins
set_option linter.unusedVariables false

theorem sgn_mem (x : Int × Int) (a b : Int) (s : List (Int × Int)) : x ∈ sgnS a b s ↔ x ∈ s ∨ (sgnE a b = 0 ∧ x = (a, b)) := by
  unfold sgnS
  split
  · rename_i h
    unfold ins
    split
    · rename_i hm
      constructor
      · exact .inl
      · rintro (h | ⟨_, rfl⟩)
        · exact h
        · exact hm
    · simp [h]
  · rename_i h
    simp [h]
theorem sgn_len (a b : Int) (s : List (Int × Int)) : (sgnS a b s).length ≤ s.length + 1 := by
  unfold sgnS
  split
  · unfold ins
    split <;> simp
  · omega

set_option maxHeartbeats 1000000 in
theorem idealNobody_walk {w : World} {v : Value} {L : List (Int × Int)} (hv : Ss w v L) (hroom : L.length * 16 ≤ 140737488355328) (sa sb : Int) : Calls Try.prog 3 #[v, .agg #[.int .i64 sa, .int .i64 sb]] w fun e w' => e = .returned (.bool true) ∧ B w w' := by
  obtain ⟨A, cap, rfl, hr⟩ := id hv
  have HR := Lib.hid hr
  clear hr
  go_enter Try.func3, Try.ntmps3
  go_wp2_with fail
  refine (newLedger23 _).mono ?_
  rintro e w1 ⟨rfl, hw1⟩
  have o1 : Own2 w1 w.heap.size (.int .i64 sa) (.int .i64 sb) := by rw [hw1]; exact (Own2.mk.alloc _).alloc _
  have hl := LedgerAt.new (w.alloc (.cells #[.int .i64 sa, .int .i64 sb] 25))
  rw [← hw1] at hl
  have hB1 : B w w1 := by rw [hw1]; exact ((B.alloc' _ _).trans (B.alloc' _ _)).trans (B.alloc' _ _)
  clear hw1
  simp only [World.size_alloc] at hl ⊢
  go_wp2_with fail
  refine (begun24 _).mono ?_
  rintro e w2 ⟨rfl, hb2⟩
  have o2 := o1.later hb2
  have hl2 := hl.later hb2
  have hB2 := hB1.trans hb2
  clear o1 hl hB1 hb2
  go_wp2_with fail
  generalize hp : w.heap.size + 1 + 1 = p at *
  have Z : Hid (p = w.heap.size + 2) := by show p = _; omega
  clear hp
  go_loopw [6, 20] (fun dn i wr => ∃ (q : Nat) (s : List (Int × Int)) (own : Nat → Prop), q ≤ L.length ∧ i = .int .i64 q ∧ dn = .bool (decide ((sa, sb) ∈ s)) ∧ s.length ≤ q ∧ LedgerAt own wr p s ∧ (∀ x, own x → w.heap.size < x ∧ x < wr.heap.size) ∧ Own2 wr w.heap.size (.int .i64 sa) (.int .i64 sb) ∧ B w wr) (fun _ i _ => L.length - (intOf i).toNat)
  case atStart => exact ⟨0, [], _, Nat.zero_le _, rfl, by simp, Nat.le_refl _, hl2.bound, fun x hx => by have := Z.out; omega, o2, hB2⟩
  case round =>
    clear o2 hl2 hB2
    obtain ⟨q, s, own, hq, rfl, rfl, hs, hl, ho, o2, hB2⟩ := hrel
    by_cases hlt : q < L.length
    · obtain ⟨b, off, rfl, hb, hc⟩ := HR.out (by omega)
      obtain ⟨k1, k2⟩ := hc q _ (List.getElem?_eq_getElem hlt)
      have k1 := hB2.cell k1
      have k2 := hB2.cell k2
      generalize (L[q]).1 = a at *
      generalize (L[q]).2 = d at *
      clear hc
      have hlx := hl.later (B.alloc' wr (.cells #[.int .i64 a, .int .i64 d] 25))
      go_wp2_with fail
      refine (sign25 hlx a d (by omega)).mono ?_
      rintro e w3 ⟨rfl, hl3, hx3⟩
      have hl3 := hl3.bound
      have o3 := (o2.alloc (.cells #[.int .i64 a, .int .i64 d] 25)).ext hx3 (fun e => by have := ho _ e; omega)
      have oa : Own2 (w3.alloc (.cells #[.int .i64 (sgnV a d).1, .int .i64 (sgnV a d).2] 25)) w3.heap.size _ _ := Own2.mk
      have hB3 : B w w3 := (hB2.trans (B.alloc' _ (.cells #[.int .i64 a, .int .i64 d] 25))).trans' hx3 (fun x hx e => by have := ho _ e; omega)
      have z3 : w.heap.size < w3.heap.size := o3.2.2.2.2
      have zz := hx3.size
      have zr := hB2.size
      have hl4 := hl3.later (B.alloc' w3 (.cells #[.int .i64 (sgnV a d).1, .int .i64 (sgnV a d).2] 25))
      have o4 := o3.alloc (.cells #[.int .i64 (sgnV a d).1, .int .i64 (sgnV a d).2] 25)
      have hB4 := hB3.trans (B.alloc' w3 (.cells #[.int .i64 (sgnV a d).1, .int .i64 (sgnV a d).2] 25))
      have hfin : ∀ x, ((own x ∨ (wr.alloc (.cells #[.int .i64 a, .int .i64 d] 25)).heap.size ≤ x) ∧ x < w3.heap.size) → w.heap.size < x ∧ x < (w3.alloc (.cells #[.int .i64 (sgnV a d).1, .int .i64 (sgnV a d).2] 25)).heap.size := fun x hx => by
        simp at hx ⊢
        rcases hx.1 with h | h
        · have := ho _ h; omega
        · omega
      have HF := Lib.hid hfin
      have HL := Lib.hid (sgn_len a d s)
      have HM := Lib.hid (sgn_mem (sa, sb) a d s)
      obtain ⟨c1, c2, c3, c4, c5⟩ := id o4
      obtain ⟨d1, d2, d3, d4, d5⟩ := id oa
      clear hl3 o3 hB3 hlx hl o2 hB2 k1 k2 hx3 hfin oa zz zr ho
      by_cases hE : sgnE a d = 0
      · have hV : sgnV a d = (a, d) := by unfold sgnV; rw [if_pos hE]
        simp only [hV, hE] at *
        have HE := Lib.hid hE
        clear hE hV
        by_cases hin : (sa, sb) ∈ s
        · have hd1 : decide ((sa, sb) ∈ s) = true := decide_eq_true hin
          have hd2 : decide ((sa, sb) ∈ sgnS a d s) = true := decide_eq_true (HM.out.2 (.inl hin))
          have HD := Lib.hid hd2
          simp only [hd1]
          clear hin hd1 hd2
          go_wp2_with fail
          go_roundw
          case rel => exact ⟨q + 1, sgnS a d s, _, by omega, by go_num, by rw [HD.out], by have := HL.out; omega, hl4, HF.out, o4, hB4⟩
          case measure => simp [intOf]; omega
        · have hd1 : decide ((sa, sb) ∈ s) = false := decide_eq_false hin
          simp only [hd1]
          by_cases h1 : a = sa
          · by_cases h2 : d = sb
            · have hd2 : decide ((sa, sb) ∈ sgnS a d s) = true := decide_eq_true (HM.out.2 (.inr ⟨HE.out, by rw [h1, h2]⟩))
              have HD := Lib.hid hd2
              have q1 : (a == sa) = true := by simpa using h1
              have q2 : (d == sb) = true := by simpa using h2
              clear hin hd1 hd2 h1 h2
              go_wp2_with fail
              go_roundw
              case rel => exact ⟨q + 1, sgnS a d s, _, by omega, by go_num, by rw [HD.out], by have := HL.out; omega, hl4, HF.out, o4, hB4⟩
              case measure => simp [intOf]; omega
            · have hd2 : decide ((sa, sb) ∈ sgnS a d s) = false := decide_eq_false (fun h => by
                rcases HM.out.1 h with h | ⟨_, h⟩
                · exact hin h
                · exact h2 (by injection h with _ h; exact h.symm))
              have HD := Lib.hid hd2
              have q1 : (a == sa) = true := by simpa using h1
              have q2 : (d == sb) = false := by simpa using h2
              clear hin hd1 hd2 h1 h2
              go_wp2_with fail
              go_roundw
              case rel => exact ⟨q + 1, sgnS a d s, _, by omega, by go_num, by rw [HD.out], by have := HL.out; omega, hl4, HF.out, o4, hB4⟩
              case measure => simp [intOf]; omega
          · have hd2 : decide ((sa, sb) ∈ sgnS a d s) = false := decide_eq_false (fun h => by
              rcases HM.out.1 h with h | ⟨_, h⟩
              · exact hin h
              · exact h1 (by injection h with h _; exact h.symm))
            have HD := Lib.hid hd2
            have q1 : (a == sa) = false := by simpa using h1
            clear hin hd1 hd2 h1
            go_wp2_with fail
            go_roundw
            case rel => exact ⟨q + 1, sgnS a d s, _, by omega, by go_num, by rw [HD.out], by have := HL.out; omega, hl4, HF.out, o4, hB4⟩
            case measure => simp [intOf]; omega
      · have hE0 : (sgnE a d == 0) = false := by simpa using hE
        have hiff : (sa, sb) ∈ sgnS a d s ↔ (sa, sb) ∈ s := ⟨fun h => (HM.out.1 h).resolve_right (fun e => hE e.1), fun h => HM.out.2 (.inl h)⟩
        by_cases hin : (sa, sb) ∈ s
        · have hd1 : decide ((sa, sb) ∈ s) = true := decide_eq_true hin
          have HD := Lib.hid (show decide ((sa, sb) ∈ sgnS a d s) = true from decide_eq_true (hiff.2 hin))
          simp only [hd1]
          clear hin hd1 hiff hE
          go_wp2_with fail
          go_roundw
          case rel => exact ⟨q + 1, sgnS a d s, _, by omega, by go_num, by rw [HD.out], by have := HL.out; omega, hl4, HF.out, o4, hB4⟩
          case measure => simp [intOf]; omega
        · have hd1 : decide ((sa, sb) ∈ s) = false := decide_eq_false hin
          have HD := Lib.hid (show decide ((sa, sb) ∈ sgnS a d s) = false from decide_eq_false (fun h => hin (hiff.1 h)))
          simp only [hd1]
          clear hin hd1 hiff hE
          go_wp2_with fail
          go_roundw
          case rel => exact ⟨q + 1, sgnS a d s, _, by omega, by go_num, by rw [HD.out], by have := HL.out; omega, hl4, HF.out, o4, hB4⟩
          case measure => simp [intOf]; omega
    · have hlt' : ¬ (q : Int) < L.length := by omega
      obtain ⟨c1, c2, c3, c4, c5⟩ := id o2
      go_wp2_with fail
      refine (signed26 hl sa sb).mono ?_
      rintro e w3 ⟨rfl, hb3⟩
      go_wp2_with fail
      go_ret
      exact ⟨by simp, hB2.trans hb3⟩

theorem idealNobody_own : ownKnob Try.prog.godebug = none := by kernel_rfl
theorem idealNobody_laid : laidOutB Try.prog = true := by kernel_rfl

set_option maxRecDepth 100000 in
theorem idealNobody_contract (H : Type) (enc : TypeId × Value → H) (W : World) (base : Nat) (args : Array Value) (ds gs : List (DataW H)) (before : List MemPlace)
    (hval : ∀ (j : Nat) t v, Try.f3.params[j]? = some t → args[j]? = some v → Value.okWide Try.prog W .any base t v)
    (hW : DataW.Whole enc Try.prog Try.f3.params.toList Rows.idealNobodySpec.vars false W args.toList ds gs before) (hsz0 : (DataW.weightsEach Try.prog (Try.f3.params.toList ++ Rows.idealNobodySpec.plain.varTypes Try.prog) (ds ++ gs)).all (· ≤ reachBytes) = true) :
    Calls Try.prog 3 args W fun e W' => ∃ v, e = .returned v ∧ Rows.idealNobodySpec.post enc Try.prog Try.f3 false true false false W args v W' := by
  have hW' := hW
  obtain ⟨p, q, hA0, hV, rfl, hfz, hnd⟩ := hW
  have hA : DataW.TrodAll enc Try.prog W 0 (fun _ => true) true Try.f3.params.toList args.toList ds p := hA0
  rw [Try.params3] at hA hval
  obtain ⟨rfl, rfl⟩ := trodVars_none hV
  have hsz : (DataW.weightsEach Try.prog (Try.f3.params.toList ++ []) (ds ++ [])).all (· ≤ reachBytes) = true := hsz0
  rw [Try.params3] at hsz
  obtain ⟨v0, vs0, d0, ds0, p0, q0, hargs, rfl, rfl, h0, r0⟩ := trodAll_cons hA
  obtain ⟨v1, vs1, d1, ds1, p1, q1, rfl, rfl, rfl, h1, r1⟩ := trodAll_cons r0
  obtain ⟨rfl, rfl, rfl⟩ := trodAll_nil r1
  obtain rfl : args = #[v0, v1] := by cases args; simp_all
  obtain ⟨L, hL, hd⟩ := open_sgs Try.underlying22 Try.underlying25 (by kernel_rfl) ⟨rfl, by kernel_rfl, Try.underlying3⟩ ⟨rfl, by kernel_rfl, Try.underlying23⟩ (hval 0 22 v0 rfl rfl) h0
  obtain ⟨c0, c1, y0, y1, m, rfl, rfl, rfl, hy0, hy1⟩ := open_agg2 Try.underlying25 (by kernel_rfl) (by kernel_rfl) (hval 1 25 v1 rfl rfl) h1
  obtain ⟨a, e0, rfl, wa⟩ := DataW.trod_int Try.underlying3 hy0
  obtain ⟨b, e1, rfl, wb⟩ := DataW.trod_int Try.underlying23 hy1
  simp at e0 e1
  subst e0 e1
  have hroom : L.length * 16 ≤ 140737488355328 := by
    rcases hd with ⟨rfl, rfl⟩ | ⟨elems, sp, rfl, hel⟩
    · obtain ⟨A, cap, hv, _⟩ := hL
      injection hv with _ h _
      omega
    · have h16 : Try.prog.bytesOf 25 = 16 := by kernel_rfl
      have := sized_slice hsz (j := 0) (t := 22) (e := 25) rfl rfl Try.underlying22
      have hrb := reachBytes_lt
      rw [h16] at this
      omega
  refine (idealNobody_walk hL hroom a b).mono fun e W' ⟨he, hg⟩ => ?_
  subst he
  exact ⟨_, rfl, law_post idealNobody_laid (by kernel_rfl) rfl ⟨rfl, rfl, rfl⟩ (tb := 4) (by kernel_rfl) Try.underlying4 hW' hg⟩

set_option maxRecDepth 100000 in
theorem idealNobody_lifted (os : Os) (started : os.Started) (H : Type) (enc : TypeId × Value → H) :
    ReturnsInHanded {} Try.checked os 3 .any (Rows.idealNobodySpec.pre6 enc Try.prog Try.f3 Rows.idealNobodyRow.domain false) (Rows.idealNobodySpec.post enc Try.prog Try.f3 false true false false) := by
  refine returnsInHanded_of_change_sized (C := Try.checked) idealNobody_own started (by kernel_rfl) Try.func3
    (ChangeSpec.witness6 (enc := enc) (C := Try.checked) false ⟨#[], #[.slice none 0 0, .agg #[.int .i64 0, .int .i64 0]], []⟩ 8 (by kernel_rfl) (by kernel_rfl) (by kernel_rfl) (by kernel_rfl)) ?_
  intro W base args ds gs before hval hW _ hsz _
  exact idealNobody_contract H enc W base args ds gs before hval hW hsz

theorem idealNobody_holds : Rows.IdealNobodySaid :=
  OpenClaim.holds_of_wide 3 Try.f3 rfl rfl rfl rfl rfl rfl rfl ⟨rfl, rfl, rfl, rfl, rfl⟩ rfl rfl rfl rfl rfl (by kernel_rfl) Try.func3 (by kernel_rfl)
    (of_decide_eq_true (by kernel_rfl)) (by unfold Func.isWrapper; first | (rw [if_pos (by decide +kernel)]; kernel_rfl) | (rw [if_neg (by decide +kernel)]; exact ⟨rfl, rfl⟩))
    (fun os started H enc _ => idealNobody_lifted os started H enc)

end Go.Proofs.Ythgpkbhilkdckaa
