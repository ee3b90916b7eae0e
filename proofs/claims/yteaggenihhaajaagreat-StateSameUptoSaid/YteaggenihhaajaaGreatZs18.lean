/- Lemmas and contracts, part 18. -/
import Derived.Test.YteaggenihhaajaaGreatZs17
import Derived.Deep.Light
import Derived.Lib.ConvBytes
import Derived.Deep.RegionHeld3
/- Operations: op.Check is the plain 'opE'. -/
namespace Go.Proofs.YteaggenihhaajaaGreat
open Go.RowKit Go.Deep
set_option linter.unusedVariables false

set_option maxRecDepth 20000 in
set_option maxHeartbeats 4000000 in
theorem opE_c {inn : Nat → Prop} {w : World} {cs : List Value} {a : OpD} (h : tOp.rd inn w cs a) :
    Calls Tryz.prog 302 #[.agg cs.toArray] w fun e w' => e = .returned (.int .i64 (opE a)) ∧ B w w' := by
  have HR := Lib.hid (fun w' (hb : B w w') => tOp.later h hb)
  obtain ⟨v5, rfl, a1, a2, a3, a4, a5⟩ := tOp.parts h
  have HE := Lib.hid (show opE a = _ from rfl)
  have HN := Lib.hid (fun w' => name_c w' a.topic a2)
  have HG := Lib.hid (fun w' => name_c w' a.group a3)
  have HC := Lib.hid (fun (w' : World) (hb : B w w') => show Calls Tryz.prog 331 #[v5, .func (.func 330) #[] #[]] w' fun e w'' => e = .returned (.bool (longF a)) ∧ w' = w'' from contains_c ((tL tY).later a5 hb))
  obtain ⟨A5, c5, e5, l5⟩ := tL.slice a5
  injection e5 with e5 _
  subst e5
  have HS := Lib.hid (aBlk.new (St.nil w) 80 #[.int .i64 a.kind, .string (bstr a.topic), .string (bstr a.group), .int .i64 a.offset, .slice A5 a.records.length c5])
  have HK := Lib.hid (show kindOk a = decide (0 ≤ a.kind ∧ a.kind ≤ 4) from rfl)
  obtain ⟨oo, ho⟩ : ∃ oo, onlyF a = oo := ⟨_, rfl⟩
  have HO := Lib.hid (fun (w' : World) (hb : B w w') => show Calls Tryz.prog 329 #[.agg #[.int .i64 a.kind, .string (bstr a.topic), .string (bstr a.group), .int .i64 a.offset, .slice A5 a.records.length c5]] w' fun e w'' => ∃ ds : List Value, e = .returned (.tuple #[.agg ds.toArray, .bool (kindOk a)]) ∧ tOp.rd inn w'' ds oo ∧ B w' w'' from by
    rw [← ho]
    exact only_c (HR.out _ hb))
  clear h a5 a2 a3
  go_enter Tryz.func302, Tryz.ntmps302
  go_wp2_with (first
    | (go_at_call 329; (with_reducible refine callsM (HO.out _ BB.out) ?_); rintro e w1 ⟨ds, rfl, hd, hb⟩; have HD := Lib.hid (fun w' (hb : B w1 w') => tOp.later hd hb); obtain ⟨d5, rfl, _, _, _, _, d5r⟩ := tOp.parts hd; obtain ⟨B5, k5, e5, _⟩ := tL.slice d5r; injection e5 with e5 _; subst e5; replace HS := Lib.hid (HS.out.on.later hb); have KG := (aBlk.get HS.out).cell; have KL := (aBlk.get HS.out).lt; clear hd hb)
    | (go_at_call 133; (with_reducible refine callsM (oSame_c (HR.out _ HS.out.on.b) (HD.out _ BB.out)) ?_); rintro e w2 ⟨rfl, hb⟩; replace HS := Lib.hid (HS.out.on.later hb); replace KG := (aBlk.get HS.out).cell; replace KL := (aBlk.get HS.out).lt; clear hb)
    | (go_at_call 320; (with_reducible refine callsM (HN.out _) ?_); rintro e w3 ⟨rfl, hb⟩; replace HS := Lib.hid (HS.out.on.later hb); replace KG := (aBlk.get HS.out).cell; replace KL := (aBlk.get HS.out).lt; clear hb)
    | (go_at_call 320; (with_reducible refine callsM (HG.out _) ?_); rintro e w3 ⟨rfl, hb⟩; replace HS := Lib.hid (HS.out.on.later hb); replace KG := (aBlk.get HS.out).cell; replace KL := (aBlk.get HS.out).lt; clear hb)
    | (go_at_call 331; (with_reducible refine callsM (HC.out _ HS.out.on.b) ?_); rintro e w3 ⟨rfl, rfl⟩))
  all_goals go_ret
  all_goals refine ⟨?_, HS.out.on.b⟩
  all_goals
    go_light
    clear HN HG HR HC HK HO HD HS KG d5r
    refine congrArg (fun z => Ending.returned (Value.int .i64 z)) (?_ : _ = opE a)
    unfold opE
    rw [ho]
    generalize a.records.length = n at *
    generalize longF a = lf at *
    simp_all
    try (first | omega | (split <;> first | omega | (simp_all; omega)) | (intros; exfalso; simp_all; omega))
end Go.Proofs.YteaggenihhaajaaGreat

/- Texts turned into bytes; codec.PutNum of a number that is none below; op.Put. -/
namespace Go.Proofs.YteaggenihhaajaaGreat
open Go.RowKit Go.Deep
set_option linter.unusedVariables false

theorem bytesWorld_B (w : World) (e : TypeId) (s : ByteArray) : B w (Lib.bytesWorld w e s) :=
  ⟨rfl, rfl, rfl, by rw [Lib.bytesWorld_size]; omega, fun j hj => Lib.bytesWorld_at_old w e s j hj⟩
instance BB.bytesW (w w' : World) (e : TypeId) (s : ByteArray) [h : BB w w'] : BB w (Lib.bytesWorld w' e s) := ⟨h.out.trans (bytesWorld_B _ _ _)⟩
/-- a text's bytes -/
theorem conv_run (s : List UInt8) (w : World) : (convert 9 26 (.string (bstr s))).run Tryz.prog w = .ok (.slice (some ⟨w.heap.size, 0, none⟩) s.length (grownCap w s.length 0 5)) (Lib.bytesWorld w 5 (bstr s)) := by
  have hrun := Lib.run_convert_string_bytes (P := Tryz.prog) w 9 26 5 (bstr s) Tryz.underlying9 Tryz.underlying26 Tryz.underlying5
  rw [bstr_size s] at hrun
  exact hrun
theorem conv_Bs (s : List UInt8) (w : World) (hs : s.length ≤ 4194304) : Bs (Lib.bytesWorld w 5 (bstr s)) (.slice (some ⟨w.heap.size, 0, none⟩) s.length (grownCap w s.length 0 5)) s := by
  have hsz := bstr_size s
  refine ⟨⟨_, _, rfl, fun e => (by cases e), grownCap_ge _ _ _ _, grownCap_le_maxLen _ _ _ _ (by unfold maxLen; omega), fun ad had => ?_⟩, by unfold big; omega⟩
  cases had
  refine ⟨fun _ => by rw [Lib.bytesWorld_size]; simp, fun j u hu => ?_⟩
  have hj : j < s.length := by
    rcases Nat.lt_or_ge j s.length with h | h
    · exact h
    · rw [List.getElem?_eq_none (by rw [cellsB_len]; exact h)] at hu; cases hu
  rw [addr_at, Nat.zero_add, Lib.bytesWorld_cell w _ (bstr s) j (by rw [hsz]; exact hj), ← hu, cellsB_get s j hj]
  simp [bstr, hj]
theorem putN_c {w : World} {v : Value} {bs : List UInt8} (h : Bs w v bs) (k : Int) (hk : 0 ≤ k ∧ k < 18446744073709551616) (hl : bs.length + 10 ≤ big) : Calls Tryz.prog 151 #[v, .int .u64 k] w (Fresh w (bs ++ enc k.toNat)) := by
  have := putNum70 h k.toNat (by omega) hl
  rwa [Int.toNat_of_nonneg hk.1] at this
theorem byF_eq (bs x : List UInt8) : putB bs x = bs ++ byF x := by simp [putB, byF]
theorem St.toFresh {W w : World} {v : Value} {bs : List UInt8} {L : List Asn} (h : St W w (aBy v bs :: L)) : Fresh W bs (.returned v) w := by
  obtain ⟨own, hr, ho⟩ := h.get
  refine ⟨v, rfl, ⟨hr.1.1, ?_⟩, h.b⟩
  rcases hr.1.2 with h | ⟨g, cap, cur, hv, hg, r⟩
  · exact .inl h
  · exact .inr ⟨g, cap, cur, hv, (ho g (hr.2 g (by rw [hv]; rfl))).1, r⟩
theorem opE0 {o : OpD} (h : opE o = 0) : (0 ≤ o.kind ∧ o.kind ≤ 4) ∧ o = onlyF o ∧ (0 ≤ o.offset ∧ o.offset ≤ 9007199254740992) := by
  unfold opE at h
  split at h
  · cases h
  rename_i h1
  simp only [not_or, Bool.not_eq_false] at h1
  split at h
  · cases h
  split at h
  · cases h
  split at h
  · cases h
  split at h
  · cases h
  rename_i h5
  exact ⟨by have := h1.1; unfold kindOk at this; simpa using this, sameOp_iff.1 h1.2, by omega⟩
section
set_option maxRecDepth 20000
set_option maxHeartbeats 8000000
/-- op.Put of what may not be: the bytes anew -/
theorem opPut_bad {inn : Nat → Prop} {w : World} {v : Value} {bs : List UInt8} {cs : List Value} {a : OpD} (hb : Bs w v bs) (h : tOp.rd inn w cs a) (hne : opE a ≠ 0) :
    Calls Tryz.prog 332 #[v, .agg cs.toArray] w (Fresh w bs) := by
  have HR := Lib.hid (fun w' (hb : B w w') => tOp.later h hb)
  obtain ⟨v5, rfl, a1, a2, a3, a4, a5⟩ := tOp.parts h
  obtain ⟨A5, c5, e5, l5⟩ := tL.slice a5
  injection e5 with e5 _
  subst e5
  have HB := Lib.hid hb
  have HS := Lib.hid (aBlk.new (St.nil w) 80 #[.int .i64 a.kind, .string (bstr a.topic), .string (bstr a.group), .int .i64 a.offset, .slice A5 a.records.length c5])
  have g0 : (opE a != 0) = true := by simpa using hne
  clear h a5 a2 a3 hb hne
  go_enter Tryz.func332, Tryz.ntmps332
  go_wp2_with (first
    | (go_at_call 42; (with_reducible refine callsM (St.fresh HS.out.on (clone89 (HB.out.later HS.out.on.b))) ?_); rintro e w1 ⟨v1, rfl, hS⟩; replace HS := Lib.hid hS; clear hS; have KG := (aBlk.get HS.out.swap).cell)
    | (go_at_call 302; (with_reducible refine callsM (opE_c (HR.out _ HS.out.on.b)) ?_); rintro e w2 ⟨rfl, hb⟩; replace HS := Lib.hid (HS.out.on.later hb); clear hb; replace KG := (aBlk.get HS.out.swap).cell))
  go_ret
  exact HS.out.toFresh
end
set_option maxRecDepth 20000 in
set_option maxHeartbeats 8000000 in
theorem opPut0_c {inn : Nat → Prop} {w : World} {v : Value} {bs : List UInt8} {cs : List Value} {topic group : List UInt8} {offset : Int} {records : List (List UInt8)} (hb : Bs w v bs) (h : tOp.rd inn w cs ⟨0, topic, group, offset, records⟩) (h0 : opE ⟨0, topic, group, offset, records⟩ = 0)
    (hl : (bs ++ opB ⟨0, topic, group, offset, records⟩).length + 30 ≤ big) :
    Calls Tryz.prog 332 #[v, .agg cs.toArray] w (Fresh w (bs ++ opB ⟨0, topic, group, offset, records⟩)) := by
  have HR := Lib.hid (fun w' (hb : B w w') => tOp.later h hb)
  obtain ⟨v5, rfl, a1, a2, a3, a4, a5⟩ := tOp.parts h
  simp only at a2 a3 a4 a5
  have H5 := Lib.hid a5
  obtain ⟨A5, c5, e5, l5⟩ := tL.slice a5
  injection e5 with e5 _
  subst e5
  have HB := Lib.hid hb
  have HS := Lib.hid (aBlk.new (St.nil w) 80 #[.int .i64 0, .string (bstr topic), .string (bstr group), .int .i64 offset, .slice A5 records.length c5])
  have HT := Lib.hid a2
  have HGr := Lib.hid a3
  have hct := conv_run topic
  have hcg := conv_run group
  have HO0 := Lib.hid (show 0 ≤ offset ∧ offset ≤ 9007199254740992 from (opE0 h0).2.2)
  have HL := Lib.hid hl
  have hwo : IntKind.u64.wrap offset = offset := u64_id (by have := HO0.out; omega)
  have g0 : (opE ⟨0, topic, group, offset, records⟩ != 0) = false := by simp [h0]
  clear h a5 a2 a3 hb h0 hl a1 a4
  go_enter Tryz.func332, Tryz.ntmps332
  go_wp2_with (first
    | (go_at_call 42; (with_reducible refine callsM (St.fresh HS.out.on (clone89 (HB.out.later HS.out.on.b))) ?_); rintro e w1 ⟨v1, rfl, hS⟩; replace HS := Lib.hid hS; clear hS; have KG := (aBlk.get HS.out.swap).cell; have KL := (aBlk.get HS.out.swap).lt)
    | (go_at_call 302; (with_reducible refine callsM (opE_c (HR.out _ HS.out.on.b)) ?_); rintro e w2 ⟨rfl, hb⟩; replace HS := Lib.hid (HS.out.on.later hb); clear hb; replace KG := (aBlk.get HS.out.swap).cell; replace KL := (aBlk.get HS.out.swap).lt)
    | (go_at_call 151; (with_reducible refine callsM (St.fresh HS.out.on (putN_c (HS.out.on.byBs (by have := HL.out; simp [opB] at this ⊢; omega)) _ (by have := HO0.out; omega) (by have := HL.out; simp [opB] at this ⊢; omega))) ?_); rintro e w1 ⟨v1, rfl, hS⟩; replace HS := Lib.hid hS.drop2; clear hS; replace KG := (aBlk.get HS.out.swap).cell; replace KL := (aBlk.get HS.out.swap).lt)
    | (go_at_call 157; (with_reducible refine callsM (St.fresh HS.out.on (putBytes72 (HS.out.on.byBs (by have := HL.out; simp [opB, byF] at this ⊢; omega)) (conv_Bs topic _ HT.out) (by have := HL.out; simp [opB, byF] at this ⊢; omega))) ?_); rintro e w1 ⟨v1, rfl, hS⟩; replace HS := Lib.hid hS.drop2; clear hS; rw [byF_eq] at HS; replace KG := (aBlk.get HS.out.swap).cell; replace KL := (aBlk.get HS.out.swap).lt))
  go_ret
  have hS := HS.out.toFresh
  simpa [opB, byF, Int.toNat] using hS
set_option maxRecDepth 20000 in
set_option maxHeartbeats 8000000 in
theorem opPut1_c {inn : Nat → Prop} {w : World} {v : Value} {bs : List UInt8} {cs : List Value} {topic group : List UInt8} {offset : Int} {records : List (List UInt8)} (hb : Bs w v bs) (h : tOp.rd inn w cs ⟨1, topic, group, offset, records⟩) (h0 : opE ⟨1, topic, group, offset, records⟩ = 0)
    (hl : (bs ++ opB ⟨1, topic, group, offset, records⟩).length + 30 ≤ big) :
    Calls Tryz.prog 332 #[v, .agg cs.toArray] w (Fresh w (bs ++ opB ⟨1, topic, group, offset, records⟩)) := by
  have HR := Lib.hid (fun w' (hb : B w w') => tOp.later h hb)
  obtain ⟨v5, rfl, a1, a2, a3, a4, a5⟩ := tOp.parts h
  simp only at a2 a3 a4 a5
  have H5 := Lib.hid a5
  obtain ⟨A5, c5, e5, l5⟩ := tL.slice a5
  injection e5 with e5 _
  subst e5
  have HB := Lib.hid hb
  have HS := Lib.hid (aBlk.new (St.nil w) 80 #[.int .i64 1, .string (bstr topic), .string (bstr group), .int .i64 offset, .slice A5 records.length c5])
  have HT := Lib.hid a2
  have HGr := Lib.hid a3
  have hct := conv_run topic
  have hcg := conv_run group
  have HO0 := Lib.hid (show 0 ≤ offset ∧ offset ≤ 9007199254740992 from (opE0 h0).2.2)
  have HL := Lib.hid hl
  have hwo : IntKind.u64.wrap offset = offset := u64_id (by have := HO0.out; omega)
  have g0 : (opE ⟨1, topic, group, offset, records⟩ != 0) = false := by simp [h0]
  clear h a5 a2 a3 hb h0 hl a1 a4
  go_enter Tryz.func332, Tryz.ntmps332
  go_wp2_with (first
    | (go_at_call 42; (with_reducible refine callsM (St.fresh HS.out.on (clone89 (HB.out.later HS.out.on.b))) ?_); rintro e w1 ⟨v1, rfl, hS⟩; replace HS := Lib.hid hS; clear hS; have KG := (aBlk.get HS.out.swap).cell; have KL := (aBlk.get HS.out.swap).lt)
    | (go_at_call 302; (with_reducible refine callsM (opE_c (HR.out _ HS.out.on.b)) ?_); rintro e w2 ⟨rfl, hb⟩; replace HS := Lib.hid (HS.out.on.later hb); clear hb; replace KG := (aBlk.get HS.out.swap).cell; replace KL := (aBlk.get HS.out.swap).lt)
    | (go_at_call 151; (with_reducible refine callsM (St.fresh HS.out.on (putN_c (HS.out.on.byBs (by have := HL.out; simp [opB, byF] at this ⊢; omega)) _ (by have := HO0.out; omega) (by have := HL.out; simp [opB, byF] at this ⊢; omega))) ?_); rintro e w1 ⟨v1, rfl, hS⟩; replace HS := Lib.hid hS.drop2; clear hS; replace KG := (aBlk.get HS.out.swap).cell; replace KL := (aBlk.get HS.out.swap).lt)
    | (go_at_call 157; (with_reducible refine callsM (St.fresh HS.out.on (putBytes72 (HS.out.on.byBs (by have := HL.out; simp [opB, byF] at this ⊢; omega)) (conv_Bs topic _ HT.out) (by have := HL.out; simp [opB, byF] at this ⊢; omega))) ?_); rintro e w1 ⟨v1, rfl, hS⟩; replace HS := Lib.hid hS.drop2; clear hS; rw [byF_eq] at HS; replace KG := (aBlk.get HS.out.swap).cell; replace KL := (aBlk.get HS.out.swap).lt))
  go_ret
  have hS := HS.out.toFresh
  simpa [opB, byF, Int.toNat] using hS
set_option maxRecDepth 20000 in
set_option maxHeartbeats 8000000 in
theorem opPut4_c {inn : Nat → Prop} {w : World} {v : Value} {bs : List UInt8} {cs : List Value} {topic group : List UInt8} {offset : Int} {records : List (List UInt8)} (hb : Bs w v bs) (h : tOp.rd inn w cs ⟨4, topic, group, offset, records⟩) (h0 : opE ⟨4, topic, group, offset, records⟩ = 0)
    (hl : (bs ++ opB ⟨4, topic, group, offset, records⟩).length + 30 ≤ big) :
    Calls Tryz.prog 332 #[v, .agg cs.toArray] w (Fresh w (bs ++ opB ⟨4, topic, group, offset, records⟩)) := by
  have HR := Lib.hid (fun w' (hb : B w w') => tOp.later h hb)
  obtain ⟨v5, rfl, a1, a2, a3, a4, a5⟩ := tOp.parts h
  simp only at a2 a3 a4 a5
  have H5 := Lib.hid a5
  obtain ⟨A5, c5, e5, l5⟩ := tL.slice a5
  injection e5 with e5 _
  subst e5
  have HB := Lib.hid hb
  have HS := Lib.hid (aBlk.new (St.nil w) 80 #[.int .i64 4, .string (bstr topic), .string (bstr group), .int .i64 offset, .slice A5 records.length c5])
  have HT := Lib.hid a2
  have HGr := Lib.hid a3
  have hct := conv_run topic
  have hcg := conv_run group
  have HO0 := Lib.hid (show 0 ≤ offset ∧ offset ≤ 9007199254740992 from (opE0 h0).2.2)
  have HL := Lib.hid hl
  have hwo : IntKind.u64.wrap offset = offset := u64_id (by have := HO0.out; omega)
  have g0 : (opE ⟨4, topic, group, offset, records⟩ != 0) = false := by simp [h0]
  clear h a5 a2 a3 hb h0 hl a1 a4
  go_enter Tryz.func332, Tryz.ntmps332
  go_wp2_with (first
    | (go_at_call 42; (with_reducible refine callsM (St.fresh HS.out.on (clone89 (HB.out.later HS.out.on.b))) ?_); rintro e w1 ⟨v1, rfl, hS⟩; replace HS := Lib.hid hS; clear hS; have KG := (aBlk.get HS.out.swap).cell; have KL := (aBlk.get HS.out.swap).lt)
    | (go_at_call 302; (with_reducible refine callsM (opE_c (HR.out _ HS.out.on.b)) ?_); rintro e w2 ⟨rfl, hb⟩; replace HS := Lib.hid (HS.out.on.later hb); clear hb; replace KG := (aBlk.get HS.out.swap).cell; replace KL := (aBlk.get HS.out.swap).lt)
    | (go_at_call 151; (with_reducible refine callsM (St.fresh HS.out.on (putN_c (HS.out.on.byBs (by have := HL.out; simp [opB, byF] at this ⊢; omega)) _ (by have := HO0.out; omega) (by have := HL.out; simp [opB, byF] at this ⊢; omega))) ?_); rintro e w1 ⟨v1, rfl, hS⟩; replace HS := Lib.hid hS.drop2; clear hS; replace KG := (aBlk.get HS.out.swap).cell; replace KL := (aBlk.get HS.out.swap).lt)
    | (go_at_call 157; (with_reducible refine callsM (St.fresh HS.out.on (putBytes72 (HS.out.on.byBs (by have := HL.out; simp [opB, byF] at this ⊢; omega)) (conv_Bs topic _ HT.out) (by have := HL.out; simp [opB, byF] at this ⊢; omega))) ?_); rintro e w1 ⟨v1, rfl, hS⟩; replace HS := Lib.hid hS.drop2; clear hS; rw [byF_eq] at HS; replace KG := (aBlk.get HS.out.swap).cell; replace KL := (aBlk.get HS.out.swap).lt))
  go_ret
  have hS := HS.out.toFresh
  simpa [opB, byF, Int.toNat] using hS
set_option maxRecDepth 20000 in
set_option maxHeartbeats 8000000 in
theorem opPut3_c {inn : Nat → Prop} {w : World} {v : Value} {bs : List UInt8} {cs : List Value} {topic group : List UInt8} {offset : Int} {records : List (List UInt8)} (hb : Bs w v bs) (h : tOp.rd inn w cs ⟨3, topic, group, offset, records⟩) (h0 : opE ⟨3, topic, group, offset, records⟩ = 0)
    (hl : (bs ++ opB ⟨3, topic, group, offset, records⟩).length + 30 ≤ big) :
    Calls Tryz.prog 332 #[v, .agg cs.toArray] w (Fresh w (bs ++ opB ⟨3, topic, group, offset, records⟩)) := by
  have HR := Lib.hid (fun w' (hb : B w w') => tOp.later h hb)
  obtain ⟨v5, rfl, a1, a2, a3, a4, a5⟩ := tOp.parts h
  simp only at a2 a3 a4 a5
  have H5 := Lib.hid a5
  obtain ⟨A5, c5, e5, l5⟩ := tL.slice a5
  injection e5 with e5 _
  subst e5
  have HB := Lib.hid hb
  have HS := Lib.hid (aBlk.new (St.nil w) 80 #[.int .i64 3, .string (bstr topic), .string (bstr group), .int .i64 offset, .slice A5 records.length c5])
  have HT := Lib.hid a2
  have HGr := Lib.hid a3
  have hct := conv_run topic
  have hcg := conv_run group
  have HO0 := Lib.hid (show 0 ≤ offset ∧ offset ≤ 9007199254740992 from (opE0 h0).2.2)
  have HL := Lib.hid hl
  have hwo : IntKind.u64.wrap offset = offset := u64_id (by have := HO0.out; omega)
  have g0 : (opE ⟨3, topic, group, offset, records⟩ != 0) = false := by simp [h0]
  clear h a5 a2 a3 hb h0 hl a1 a4
  go_enter Tryz.func332, Tryz.ntmps332
  go_wp2_with (first
    | (go_at_call 42; (with_reducible refine callsM (St.fresh HS.out.on (clone89 (HB.out.later HS.out.on.b))) ?_); rintro e w1 ⟨v1, rfl, hS⟩; replace HS := Lib.hid hS; clear hS; have KG := (aBlk.get HS.out.swap).cell; have KL := (aBlk.get HS.out.swap).lt)
    | (go_at_call 302; (with_reducible refine callsM (opE_c (HR.out _ HS.out.on.b)) ?_); rintro e w2 ⟨rfl, hb⟩; replace HS := Lib.hid (HS.out.on.later hb); clear hb; replace KG := (aBlk.get HS.out.swap).cell; replace KL := (aBlk.get HS.out.swap).lt)
    | (go_at_call 151; (with_reducible refine callsM (St.fresh HS.out.on (putN_c (HS.out.on.byBs (by have := HL.out; simp [opB, byF] at this ⊢; omega)) _ (by have := HO0.out; omega) (by have := HL.out; simp [opB, byF] at this ⊢; omega))) ?_); rintro e w1 ⟨v1, rfl, hS⟩; replace HS := Lib.hid hS.drop2; clear hS; replace KG := (aBlk.get HS.out.swap).cell; replace KL := (aBlk.get HS.out.swap).lt)
    | (go_at_call 157; (with_reducible refine callsM (St.fresh HS.out.on (putBytes72 (HS.out.on.byBs (by have := HL.out; simp [opB, byF] at this ⊢; omega)) (conv_Bs topic _ HT.out) (by have := HL.out; simp [opB, byF] at this ⊢; omega))) ?_); rintro e w1 ⟨v1, rfl, hS⟩; replace HS := Lib.hid hS.drop2; clear hS; rw [byF_eq] at HS; replace KG := (aBlk.get HS.out.swap).cell; replace KL := (aBlk.get HS.out.swap).lt))
  have hbw2 := fun i => (Lib.bytesWorld_old w1.drew 5 (bstr group) ⟨w.heap.size, i, none⟩ KL).trans (KG i)
  go_region_with (first
    | (go_at_call 157; (with_reducible refine callsM (St.fresh HS.out.on (putBytes72 (HS.out.on.byBs (by have := HL.out; simp [opB, byF] at this ⊢; omega)) (conv_Bs group _ HGr.out) (by have := HL.out; simp [opB, byF] at this ⊢; omega))) ?_); rintro e w1 ⟨v1, rfl, hS⟩; replace HS := Lib.hid hS.drop2; clear hS; rw [byF_eq] at HS; replace KG := (aBlk.get HS.out.swap).cell; replace KL := (aBlk.get HS.out.swap).lt)
    | (go_at_call 151; (with_reducible refine callsM (St.fresh HS.out.on (putN_c (HS.out.on.byBs (by have := HL.out; simp [opB, byF] at this ⊢; omega)) _ (by have := HO0.out; omega) (by have := HL.out; simp [opB, byF] at this ⊢; omega))) ?_); rintro e w1 ⟨v1, rfl, hS⟩; replace HS := Lib.hid hS.drop2; clear hS; replace KG := (aBlk.get HS.out.swap).cell; replace KL := (aBlk.get HS.out.swap).lt))
  all_goals
    go_wp2
    go_ret
    have hS := HS.out.toFresh
    simpa [opB, byF, Int.toNat] using hS
end Go.Proofs.YteaggenihhaajaaGreat

/- op.Put of a publish; op.Put, op.Bytes whole. -/
namespace Go.Proofs.YteaggenihhaajaaGreat
open Go.RowKit Go.Deep
set_option linter.unusedVariables false

set_option maxRecDepth 20000 in
set_option maxHeartbeats 8000000 in
theorem opPut2_c {inn : Nat → Prop} {w : World} {v : Value} {bs : List UInt8} {cs : List Value} {topic group : List UInt8} {offset : Int} {records : List (List UInt8)} (hb : Bs w v bs) (h : tOp.rd inn w cs ⟨2, topic, group, offset, records⟩) (h0 : opE ⟨2, topic, group, offset, records⟩ = 0)
    (hl : (bs ++ opB ⟨2, topic, group, offset, records⟩).length + 30 ≤ big) :
    Calls Tryz.prog 332 #[v, .agg cs.toArray] w (Fresh w (bs ++ opB ⟨2, topic, group, offset, records⟩)) := by
  have HR := Lib.hid (fun w' (hb : B w w') => tOp.later h hb)
  obtain ⟨v5, rfl, a1, a2, a3, a4, a5⟩ := tOp.parts h
  simp only at a2 a3 a4 a5
  have H5 := Lib.hid a5
  obtain ⟨A5, c5, e5, l5⟩ := tL.slice a5
  injection e5 with e5 _
  subst e5
  have HB := Lib.hid hb
  have HS := Lib.hid (aBlk.new (St.nil w) 80 #[.int .i64 2, .string (bstr topic), .string (bstr group), .int .i64 offset, .slice A5 records.length c5])
  have HT := Lib.hid a2
  have HGr := Lib.hid a3
  have hct := conv_run topic
  have hcg := conv_run group
  have HO0 := Lib.hid (show 0 ≤ offset ∧ offset ≤ 9007199254740992 from (opE0 h0).2.2)
  have HL := Lib.hid hl
  have hwn : IntKind.u64.wrap (records.length : Int) = records.length := u64_id (by omega)
  have hwo : IntKind.u64.wrap offset = offset := u64_id (by have := HO0.out; omega)
  have g0 : (opE ⟨2, topic, group, offset, records⟩ != 0) = false := by simp [h0]
  clear h a5 a2 a3 hb h0 hl a1 a4
  go_enter Tryz.func332, Tryz.ntmps332
  go_wp2_with (first
    | (go_at_call 42; (with_reducible refine callsM (St.fresh HS.out.on (clone89 (HB.out.later HS.out.on.b))) ?_); rintro e w1 ⟨v1, rfl, hS⟩; replace HS := Lib.hid hS; clear hS; have KG := (aBlk.get HS.out.swap).cell; have KL := (aBlk.get HS.out.swap).lt)
    | (go_at_call 302; (with_reducible refine callsM (opE_c (HR.out _ HS.out.on.b)) ?_); rintro e w2 ⟨rfl, hb⟩; replace HS := Lib.hid (HS.out.on.later hb); clear hb; replace KG := (aBlk.get HS.out.swap).cell; replace KL := (aBlk.get HS.out.swap).lt)
    | (go_at_call 151; (with_reducible refine callsM (St.fresh HS.out.on (putN_c (HS.out.on.byBs (by have := HL.out; simp [opB, byF] at this ⊢; omega)) _ (by first | omega | (have := HO0.out; omega)) (by have := HL.out; simp [opB, byF] at this ⊢; omega))) ?_); rintro e w1 ⟨v1, rfl, hS⟩; replace HS := Lib.hid hS.drop2; clear hS; replace KG := (aBlk.get HS.out.swap).cell; replace KL := (aBlk.get HS.out.swap).lt)
    | (go_at_call 157; (with_reducible refine callsM (St.fresh HS.out.on (putBytes72 (HS.out.on.byBs (by have := HL.out; simp [opB, byF] at this ⊢; omega)) (conv_Bs topic _ HT.out) (by have := HL.out; simp [opB, byF] at this ⊢; omega))) ?_); rintro e w1 ⟨v1, rfl, hS⟩; replace HS := Lib.hid hS.drop2; clear hS; rw [byF_eq] at HS; replace KG := (aBlk.get HS.out.swap).cell; replace KL := (aBlk.get HS.out.swap).lt))
  have HQ := Lib.hid (show ∀ q, q < records.length → ((records.take q).flatMap byF).length + (byF (records[q]?.getD [])).length ≤ (records.flatMap byF).length from fun q hq => by
    have e := congrArg (fun l => (l.flatMap byF).length) (List.take_append_drop (q + 1) records)
    rw [List.take_succ_eq_append_getElem hq] at e
    simp only [List.flatMap_append, List.length_append, List.flatMap_cons, List.flatMap_nil, List.append_nil] at e
    rw [List.getElem?_eq_getElem hq]
    simp only [Option.getD_some]
    omega)
  go_loopw [5, 40] (fun v i wr => ∃ (q : Nat) (z : List UInt8), q ≤ records.length ∧ i = .int .i64 q ∧ Hid (z = bs ++ enc 2 ++ byF topic ++ enc records.length ++ (records.take q).flatMap byF) ∧ Hid (St w wr [aBy v z, aBlk w.heap.size 80 #[.int .i64 2, .string (bstr topic), .string (bstr group), .int .i64 offset, .slice A5 records.length c5]])) (fun _ i _ => records.length - (intOf i).toNat)
  case atStart =>
    exact ⟨0, bs ++ enc 2 ++ byF topic ++ enc records.length, Nat.zero_le _, rfl, Lib.hid (by simp), Lib.hid (by have hS := HS.out; simpa using hS)⟩
  case round =>
    obtain ⟨q, z, hq, rfl, HZ, HS⟩ := hrel
    by_cases hlt : q < records.length
    · obtain ⟨x, hx⟩ : ∃ x, records[q]? = some x := ⟨_, List.getElem?_eq_getElem hlt⟩
      obtain ⟨_, b, off, ds, rfl, r1, k1⟩ := tL.at H5.out hx
      obtain ⟨u1, rfl⟩ := len1 (tY.len r1)
      have d0 := B.cell HS.out.b (k1 0 _ rfl)
      simp only [show tY.n = 1 from rfl, Nat.mul_one, Nat.add_zero] at d0
      have HX := Lib.hid hx
      have HXB := Lib.hid (fun (w' : World) (hb : B w w') => (tY.bs r1).later hb)
      have hqi : (q : Int) < records.length := by omega
      have HZL := Lib.hid (show z.length + x.length + 20 ≤ big from by
        have h1 := HL.out
        have h2 := HQ.out q hlt
        rw [hx] at h2
        have h3 := congrArg List.length HZ.out
        have e : opB ⟨2, topic, group, offset, records⟩ = enc 2 ++ byF topic ++ (enc records.length ++ records.flatMap byF) := rfl
        have hx2 : (byF x).length = (enc x.length).length + x.length := by simp [byF]
        rw [e] at h1
        simp only [List.length_append, Option.getD_some] at h1 h2 h3
        omega)
      obtain ⟨A6, c6, rfl⟩ := (tY.bs r1).rd.slice
      clear r1 k1 hx
      go_wp2_with (first
        | (go_at_call 157; (with_reducible refine callsM (St.fresh HS.out.on (putBytes72 (HS.out.on.byBs (by have := HZL.out; omega)) (HXB.out _ HS.out.on.b) (by have := HZL.out; simp; omega))) ?_); rintro e w1 ⟨v1, rfl, hS⟩; replace HS := Lib.hid hS.drop2; clear hS; rw [byF_eq] at HS))
      go_roundw
      case rel =>
        refine ⟨q + 1, _, by omega, by go_num, ?_, HS.out⟩
        show z ++ byF x = _
        rw [HZ.out, List.take_add_one, HX.out]
        simp
      case measure => simp [intOf]; omega
    · have hqi : ¬ (q : Int) < records.length := by omega
      have HZ2 := Lib.hid (show z = bs ++ opB ⟨2, topic, group, offset, records⟩ from by
        rw [HZ.out, List.take_of_length_le (by omega)]
        simp [opB, byF])
      clear hlt hq
      go_wp2
      go_ret
      rw [← HZ2.out]
      exact HS.out.toFresh
theorem opPut_c {inn : Nat → Prop} {w : World} {v : Value} {bs : List UInt8} {cs : List Value} {a : OpD} (hb : Bs w v bs) (h : tOp.rd inn w cs a) (hl : (bs ++ opB a).length + 30 ≤ big) :
    Calls Tryz.prog 332 #[v, .agg cs.toArray] w (Fresh w (bs ++ if opE a = 0 then opB a else [])) := by
  by_cases h0 : opE a = 0
  · rw [if_pos h0]
    have hk := (opE0 h0).1
    obtain ⟨kind, topic, group, offset, records⟩ := a
    simp only at hk
    have hc : kind = 0 ∨ kind = 1 ∨ kind = 2 ∨ kind = 3 ∨ kind = 4 := by omega
    rcases hc with rfl | rfl | rfl | rfl | rfl
    · exact opPut0_c hb h h0 hl
    · exact opPut1_c hb h h0 hl
    · exact opPut2_c hb h h0 hl
    · exact opPut3_c hb h h0 hl
    · exact opPut4_c hb h h0 hl
  · rw [if_neg h0, List.append_nil]
    exact opPut_bad hb h h0
end Go.Proofs.YteaggenihhaajaaGreat

/- Requests and signatures: what may be. -/
namespace Go.Proofs.YteaggenihhaajaaGreat
open Go.RowKit Go.Deep
set_option linter.unusedVariables false

set_option maxRecDepth 20000 in
set_option maxHeartbeats 4000000 in
theorem signE_c {w : World} {k d : Int} : Calls Tryz.prog 221 #[.agg #[.int .i64 k, .int .i64 d]] w fun e w' => e = .returned (.int .i64 (signE ⟨k, d⟩)) ∧ B w w' := by
  go_enter Tryz.func221, Tryz.ntmps221
  go_wp2
  all_goals go_ret
  all_goals refine ⟨?_, BB.out⟩
  all_goals
    go_light
    refine congrArg (fun z => Ending.returned (Value.int .i64 z)) (?_ : _ = signE ⟨k, d⟩)
    unfold signE
    simp only
    split <;> first | rfl | (exfalso; omega)
set_option maxRecDepth 20000 in
set_option maxHeartbeats 4000000 in
theorem reqE_c {inn : Nat → Prop} {w : World} {cs : List Value} {a : RequestD} (h : tRequest.rd inn w cs a) :
    Calls Tryz.prog 254 #[.agg cs.toArray] w fun e w' => e = .returned (.int .i64 (reqE a)) ∧ B w w' := by
  obtain ⟨v, rfl, a1, a2, o1, o2, o3, o4, o5⟩ := tRequest.parts h
  have HC := Lib.hid (fun (w' : World) (hb : B w w') => opE_c (tOp.mk (s := a.op) o1 o2 o3 o4 ((tL tY).later o5 hb)))
  obtain ⟨A5, c5, e5, l5⟩ := tL.slice o5
  injection e5 with e5 _
  subst e5
  clear h o5 o2 o3
  go_enter Tryz.func254, Tryz.ntmps254
  go_wp2_with (first
    | (go_at_call 302; (with_reducible refine callsM (HC.out _ BB.out) ?_); rintro e w1 ⟨rfl, hb⟩; have HB := Lib.hid ((BB.out : B w _).trans hb); clear hb))
  all_goals go_ret
  all_goals refine ⟨?_, by first | exact HB.out | exact BB.out⟩
  all_goals
    go_light
    refine congrArg (fun z => Ending.returned (Value.int .i64 z)) (?_ : _ = reqE a)
    unfold reqE
    split <;> first | rfl | (exfalso; omega)
end Go.Proofs.YteaggenihhaajaaGreat

/- Batches: what may be (request.CheckBatch). -/
namespace Go.Proofs.YteaggenihhaajaaGreat
open Go.RowKit Go.Deep
set_option linter.unusedVariables false

def twinP (l : List SignedD) (i k : Nat) : Bool := match l[i]?, l[k]? with | some a, some b => twin a b | _, _ => false
theorem twinsF_eq (l : List SignedD) : twinsF l = (List.range l.length).any fun i => (List.range i).any fun k => twinP l i k := rfl
theorem partsE_snoc (l : List SignedD) (s : SignedD) : partsE (l ++ [s]) = orE (partsE l) (orE (reqE s.request) (signE s.sign)) := by
  induction l with
  | nil => simp only [List.nil_append, partsE, z_orE, orE_z]
  | cons y r ih => simp only [List.cons_append, partsE, ih, orE_assoc]
theorem partsE_app (l r : List SignedD) : partsE (l ++ r) = orE (partsE l) (partsE r) := by
  induction l with
  | nil => simp only [List.nil_append, partsE, z_orE]
  | cons y r ih => simp only [List.cons_append, partsE, ih, orE_assoc]
theorem partsE_at {l : List SignedD} {q : Nat} {x : SignedD} (h : l[q]? = some x) (h0 : partsE (l.take q) = 0) : partsE (l.take (q + 1)) = orE (reqE x.request) (signE x.sign) ∧ ∃ r, partsE l = orE (partsE (l.take (q + 1))) r := by
  have e : l.take (q + 1) = l.take q ++ [x] := by rw [List.take_add_one, h]; rfl
  refine ⟨by rw [e, partsE_snoc, h0, z_orE], partsE (l.drop (q + 1)), ?_⟩
  rw [← partsE_app, List.take_append_drop]
theorem tL.full {α : Type} {T : Ty α} {inn : Nat → Prop} {w : World} {cs : List Value} {xs : List α} (h : (tL T).rd inn w cs xs) : ∃ A cap, cs = [.slice A xs.length cap] ∧ xs.length ≤ cap ∧ cap ≤ maxLen ∧ xs.length ≤ 4194304 := by
  obtain ⟨A, cap, rfl, h1, h2, _, h4, _⟩ := h
  exact ⟨A, cap, rfl, h1, h2, h4⟩
set_option maxRecDepth 20000 in
set_option maxHeartbeats 8000000 in
theorem batchE_c {inn : Nat → Prop} {w : World} {v : Value} {s : List SignedD} (h : (tL tSigned).rd inn w [v] s) :
    Calls Tryz.prog 216 #[v] w fun e w' => e = .returned (.int .i64 (batchE s)) ∧ B w w' := by
  obtain ⟨A, c, e1, hlc, hcm, hs⟩ := tL.full h
  injection e1 with e1 _
  subst e1
  have HR := Lib.hid h
  obtain ⟨l, hl0⟩ : ∃ l, s.length = l := ⟨_, rfl⟩
  have HL0 := Lib.hid hl0
  rw [hl0] at hs hlc ⊢
  have hcm2 : (c : Int) ≤ 9223372036854775807 := by unfold maxLen at hcm; omega
  clear h hl0 hcm
  by_cases h4 : 4 < l
  · have g4 : (4 : Int) < l := by omega
    have E := Lib.hid (show batchE s = 3 from by unfold batchE; rw [if_pos (by have := HL0.out; omega)])
    clear h4
    go_enter Tryz.func216, Tryz.ntmps216
    go_wp2
    go_ret
    exact ⟨by rw [E.out]; rfl, BB.out⟩
  have g4 : ¬ (4 : Int) < l := by omega
  have HE := Lib.hid (show batchE s = orE (partsE s) (if twinsF s then 5 else 0) from by unfold batchE; rw [if_neg (by have := HL0.out; omega)])
  clear h4
  go_enter Tryz.func216, Tryz.ntmps216
  go_wp2
  go_loopw [16] (fun i wr => ∃ q : Nat, q ≤ l ∧ i = .int .i64 q ∧ Hid (partsE (s.take q) = 0) ∧ Hid (B w wr)) (fun i _ => l - (intOf i).toNat)
  case atStart => exact ⟨0, Nat.zero_le _, rfl, by simp [Hid, partsE], Below.refl _ _⟩
  case round =>
    obtain ⟨q, hq, rfl, HP, HW⟩ := hrel
    by_cases hlt : q < l
    · obtain ⟨x, hx⟩ : ∃ x, s[q]? = some x := ⟨_, List.getElem?_eq_getElem (by have := HL0.out; omega)⟩
      obtain ⟨_, b, off, cs, rfl, r1, k1⟩ := tL.at ((tL tSigned).later HR.out HW.out) hx
      obtain ⟨ev1, rfl, a1, a2, o1, o2, o3, o4, o5, a6, a7⟩ := tSigned.parts r1
      have HC := Lib.hid (fun (w' : World) (hb : B wr w') => reqE_c (tRequest.mk (s := x.request) a1 a2 o1 o2 o3 o4 ((tL tY).later o5 hb)))
      obtain ⟨eA, ec, ee, _⟩ := tL.slice o5
      injection ee with ee _
      subst ee
      have c0 := k1 0 _ rfl
      have c1 := k1 1 _ rfl
      have c2 := k1 2 _ rfl
      have c3 := k1 3 _ rfl
      have c4 := k1 4 _ rfl
      have c5 := k1 5 _ rfl
      have c6 := k1 6 _ rfl
      have c7 := k1 7 _ rfl
      have c8 := k1 8 _ rfl
      simp only [show tSigned.n = 9 from rfl, Nat.add_zero] at c0 c1 c2 c3 c4 c5 c6 c7 c8
      have HX := Lib.hid (partsE_at hx HP.out)
      have HS := Lib.hid (aBlk.new (St.nil wr) 84 #[.int .i64 x.request.client, .int .i64 x.request.time, .int .i64 x.request.op.kind, .string (bstr x.request.op.topic), .string (bstr x.request.op.group), .int .i64 x.request.op.offset, .slice eA x.request.op.records.length ec, .int .i64 x.sign.key, .int .i64 x.sign.digest])
      have hqi : (q : Int) < l := by omega
      clear r1 k1 hx o5 o2 o3
      go_wp2_with (first
        | (go_at_call 254; (with_reducible refine callsM (HC.out _ BB.out) ?_); rintro e w1 ⟨rfl, hb⟩; replace HS := Lib.hid (HS.out.on.later hb); have KG := (aBlk.get HS.out).cell; have KL := (aBlk.get HS.out).lt; clear hb c0 c1 c2 c3 c4 c5 c6 c7 c8)
        | (go_at_call 221; (with_reducible refine callsM signE_c ?_); rintro e w1 ⟨rfl, hb⟩; replace HS := Lib.hid (HS.out.on.later hb); replace KG := (aBlk.get HS.out).cell; replace KL := (aBlk.get HS.out).lt; clear hb))
      · go_ret
        refine ⟨?_, HW.out.trans HS.out.b⟩
        obtain ⟨e1, r, e2⟩ := HX.out
        have hne : reqE x.request ≠ 0 := by simpa using ‹(reqE x.request != 0) = true›
        rw [HE.out, e2, e1]
        simp [orE, hne]
      · go_ret
        refine ⟨?_, HW.out.trans HS.out.b⟩
        obtain ⟨e1, r, e2⟩ := HX.out
        have hne : signE x.sign ≠ 0 := by simpa using ‹(signE ⟨x.sign.key, x.sign.digest⟩ != 0) = true›
        have hz : reqE x.request = 0 := by simpa using ‹(reqE x.request != 0) = false›
        rw [HE.out, e2, e1, hz]
        simp [orE, hne]
      · have hz : reqE x.request = 0 := by simpa using ‹(reqE x.request != 0) = false›
        have hs0 : signE x.sign = 0 := by simpa using ‹(signE ⟨x.sign.key, x.sign.digest⟩ != 0) = false›
        refine ⟨⟨q + 1, by omega, by go_num, ?_, HW.out.trans HS.out.b⟩, by simp [intOf]; omega⟩
        show partsE _ = 0
        rw [HX.out.1, hz, hs0]
        rfl
    · have hqi : ¬ (q : Int) < l := by omega
      have HP0 := Lib.hid (show batchE s = if twinsF s then 5 else 0 from by
        have := HP.out
        rw [List.take_of_length_le (by have := HL0.out; omega)] at this
        rw [HE.out, this, z_orE])
      clear hlt hq
      go_wp2
      go_loopw [35] (fun i wr => ∃ q : Nat, q ≤ l ∧ i = .int .i64 q ∧ Hid (∀ j, j < q → ∀ k, k < j → twinP s j k = false) ∧ Hid (B w wr)) (fun i _ => l - (intOf i).toNat)
      case atStart => exact ⟨0, Nat.zero_le _, rfl, fun j hj => by omega, HW.out⟩
      case round =>
        obtain ⟨q2, hq, rfl, HT, HW2⟩ := hrel
        by_cases hlt : q2 < l
        · obtain ⟨x, hx⟩ : ∃ x, s[q2]? = some x := ⟨_, List.getElem?_eq_getElem (by have := HL0.out; omega)⟩
          obtain ⟨_, b, off, cs, rfl, r1, k1⟩ := tL.at ((tL tSigned).later HR.out HW2.out) hx
          obtain ⟨ev1, rfl, a1, a2, o1, o2, o3, o4, o5, a6, a7⟩ := tSigned.parts r1
          obtain ⟨eA, ec, ee, _⟩ := tL.slice o5
          injection ee with ee _
          subst ee
          have c0 := k1 0 _ rfl
          have c1 := k1 1 _ rfl
          have c2 := k1 2 _ rfl
          have c3 := k1 3 _ rfl
          have c4 := k1 4 _ rfl
          have c5 := k1 5 _ rfl
          have c6 := k1 6 _ rfl
          have c7 := k1 7 _ rfl
          have c8 := k1 8 _ rfl
          simp only [show tSigned.n = 9 from rfl, Nat.add_zero] at c0 c1 c2 c3 c4 c5 c6 c7 c8
          have HX := Lib.hid hx
          have HS := Lib.hid (aBlk.new (St.nil wr) 84 #[.int .i64 x.request.client, .int .i64 x.request.time, .int .i64 x.request.op.kind, .string (bstr x.request.op.topic), .string (bstr x.request.op.group), .int .i64 x.request.op.offset, .slice eA x.request.op.records.length ec, .int .i64 x.sign.key, .int .i64 x.sign.digest])
          have hqi : (q2 : Int) < l := by omega
          have hqc : (q2 : Int) ≤ c := by omega
          clear r1 k1 hx o5 o2 o3 a1 a2 o1 o4 a6 a7
          go_wp2
          go_loopw [44] (fun i wz => ∃ r : Nat, r ≤ q2 ∧ i = .int .i64 r ∧ Hid (∀ k, k < r → twinP s q2 k = false) ∧ Hid (St wr wz [aBlk wr.heap.size 84 #[.int .i64 x.request.client, .int .i64 x.request.time, .int .i64 x.request.op.kind, .string (bstr x.request.op.topic), .string (bstr x.request.op.group), .int .i64 x.request.op.offset, .slice eA x.request.op.records.length ec, .int .i64 x.sign.key, .int .i64 x.sign.digest]])) (fun i _ => q2 - (intOf i).toNat)
          case atStart => exact ⟨0, Nat.zero_le _, rfl, fun k hk => by omega, HS.out⟩
          case round =>
            obtain ⟨r, hr, rfl, HK, HZ⟩ := hrel
            have KG := (aBlk.get HZ.out).cell
            have KL := (aBlk.get HZ.out).lt
            by_cases hrt : r < q2
            · obtain ⟨y, hy⟩ : ∃ y, s[r]? = some y := ⟨_, List.getElem?_eq_getElem (by have := HL0.out; omega)⟩
              obtain ⟨_, b', off', ds, eb, r2, k2⟩ := tL.at ((tL tSigned).later HR.out (HW2.out.trans HZ.out.b)) hy
              injection eb with eb
              injection eb with eb1 eb2
              subst eb1 eb2
              obtain ⟨fv1, rfl, _, _, _, _, _, _, p5, _, _⟩ := tSigned.parts r2
              obtain ⟨fA, fc, fe, _⟩ := tL.slice p5
              injection fe with fe _
              subst fe
              have d0 := k2 0 _ rfl
              have d1 := k2 1 _ rfl
              have d2 := k2 2 _ rfl
              have d3 := k2 3 _ rfl
              have d4 := k2 4 _ rfl
              have d5 := k2 5 _ rfl
              have d6 := k2 6 _ rfl
              have d7 := k2 7 _ rfl
              have d8 := k2 8 _ rfl
              simp only [show tSigned.n = 9 from rfl, Nat.add_zero] at d0 d1 d2 d3 d4 d5 d6 d7 d8
              have HY := Lib.hid hy
              have hri : (r : Int) < q2 := by omega
              have HT2 := Lib.hid (show twinP s q2 r = (decide (x.request.client = y.request.client) && decide (x.request.time = y.request.time)) from by unfold twinP; rw [HX.out, HY.out]; rfl)
              clear r2 k2 hy p5 c0 c1 c2 c3 c4 c5 c6 c7 c8
              by_cases ht : twinP s q2 r = true
              · have E := Lib.hid (show batchE s = 5 from by
                  have htt : twinsF s = true := by
                    rw [twinsF_eq, List.any_eq_true]
                    refine ⟨q2, by rw [List.mem_range]; have := HL0.out; omega, ?_⟩
                    rw [List.any_eq_true]
                    exact ⟨r, by rw [List.mem_range]; exact hrt, ht⟩
                  rw [HP0.out, htt]
                  rfl)
                have h2 := HT2.out
                rw [ht] at h2
                have h3 := h2.symm
                clear h2
                simp only [Bool.and_eq_true, decide_eq_true_eq] at h3
                obtain ⟨h21, h22⟩ := h3
                have g1 : (x.request.client == y.request.client) = true := by simpa using h21
                have g2 : (x.request.time == y.request.time) = true := by simpa using h22
                clear h21 h22 ht
                go_wp2
                go_ret
                exact ⟨by rw [E.out]; rfl, HW2.out.trans HZ.out.on.b⟩
              · have HF := Lib.hid (show twinP s q2 r = false from by simpa using ht)
                have h2 := HT2.out
                rw [HF.out] at h2
                have hc : ((x.request.client == y.request.client) = false) ∨ ((x.request.client == y.request.client) = true ∧ (x.request.time == y.request.time) = false) := by
                  by_cases e : x.request.client = y.request.client
                  · right
                    refine ⟨by simpa using e, ?_⟩
                    rw [decide_eq_true e, Bool.true_and] at h2
                    have := h2.symm
                    simpa using this
                  · left; simpa using e
                clear h2 ht
                rcases hc with g1 | ⟨g1, g2⟩
                all_goals
                  go_wp2
                  go_roundw
                  case rel =>
                    refine ⟨r + 1, by omega, by go_num, fun k hk => ?_, HZ.out.on⟩
                    by_cases e : k = r
                    · rw [e]; exact HF.out
                    · exact HK.out k (by omega)
                  case measure => simp [intOf]; omega
            · have hri : ¬ (r : Int) < q2 := by omega
              clear c0 c1 c2 c3 c4 c5 c6 c7 c8
              go_wp2
              go_roundw
              case rel =>
                refine ⟨q2 + 1, by omega, by go_num, fun j hj k hk => ?_, HW2.out.trans HZ.out.b⟩
                by_cases e : j = q2
                · subst e; exact HK.out k (by omega)
                · exact HT.out j (by omega) k hk
              case measure => simp [intOf]; omega
        · have hqi : ¬ (q2 : Int) < l := by omega
          have E := Lib.hid (show batchE s = 0 from by
            have ht : twinsF s = false := by
              rw [twinsF_eq, List.any_eq_false]
              intro j hj
              rw [Bool.not_eq_true, List.any_eq_false]
              intro k hk
              rw [List.mem_range] at hj hk
              rw [HT.out j (by have := HL0.out; omega) k hk]
              simp
            rw [HP0.out, ht]
            rfl)
          go_wp2
          go_ret
          exact ⟨by rw [E.out]; rfl, HW2.out⟩
end Go.Proofs.YteaggenihhaajaaGreat

/- Signatures, requests and batches behind bytes: request.PutSign, Bytes, PutBatch. -/
namespace Go.Proofs.YteaggenihhaajaaGreat
open Go.RowKit Go.Deep
set_option linter.unusedVariables false

theorem St.onto {w0 w w' : World} {A : Asn} {L : List Asn} (h : St w0 w L) (k : St w w' [A]) : St w0 w' (A :: L) := by
  obtain ⟨hb, own, h1, h2, _⟩ := k
  exact h.add hb h2 (fun x e => (h1 x e).1)
theorem signE0 {s : SignD} (h : signE s = 0) : (0 ≤ s.key ∧ s.key < 21) ∧ 1 ≤ s.digest ∧ s.digest ≤ 9007199254740992 := by
  unfold signE at h
  split at h
  · cases h
  · omega
set_option maxRecDepth 20000 in
set_option maxHeartbeats 8000000 in
theorem putSign_c {w : World} {v : Value} {bs : List UInt8} {k d : Int} (hb : Bs w v bs) (hl : bs.length + 60 ≤ big) :
    Calls Tryz.prog 222 #[v, .agg #[.int .i64 k, .int .i64 d]] w (Fresh w (bs ++ signP ⟨k, d⟩)) := by
  have HB := Lib.hid hb
  have HS := Lib.hid (aBlk.new (St.nil w) 59 #[.int .i64 k, .int .i64 d])
  have HL := Lib.hid hl
  have HC := Lib.hid (fun w' => signE_c (w := w') (k := k) (d := d))
  by_cases h0 : signE ⟨k, d⟩ = 0
  · obtain ⟨k1, d1⟩ := signE0 h0
    simp only at k1 d1
    have hwk : IntKind.u64.wrap k = k := u64_id (by omega)
    have hwd : IntKind.u64.wrap d = d := u64_id (by omega)
    have HK := Lib.hid k1
    have HD := Lib.hid d1
    have H0 := Lib.hid (show signP ⟨k, d⟩ = enc k.toNat ++ enc d.toNat from by unfold signP; rw [if_pos h0]; rfl)
    have HE := Lib.hid (enc_10 (show k.toNat < 18446744073709551616 by omega))
    rw [h0] at HC
    clear h0 hb hl k1 d1
    go_enter Tryz.func222, Tryz.ntmps222
    go_wp2_with (first
      | (go_at_call 221; (with_reducible refine callsM (HC.out _) ?_); rintro r wn ⟨rfl, hS⟩; replace HS := Lib.hid (HS.out.on.later hS); clear hS; have KG := (aBlk.get HS.out).cell))
    go_region_held3 (fun w' : World => ∀ i, w'.cell? ⟨w.heap.size, i, none⟩ = (#[.int .i64 k, .int .i64 d] : Array Value)[i]?) (first | exact (aBlk.get (St.on HS.out)).cell | exact (aBlk.get (St.on HS.out).swap).cell) (first
      | (go_at_call 151; (with_reducible refine callsM (St.fresh HS.out.on (putN_c (HB.out.later HS.out.on.b) k (by have := HK.out; omega) (by have := HL.out; omega))) ?_); rintro r wn ⟨v1, rfl, hS⟩; replace HS := Lib.hid hS; clear hS)
      | (go_at_call 151; (with_reducible refine callsM (St.fresh HS.out.on (putN_c (HS.out.on.byBs (by have := HL.out; have := HE.out; simp; omega)) d (by have := HD.out; omega) (by have := HL.out; have := HE.out; simp; omega))) ?_); rintro r wn ⟨v2, rfl, hS⟩; replace HS := Lib.hid hS.drop2; clear hS))
    all_goals
      go_wp2
      go_ret
      have hS := HS.out.toFresh
      rw [H0.out, ← List.append_assoc]
      exact hS
  · have g0 : (signE ⟨k, d⟩ != 0) = true := by simpa using h0
    have H0 := Lib.hid (show signP ⟨k, d⟩ = [] from by unfold signP; rw [if_neg h0])
    clear h0 hb hl
    go_enter Tryz.func222, Tryz.ntmps222
    go_wp2_with (first
      | (go_at_call 221; (with_reducible refine callsM (HC.out _) ?_); rintro r wn ⟨rfl, hS⟩; replace HS := Lib.hid (HS.out.on.later hS); clear hS; have KG := (aBlk.get HS.out).cell)
      | (go_at_call 42; (with_reducible refine callsM (St.fresh HS.out.on (clone89 (HB.out.later HS.out.on.b))) ?_); rintro e w1 ⟨v1, rfl, hS⟩; replace HS := Lib.hid hS; clear hS))
    go_ret
    rw [H0.out, List.append_nil]
    exact HS.out.toFresh
theorem reqE0 {x : RequestD} (h : reqE x = 0) : (0 ≤ x.client ∧ x.client < 8) ∧ (1 ≤ x.time ∧ x.time ≤ 9007199254740992) ∧ opE x.op = 0 := by
  unfold reqE at h
  split at h
  · cases h
  · exact ⟨by omega, by omega, h⟩
set_option maxRecDepth 20000 in
set_option maxHeartbeats 8000000 in
theorem reqBytes_c {inn : Nat → Prop} {w : World} {cs : List Value} {a : RequestD} (h : tRequest.rd inn w cs a) (hl : (reqB a).length + 60 ≤ big) :
    Calls Tryz.prog 303 #[.agg cs.toArray] w fun e w' => ∃ v, e = .returned (.tuple #[v, .int .i64 (reqE a)]) ∧ St w w' [aBy v (if reqE a = 0 then reqB a else [])] := by
  have HR := Lib.hid (fun w' (hb : B w w') => tRequest.later h hb)
  obtain ⟨v, rfl, a1, a2, o1, o2, o3, o4, o5⟩ := tRequest.parts h
  have HO := Lib.hid (fun (w' : World) (hb : B w w') => tOp.mk (s := a.op) o1 o2 o3 o4 ((tL tY).later o5 hb))
  obtain ⟨A5, c5, e5, l5⟩ := tL.slice o5
  injection e5 with e5 _
  subst e5
  have HL := Lib.hid hl
  have HS := Lib.hid (aBlk.new (St.nil w) 82 #[.int .i64 a.client, .int .i64 a.time, .int .i64 a.op.kind, .string (bstr a.op.topic), .string (bstr a.op.group), .int .i64 a.op.offset, .slice A5 a.op.records.length c5])
  by_cases h0 : reqE a = 0
  · obtain ⟨q1, q2, q3⟩ := reqE0 h0
    have hw1 : IntKind.u64.wrap a.client = a.client := u64_id (by omega)
    have hw2 : IntKind.u64.wrap a.time = a.time := u64_id (by omega)
    have H1 := Lib.hid q1
    have H2 := Lib.hid q2
    have H3 := Lib.hid q3
    have HE1 := Lib.hid (enc_10 (show a.client.toNat < 18446744073709551616 by omega))
    have HE2 := Lib.hid (enc_10 (show a.time.toNat < 18446744073709551616 by omega))
    have HC := Lib.hid (fun (w' : World) (hb : B w w') => by have := reqE_c (HR.out w' hb); rw [h0] at this; exact this)
    have H0 := Lib.hid h0
    have HB := Lib.hid (show reqB a = enc a.client.toNat ++ enc a.time.toNat ++ opB a.op from rfl)
    have HBL := Lib.hid (show (enc a.client.toNat).length + (enc a.time.toNat).length + (opB a.op).length + 60 ≤ big from by rw [HB.out] at hl; simp at hl; omega)
    clear h o5 o2 o3 h0 hl q1 q2 q3 a1 a2 o1 o4
    go_enter Tryz.func303, Tryz.ntmps303
    go_wp2_with (first
      | (go_at_call 254; (with_reducible refine callsM (HC.out _ HS.out.on.b) ?_); rintro e w2 ⟨rfl, hb⟩; replace HS := Lib.hid (HS.out.on.later hb); clear hb; have KG := (aBlk.get HS.out).cell))
    go_region_held3 (fun w' : World => ∀ i, w'.cell? ⟨w.heap.size, i, none⟩ = (#[.int .i64 a.client, .int .i64 a.time, .int .i64 a.op.kind, .string (bstr a.op.topic), .string (bstr a.op.group), .int .i64 a.op.offset, .slice A5 a.op.records.length c5] : Array Value)[i]?) (first | exact (aBlk.get (St.on HS.out)).cell | exact (aBlk.get (St.on HS.out).swap).cell) (first
      | (go_at_call 151; (with_reducible refine callsM (St.fresh HS.out.on (putN_c (Bs.nil _) a.client (by have := H1.out; omega) (by simp [big]))) ?_); rintro r wn ⟨v1, rfl, hS⟩; replace HS := Lib.hid hS; clear hS)
      | (go_at_call 151; (with_reducible refine callsM (St.fresh HS.out.on (putN_c (HS.out.on.byBs (by have := HE1.out; simp [big]; omega)) a.time (by have := H2.out; omega) (by have := HE1.out; simp [big]; omega))) ?_); rintro r wn ⟨v2, rfl, hS⟩; replace HS := Lib.hid hS.drop2; clear hS)
      | (go_at_call 332; (with_reducible refine callsM (St.fresh HS.out.on (opPut_c (HS.out.on.byBs (by have := HE1.out; have := HE2.out; simp [big]; omega)) (HO.out _ HS.out.on.b) (by have := HBL.out; simp; omega))) ?_); rintro r wn ⟨v3, rfl, hS⟩; replace HS := Lib.hid hS.drop2; clear hS))
    all_goals
      go_wp2
      go_ret2
      refine ⟨v3, by simp [], ?_⟩
      have hS := HS.out.drop2
      rw [H3.out] at hS
      simpa [H0.out, HB.out] using hS
  · have g0 : (reqE a != 0) = true := by simpa using h0
    have H0 := Lib.hid h0
    clear h o5 o2 o3 h0 hl
    go_enter Tryz.func303, Tryz.ntmps303
    go_wp2_with (first
      | (go_at_call 254; (with_reducible refine callsM (reqE_c (HR.out _ HS.out.on.b)) ?_); rintro e w2 ⟨rfl, hb⟩; replace HS := Lib.hid (HS.out.on.later hb); clear hb; have KG := (aBlk.get HS.out).cell))
    go_ret2
    exact ⟨.slice none 0 0, by simp, by simpa [H0.out] using (aBy.nil HS.out).drop2⟩
theorem batchE0 {l : List SignedD} (h : batchE l = 0) : l.length ≤ 4 ∧ ∀ x ∈ l, reqE x.request = 0 ∧ signE x.sign = 0 := by
  unfold batchE at h
  split at h
  · cases h
  have hp := (orE_zero.1 h).1
  refine ⟨by omega, ?_⟩
  clear h
  rename_i h4
  clear h4
  induction l with
  | nil => intro x hx; cases hx
  | cons y r ih =>
    simp only [partsE, orE_zero] at hp
    intro x hx
    cases hx with
    | head => exact ⟨hp.1, hp.2.1⟩
    | tail _ hm => exact ih hp.2.2 x hm
set_option maxRecDepth 20000 in
set_option maxHeartbeats 8000000 in
theorem partsPut_c {inn : Nat → Prop} {w : World} {u v : Value} {bs : List UInt8} {s : List SignedD} (h : (tL tSigned).rd inn w [u] s) (h0 : batchE s = 0) (hb : Bs w v bs) (hl : (bs ++ batchB s).length + 100 ≤ big) :
    Calls Tryz.prog 255 #[u, v] w (Fresh w (bs ++ batchB s)) := by
  obtain ⟨A, c, e1, hs⟩ := tL.slice h
  injection e1 with e1 _
  subst e1
  have HR := Lib.hid h
  have HB := Lib.hid hb
  have HL := Lib.hid hl
  have HZ := Lib.hid (batchE0 h0).2
  have hn := (batchE0 h0).1
  have hwn : IntKind.u64.wrap (s.length : Int) = s.length := u64_id (by omega)
  have HQ := Lib.hid (show ∀ q x, s[q]? = some x → ((s.take q).flatMap signedB).length + (signedB x).length ≤ (s.flatMap signedB).length from fun q x hx => by
    have hq : q < s.length := by
      rcases Nat.lt_or_ge q s.length with h' | h'
      · exact h'
      · rw [List.getElem?_eq_none h'] at hx; cases hx
    have e := congrArg (fun l => (l.flatMap signedB).length) (List.take_append_drop (q + 1) s)
    rw [List.take_add_one, hx] at e
    simp only [Option.toList_some, List.flatMap_append, List.length_append, List.flatMap_cons, List.flatMap_nil, List.append_nil] at e
    omega)
  have HS := Lib.hid (St.nil w)
  clear h h0 hb hl
  go_enter Tryz.func255, Tryz.ntmps255
  go_wp2_with (first
    | (go_at_call 151; (with_reducible refine callsM (St.fresh HS.out.on (putN_c (HB.out.later HS.out.on.b) (s.length : Int) (by omega) (by have := HL.out; simp [batchB] at this; omega))) ?_); rintro r wn ⟨v1, rfl, hS⟩; replace HS := Lib.hid hS; clear hS))
  go_loopw [1, 16] (fun v i wr => ∃ (q : Nat) (z : List UInt8), q ≤ s.length ∧ i = .int .i64 q ∧ Hid (z = bs ++ enc s.length ++ (s.take q).flatMap signedB) ∧ Hid (St w wr [aBy v z])) (fun _ i _ => s.length - (intOf i).toNat)
  case atStart => exact ⟨0, bs ++ enc s.length, Nat.zero_le _, rfl, Lib.hid (by simp), Lib.hid (by have hS := HS.out; simpa using hS)⟩
  case round =>
    obtain ⟨q, z, hq, rfl, HZ2, HS⟩ := hrel
    by_cases hlt : q < s.length
    · obtain ⟨x, hx⟩ : ∃ x, s[q]? = some x := ⟨_, List.getElem?_eq_getElem hlt⟩
      obtain ⟨_, b, off, ds, rfl, r1, k1⟩ := tL.at HR.out hx
      obtain ⟨ev1, rfl, a1, a2, o1, o2, o3, o4, o5, a6, a7⟩ := tSigned.parts r1
      have HX := Lib.hid hx
      have hz := HZ.out x (List.mem_of_getElem? hx)
      have HE := Lib.hid hz
      have HLX := Lib.hid (show z.length + (signedB x).length + 100 ≤ big from by
        have h1 := HL.out
        have h2 := HQ.out q x hx
        have h3 := congrArg List.length HZ2.out
        have e : batchB s = enc s.length ++ s.flatMap signedB := rfl
        rw [e] at h1
        simp only [List.length_append] at h1 h2 h3
        omega)
      have HSB := Lib.hid (show signedB x = byF (reqB x.request) ++ signB x.sign from rfl)
      have HBY := Lib.hid (show (byF (reqB x.request)).length = (enc (reqB x.request).length).length + (reqB x.request).length from by simp [byF])
      have HRQ := Lib.hid (fun (w' : World) (hb : B w w') => by
        have := reqBytes_c (tRequest.mk (s := x.request) a1 a2 o1 o2 o3 o4 ((tL tY).later o5 hb)) (by have h1 := HLX.out; rw [HSB.out] at h1; simp only [List.length_append] at h1; have := HBY.out; omega)
        rw [hz.1, if_pos rfl] at this
        exact this)
      obtain ⟨eA, ec, ee, _⟩ := tL.slice o5
      injection ee with ee _
      subst ee
      have d0 := B.cell HS.out.b (k1 0 _ rfl)
      have d1 := B.cell HS.out.b (k1 1 _ rfl)
      have d2 := B.cell HS.out.b (k1 2 _ rfl)
      have d3 := B.cell HS.out.b (k1 3 _ rfl)
      have d4 := B.cell HS.out.b (k1 4 _ rfl)
      have d5 := B.cell HS.out.b (k1 5 _ rfl)
      have d6 := B.cell HS.out.b (k1 6 _ rfl)
      have d7 := B.cell HS.out.b (k1 7 _ rfl)
      have d8 := B.cell HS.out.b (k1 8 _ rfl)
      simp only [show tSigned.n = 9 from rfl, Nat.add_zero] at d0 d1 d2 d3 d4 d5 d6 d7 d8
      replace HS := Lib.hid (aBlk.new HS.out 84 #[.int .i64 x.request.client, .int .i64 x.request.time, .int .i64 x.request.op.kind, .string (bstr x.request.op.topic), .string (bstr x.request.op.group), .int .i64 x.request.op.offset, .slice eA x.request.op.records.length ec, .int .i64 x.sign.key, .int .i64 x.sign.digest]).swap
      have hqi : (q : Int) < s.length := by omega
      clear r1 k1 hx o5 o2 o3 hz a1 a2 o1 o4
      go_wp2_with (first
        | (go_at_call 303; (with_reducible refine callsM (HRQ.out _ HS.out.on.b) ?_); rintro r wn ⟨v3, rfl, hS⟩; replace HS := Lib.hid (HS.out.on.onto hS); clear hS; have KG := (aBlk.get HS.out.rot3).cell; have KL := (aBlk.get HS.out.rot3).lt))
      go_region_held3 (fun w' : World => ∀ i, w'.cell? ⟨wr.heap.size, i, none⟩ = (#[.int .i64 x.request.client, .int .i64 x.request.time, .int .i64 x.request.op.kind, .string (bstr x.request.op.topic), .string (bstr x.request.op.group), .int .i64 x.request.op.offset, .slice eA x.request.op.records.length ec, .int .i64 x.sign.key, .int .i64 x.sign.digest] : Array Value)[i]?) (first | exact (aBlk.get (St.on HS.out).rot3).cell | exact (aBlk.get (St.on HS.out).swap).cell) (first
        | (go_at_call 157; (with_reducible refine callsM (St.fresh HS.out.on (putBytes72 (HS.out.on.swap.byBs (by have := HLX.out; omega)) (HS.out.on.byBs (by have := HLX.out; have h2 := HSB.out; have h3 := HBY.out; rw [h2] at this; simp only [List.length_append] at this; omega)) (by have := HLX.out; have h2 := HSB.out; have h3 := HBY.out; rw [h2] at this; simp only [List.length_append] at this ⊢; omega))) ?_); rintro r wn ⟨v4, rfl, hS⟩; replace HS := Lib.hid hS.drop2.drop2; clear hS; rw [byF_eq] at HS)
        | (go_at_call 222; (with_reducible refine callsM (St.fresh HS.out.on (putSign_c (HS.out.on.byBs (by have := HLX.out; have h2 := HSB.out; rw [h2] at this; simp only [List.length_append] at this ⊢; omega)) (by have := HLX.out; have h2 := HSB.out; rw [h2] at this; simp only [List.length_append] at this ⊢; omega))) ?_); rintro r wn ⟨v5, rfl, hS⟩; replace HS := Lib.hid hS.drop2; clear hS))
      all_goals
        go_wp2
        go_roundw
        case rel =>
          refine ⟨q + 1, _, by omega, by go_num, ?_, Lib.hid HS.out.drop2⟩
          show _ = _
          rw [HZ2.out, List.take_add_one, HX.out]
          have hp : signP ⟨x.sign.key, x.sign.digest⟩ = signB x.sign := by unfold signP; rw [if_pos HE.out.2]
          simp [hp, HSB.out]
        case measure => simp [intOf]; omega
    · have hqi : ¬ (q : Int) < s.length := by omega
      have HZ3 := Lib.hid (show z = bs ++ batchB s from by
        rw [HZ2.out, List.take_of_length_le (by omega)]
        simp [batchB])
      clear hlt hq
      go_wp2
      go_ret
      rw [← HZ3.out]
      exact HS.out.toFresh
end Go.Proofs.YteaggenihhaajaaGreat

/- Lists of numbers that a call writes down; slices.Contains over numbers; which messages are signed. -/
namespace Go.Proofs.YteaggenihhaajaaGreat
open Go.RowKit Go.Deep
set_option linter.unusedVariables false

/-- numbers written down in a block read as a list -/
theorem litI {w : World} {g : Nat} {t : TypeId} (ns : List Int) (h : Blk w g t (ns.map (Value.int .i64)).toArray) (hb : ∀ n ∈ ns, -9223372036854775808 ≤ n ∧ n ≤ 9223372036854775807) (hl : ns.length ≤ 4194304) :
    (tL tI).rd (fun _ => True) w [.slice (some ⟨g, 0, none⟩) ns.length ns.length] ns := by
  refine ⟨_, _, rfl, Nat.le_refl _, by unfold maxLen; omega, fun e => (by cases e), hl, fun _ => ⟨g, 0, rfl, h.lt, trivial, fun i x hx => ⟨_, ⟨rfl, hb x (List.mem_of_getElem? hx)⟩, fun j v hj => ?_⟩⟩⟩
  cases j with
  | zero =>
    simp only [List.getElem?_cons_zero, Option.some.injEq] at hj
    subst hj
    rw [h.cell]
    simp [tI, hx]
  | succ j => simp at hj
set_option maxRecDepth 20000 in
set_option maxHeartbeats 2000000 in
theorem idxInt_c {inn : Nat → Prop} {w : World} {v : Value} {s : List Int} {x : Int} (h : (tL tI).rd inn w [v] s) :
    Calls Tryz.prog 316 #[v, .int .i64 x] w fun e w' => ∃ k : Int, e = .returned (.int .i64 k) ∧ (0 ≤ k ↔ x ∈ s) ∧ w = w' := by
  obtain ⟨A, c, e1, hs⟩ := tL.slice h
  injection e1 with e1 _
  subst e1
  have HR := Lib.hid h
  obtain ⟨l, hl0⟩ : ∃ l, s.length = l := ⟨_, rfl⟩
  have HL0 := Lib.hid hl0
  rw [hl0] at hs ⊢
  clear h hl0
  go_enter Tryz.func316, Tryz.ntmps316
  go_wp2_with fail
  go_loop [5, 8] (fun _ i => ∃ q : Nat, q ≤ l ∧ i = .int .i64 q ∧ Hid (∀ j y, j < q → s[j]? = some y → ¬ x = y)) (fun _ i => l - (intOf i).toNat)
  case atStart => exact ⟨0, Nat.zero_le _, rfl, fun j x h => by omega⟩
  case round =>
    obtain ⟨q, hq, rfl, HP⟩ := hrel
    by_cases hlt : q < l
    · obtain ⟨y, hy⟩ : ∃ y, s[q]? = some y := ⟨_, List.getElem?_eq_getElem (by have := HL0.out; omega)⟩
      obtain ⟨_, b, off, cs, rfl, ⟨rfl, _⟩, k1⟩ := tL.at HR.out hy
      have c1 := k1 0 _ rfl
      simp only [show tI.n = 1 from rfl, Nat.mul_one, Nat.add_zero] at c1
      have HS := Lib.hid hy
      have hqi : (q : Int) < l := by omega
      clear k1 hy
      by_cases e1 : x = y
      · have g : (x == y) = true := by simpa using e1
        have g' : (y == x) = true := by simpa using e1.symm
        have E := Lib.hid (show ((0 : Int) ≤ q ↔ x ∈ s) from ⟨fun _ => by rw [e1]; exact List.mem_of_getElem? HS.out, fun _ => by omega⟩)
        clear e1
        go_wp2_with fail
        go_ret
        exact ⟨_, rfl, E.out, rfl⟩
      · have g : (x == y) = false := by simpa using e1
        have g' : (y == x) = false := by simpa using fun e => e1 e.symm
        have E := Lib.hid e1
        clear e1
        go_wp2_with fail
        go_round
        case rel => exact ⟨q + 1, by omega, by go_num, fun j z hj hz => by
          by_cases e : j = q
          · rw [e, HS.out] at hz; injection hz with hz; rw [← hz]; exact E.out
          · exact HP.out j z (by omega) hz⟩
        case measure => simp [intOf]; omega
    · have hqi : ¬ (q : Int) < l := by omega
      have E := Lib.hid (show ((0 : Int) ≤ -1 ↔ x ∈ s) from by
        refine ⟨fun hx => by omega, fun hx => ?_⟩
        exfalso
        obtain ⟨j, hj⟩ := List.getElem?_of_mem hx
        have hjl : j < s.length := by
          rcases Nat.lt_or_ge j s.length with h' | h'
          · exact h'
          · rw [List.getElem?_eq_none h'] at hj; cases hj
        exact HP.out j x (by have := HL0.out; omega) hj rfl)
      go_wp2_with fail
      go_ret
      exact ⟨_, rfl, E.out, rfl⟩
theorem hasInt_c {inn : Nat → Prop} {w : World} {v : Value} {s : List Int} {x : Int} (h : (tL tI).rd inn w [v] s) :
    Calls Tryz.prog 268 #[v, .int .i64 x] w fun e w' => e = .returned (.bool (decide (x ∈ s))) ∧ w = w' := by
  have HI := Lib.hid (idxInt_c (x := x) h)
  clear h
  go_enter Tryz.func268, Tryz.ntmps268
  go_wp2_with (first | (go_at_call 316; (with_reducible refine HI.out.mono ?_); rintro e w1 ⟨k, rfl, hk, rfl⟩; rcases (show (decide (x ∈ s) = true ∧ 0 ≤ k) ∨ (decide (x ∈ s) = false ∧ ¬ 0 ≤ k) from by by_cases hx : x ∈ s <;> simp [hx] <;> simp [hx] at hk <;> omega) with ⟨hz, hk2⟩ | ⟨hz, hk2⟩; all_goals (have HZ := Lib.hid hz; clear hz hk)))
  all_goals
    go_ret
    exact ⟨by rw [HZ.out]; simp <;> omega, rfl⟩
theorem signedK_mem (k : Int) : decide (k ∈ ([2, 3, 4, 5, 6, 8, 9] : List Int)) = signedK k := by
  rw [Bool.eq_iff_iff]
  simp [signedK, or_assoc]
theorem mSigned_c {w : World} {k : Int} : Calls Tryz.prog 228 #[.int .i64 k] w fun e w' => e = .returned (.bool (signedK k)) ∧ B w w' := by
  have HI := Lib.hid (hasInt_c (x := k) (litI (w := w.alloc (.cells #[.int .i64 2, .int .i64 3, .int .i64 4, .int .i64 5, .int .i64 6, .int .i64 8, .int .i64 9] 3)) (g := w.heap.size) (t := 3) [2, 3, 4, 5, 6, 8, 9] (Blk.new w 3 _) (by simp) (by simp)))
  rw [signedK_mem] at HI
  go_enter Tryz.func228, Tryz.ntmps228
  go_wp2_with (first | (go_at_call 268; (with_reducible refine callsM (HI.out) ?_); rintro e w1 ⟨rfl, rfl⟩))
  go_ret
  exact ⟨rfl, BB.out⟩
end Go.Proofs.YteaggenihhaajaaGreat

/- request.PutBatch; the writer of package message: numbers, byte strings, signatures, batches behind its bytes. -/
namespace Go.Proofs.YteaggenihhaajaaGreat
open Go.RowKit Go.Deep
set_option linter.unusedVariables false

set_option maxRecDepth 20000 in
set_option maxHeartbeats 8000000 in
theorem putBatch_c {inn : Nat → Prop} {w : World} {u v : Value} {bs : List UInt8} {s : List SignedD} (h : (tL tSigned).rd inn w [u] s) (hb : Bs w v bs) (hl : (bs ++ batchP s).length + 100 ≤ big) :
    Calls Tryz.prog 217 #[v, u] w (Fresh w (bs ++ batchP s)) := by
  have HB := Lib.hid hb
  have HS := Lib.hid (St.nil w)
  have HC := Lib.hid (fun (w' : World) (hb : B w w') => batchE_c ((tL tSigned).later h hb))
  by_cases h0 : batchE s = 0
  · have HP := Lib.hid (fun (w' : World) (hw : B w w') => partsPut_c ((tL tSigned).later h hw) h0 (hb.later hw) (by unfold batchP at hl; rw [if_pos h0] at hl; exact hl))
    have H0 := Lib.hid (show batchP s = batchB s from by unfold batchP; rw [if_pos h0])
    rw [h0] at HC
    clear h0 hb hl h
    go_enter Tryz.func217, Tryz.ntmps217
    go_wp2_with (first
      | (go_at_call 216; (with_reducible refine callsM (HC.out _ HS.out.on.b) ?_); rintro r wn ⟨rfl, hS⟩; replace HS := Lib.hid (HS.out.on.later hS); clear hS)
      | (go_at_call 255; (with_reducible refine callsM (St.fresh HS.out.on (HP.out _ HS.out.on.b)) ?_); rintro e w1 ⟨v1, rfl, hS⟩; replace HS := Lib.hid hS; clear hS))
    go_ret
    rw [H0.out]
    exact HS.out.toFresh
  · have g0 : (batchE s != 0) = true := by simpa using h0
    have H0 := Lib.hid (show batchP s = [] from by unfold batchP; rw [if_neg h0])
    clear h0 hb hl h
    go_enter Tryz.func217, Tryz.ntmps217
    go_wp2_with (first
      | (go_at_call 216; (with_reducible refine callsM (HC.out _ HS.out.on.b) ?_); rintro r wn ⟨rfl, hS⟩; replace HS := Lib.hid (HS.out.on.later hS); clear hS)
      | (go_at_call 42; (with_reducible refine callsM (St.fresh HS.out.on (clone89 (HB.out.later HS.out.on.b))) ?_); rintro e w1 ⟨v1, rfl, hS⟩; replace HS := Lib.hid hS; clear hS))
    go_ret
    rw [H0.out, List.append_nil]
    exact HS.out.toFresh
section
variable {W w : World} {p : Nat} {v : Value} {bs : List UInt8} {X : List Asn}
end
end Go.Proofs.YteaggenihhaajaaGreat

/- Small words: a box stored whole; a message's cells; what may not be wrong. -/
namespace Go.Proofs.YteaggenihhaajaaGreat
open Go.RowKit Go.Deep
set_option linter.unusedVariables false

theorem rangeE0 {n a b : Int} (h : rangeE n a b = 0) : a ≤ n ∧ n ≤ b := by
  unfold rangeE at h
  split at h
  · cases h
  · omega
/-- what is wrong with a message's bytes -/
noncomputable def bytesE (x : MsgD) : Int := if checkE x = 0 then (if 262144 < (fullB x).length then 3 else 0) else checkE x
end Go.Proofs.YteaggenihhaajaaGreat

/- How long names, and the bytes of messages that may be, can get: plain. -/
namespace Go.Proofs.YteaggenihhaajaaGreat
open Go.RowKit Go.Deep
set_option linter.unusedVariables false

theorem width_le (s : ByteArray) (pos : Nat) : (Utf8.decode s pos).2 ≤ 4 := by
  simp only [Utf8.decode]
  repeat' split
  all_goals simp_all
  all_goals omega
theorem runesGo_len (s : ByteArray) : ∀ k pos n m, s.size ≤ pos + k → runesGo s k pos n = some m → n ≤ m ∧ s.size ≤ pos + 4 * (m - n)
  | 0, pos, n, m, hk, h => by
    simp only [runesGo] at h
    injection h with h
    omega
  | k + 1, pos, n, m, hk, h => by
    simp only [runesGo] at h
    split at h
    · rename_i hp
      split at h
      · cases h
      · have h1 := width_pos s pos hp
        have h4 := width_le s pos
        have := runesGo_len s k _ _ m (by omega) h
        omega
    · injection h with h
      omega
theorem nameF_len {s : List UInt8} (h : nameF s = true) : s.length ≤ 64 := by
  unfold nameF runesF at h
  simp only [decide_eq_true_eq] at h
  split at h
  · omega
  · rename_i n hn
    split at h
    · omega
    · have := runesGo_len (bstr s) _ 0 0 n (by rw [bstr_size]; omega) hn
      rw [bstr_size] at this
      omega
theorem nameE0 {s : List UInt8} (h : nameE s = 0) : s.length ≤ 64 := by
  unfold nameE at h
  split at h
  · rename_i hn; exact nameF_len hn
  · cases h
theorem opB_short {o : OpD} (h : opE o = 0) : (opB o).length ≤ 1000 := by
  have h0 := opE0 h
  unfold opE at h
  repeat' split at h
  all_goals try cases h
  rename_i g1 g2 g3 g4 g5
  have ek := encLe10 o.kind.toNat (by omega)
  have eo := encLe10 o.offset.toNat (by omega)
  have bl : ∀ b : List UInt8, b.length ≤ 64 → (byF b).length ≤ 74 := fun b hb => by
    unfold byF
    have := encLe10 b.length (by omega)
    rw [List.length_append]; omega
  unfold opB
  rw [List.length_append, List.length_append]
  have p1 : (if o.kind = 0 then [] else byF o.topic).length ≤ 74 := by
    split
    · simp
    · rename_i hk
      exact bl _ (nameF_len (by simpa [hk] using g2))
  have p2 : (if o.kind = 2 then enc o.records.length ++ o.records.flatMap byF else if o.kind = 3 then byF o.group ++ enc o.offset.toNat else if o.kind = 4 then enc o.offset.toNat else []).length ≤ 800 := by
    split
    · rename_i k2
      have hr : o.records.length ≤ 4 ∧ longF o = false := by
        simp only [not_and, not_or] at g4
        have := g4 k2
        exact ⟨by omega, by simpa using this.2.2⟩
      have e5 := encLe10 o.records.length (by omega)
      have e6 := flat_len (f := byF) (K := 74) o.records (fun x hx => bl x (by
        have := hr.2
        unfold longF at this
        rw [List.any_eq_false] at this
        have := this x hx
        simp at this
        omega))
      rw [List.length_append]
      have : o.records.length * 74 ≤ 4 * 74 := Nat.mul_le_mul_right _ hr.1
      omega
    · split
      · rename_i k3
        have := bl o.group (nameF_len (by simpa [k3] using g3))
        rw [List.length_append]; omega
      · split
        · omega
        · simp
  omega
theorem encI_l10 (n : Int) : (encI n).length ≤ 10 := by
  unfold encI
  exact encLe10 _ (by omega)
theorem numsB_len (l : List Int) : (numsB l).length ≤ 10 * l.length := by
  unfold numsB
  have := flat_len (f := encI) (K := 10) l (fun x _ => encI_l10 x)
  omega
theorem signB_len {s : SignD} (h : signE s = 0) : (signB s).length ≤ 20 := by
  have h' := signE0 h
  have e1 := encLe10 s.key.toNat (by omega)
  have e2 := encLe10 s.digest.toNat (by omega)
  unfold signB
  rw [List.length_append]; omega
theorem signP_l20 (s : SignD) : (signP s).length ≤ 20 := by
  unfold signP
  split
  · rename_i h; exact signB_len h
  · simp
theorem reqB_short {x : RequestD} (h : reqE x = 0) : (reqB x).length ≤ 1020 := by
  obtain ⟨c, t, o⟩ := reqE0 h
  have e1 := encLe10 x.client.toNat (by omega)
  have e2 := encLe10 x.time.toNat (by omega)
  have e3 := opB_short o
  unfold reqB
  simp only [List.length_append]; omega
theorem batchP_len (l : List SignedD) : (batchP l).length ≤ 4300 := by
  unfold batchP
  split
  · rename_i h
    have h' := batchE0 h
    unfold batchB
    have e := encLe10 l.length (by omega)
    have f := flat_len (f := signedB) (K := 1050) l (fun s hs => by
      obtain ⟨h1, h2⟩ := h'.2 s hs
      have a1 := reqB_short h1
      have a2 := signB_len h2
      have a3 := encLe10 (reqB s.request).length (by omega)
      unfold signedB byF
      simp only [List.length_append]; omega)
    rw [List.length_append]
    have : l.length * 1050 ≤ 4 * 1050 := Nat.mul_le_mul_right _ h'.1
    omega
  · simp
theorem manyE0 {n : Nat} {m : Int} (h : manyE n m = 0) : (n : Int) ≤ m := (rangeE0 h).2
theorem signsB_len {l : List SignD} (h : signsE l = 0) : (signsB l).length ≤ 270 := by
  have h1 := manyE0 (orE_zero.1 h).1
  unfold signsB
  have e := encI_l10 (l.length : Int)
  have f := flat_len (f := signP) (K := 20) l (fun s _ => signP_l20 s)
  rw [List.length_append]
  have : l.length * 20 ≤ 13 * 20 := Nat.mul_le_mul_right _ (by omega)
  omega
theorem certB_len {c : CertD} (h : certE c = 0) : (certB c).length ≤ 300 := by
  unfold certE at h
  have h1 := (orE_zero.1 (orE_zero.1 (orE_zero.1 h).2).2).2
  have e := numsB_len [c.seq, c.digest]
  have f := signsB_len h1
  simp at e
  unfold certB
  rw [List.length_append]; omega
theorem prepB_len {p : PreparedD} (h : prepE p = 0) : (prepB p).length ≤ 5000 := by
  unfold prepE at h
  simp only [orE_zero] at h
  have e := numsB_len [p.view, p.seq, p.digest]
  have f := signsB_len h.2.2.2.2.1
  have g := signP_l20 p.firstS
  have b := batchP_len p.batch
  simp at e
  unfold prepB
  simp only [List.length_append]; omega
theorem bodyC_len {c : ChangeD} (h : chgE c = 0) : (bodyC c).length ≤ 41000 := by
  unfold chgE at h
  simp only [orE_zero] at h
  obtain ⟨_, _, h3, h4, h5, _⟩ := h
  have n := manyE0 h4
  have e := numsB_len [c.view, c.src]
  have f := certB_len h3
  have g := encI_l10 (c.above.length : Int)
  have b := flat_len (f := prepB) (K := 5000) c.above (fun p hp => prepB_len (listE_zero.1 h5 p hp))
  have : c.above.length * 5000 ≤ 8 * 5000 := Nat.mul_le_mul_right _ (by omega)
  simp at e
  unfold bodyC
  simp only [List.length_append]; omega
theorem chgB_len {c : ChangeD} (h : chgE c = 0) : (chgB c).length ≤ 41100 := by
  have a := bodyC_len h
  have b := signP_l20 c.sign
  unfold chgB
  simp only [List.length_append]; omega
theorem entryB_len (x : EntryD) : (entryB x).length ≤ 4400 := by
  have e := numsB_len [x.view, x.seq]
  have a := batchP_len x.batch
  have b := signP_l20 x.sign
  simp at e
  unfold entryB
  simp only [List.length_append]; omega
theorem proofB_len {p : ProofD} (h : proofE p = 0) : (proofB p).length ≤ 5000 := by
  unfold proofE at h
  simp only [orE_zero] at h
  obtain ⟨h1, _, h3, h4, _, _, _, _, h9, _, h11⟩ := h
  have n1 := nameE0 h1
  have n3 := manyE0 h3
  have n4 := manyE0 h4
  have n9 := manyE0 h9
  have a1 := encLe10 p.topic.length (by omega)
  have a2 := encLe10 p.record.length (by omega)
  have e1 := numsB_len [p.offset]
  have e2 := numsB_len [p.index, p.count]
  have f1 := encI_l10 (p.headers.length : Int)
  have f2 := encI_l10 (p.path.length : Int)
  have c := certB_len h11
  have b1 := flat_len (f := headB) (K := 50) p.headers (fun x _ => by have := numsB_len [x.seq, x.prev, x.batch, x.root, x.state]; simp at this; unfold headB; omega)
  have b2 := flat_len (f := encI) (K := 10) p.path (fun x _ => encI_l10 x)
  have : p.headers.length * 50 ≤ 64 * 50 := Nat.mul_le_mul_right _ (by omega)
  have : p.path.length * 10 ≤ 8 * 10 := Nat.mul_le_mul_right _ (by omega)
  simp at e1 e2
  unfold proofB byF
  simp only [List.length_append]; omega
theorem unsB_len {m : MsgD} (h : kindE m = 0) : (unsB m).length ≤ 1000000 := by
  have hk := encI_l10 m.kind
  unfold unsB
  rw [List.length_append]
  suffices (tailB m).length ≤ 900000 by omega
  have ns : ∀ l : List Int, l.length ≤ 4 → (numsB l).length ≤ 40 := fun l hl => by have := numsB_len l; omega
  unfold kindE at h
  unfold tailB
  by_cases k1 : m.kind = 1
  · rw [if_pos k1]; have := batchP_len m.batch; omega
  rw [if_neg k1] at h ⊢
  by_cases k2 : m.kind = 2
  · rw [if_pos k2]; have := batchP_len m.batch; have := ns [m.src, m.view, m.seq, m.digest] (by simp); rw [List.length_append]; omega
  rw [if_neg k2] at h ⊢
  by_cases k3 : m.kind = 3 ∨ m.kind = 4
  · rw [if_pos k3]; have := ns [m.src, m.view, m.seq, m.digest] (by simp); omega
  rw [if_neg k3]
  rw [if_neg (fun e => k3 (.inl e)), if_neg (fun e => k3 (.inr e))] at h
  by_cases k5 : m.kind = 5
  · rw [if_pos k5] at h ⊢
    simp only [orE_zero] at h
    have r1 := rangeE0 h.2.2.2.2.1
    have r2 := rangeE0 h.2.2.2.2.2
    have a1 := encLe10 (max m.result.err 0).toNat (by omega)
    have a2 := encLe10 (max m.result.offset 0).toNat (by omega)
    have := ns [m.src, m.view, m.client, m.time] (by simp)
    unfold resultB
    simp only [List.length_append]; omega
  rw [if_neg k5] at h ⊢
  by_cases k6 : m.kind = 6
  · rw [if_pos k6]; have := ns [m.src, m.seq, m.digest] (by simp); omega
  rw [if_neg k6] at h ⊢
  by_cases k7 : m.kind = 7
  · rw [if_pos k7] at h ⊢
    split
    · rename_i c r hc
      have := listE_zero.1 (orE_zero.1 h).2 c (by rw [hc]; simp)
      unfold viewE at this
      have := bodyC_len (orE_zero.1 this).1
      omega
    · simp
  rw [if_neg k7] at h ⊢
  by_cases k8 : m.kind = 8
  · rw [if_pos k8] at h ⊢
    unfold newE at h
    simp only [orE_zero] at h
    obtain ⟨_, _, h3, h4, h5, _⟩ := h
    have n3 := manyE0 h3
    have n5 := manyE0 h5
    have f1 := encI_l10 (m.changes.length : Int)
    have f2 := encI_l10 (m.entries.length : Int)
    have b1 := flat_len (f := chgB) (K := 41100) m.changes (fun c hc => chgB_len (listE_zero.1 h4 c hc))
    have b2 := flat_len (f := entryB) (K := 4400) m.entries (fun c hc => entryB_len c)
    have : m.changes.length * 41100 ≤ 13 * 41100 := Nat.mul_le_mul_right _ (by omega)
    have : m.entries.length * 4400 ≤ 8 * 4400 := Nat.mul_le_mul_right _ (by omega)
    have := ns [m.src, m.view] (by simp)
    simp only [List.length_append]; omega
  rw [if_neg k8] at h ⊢
  by_cases k9 : m.kind = 9
  · rw [if_pos k9]; have := ns [m.src, m.seq] (by simp); omega
  rw [if_neg k9] at h ⊢
  by_cases k10 : m.kind = 10
  · rw [if_pos k10] at h ⊢
    simp only [orE_zero] at h
    have c := certB_len h.2.1
    have s := manyE0 h.2.2
    have a := encLe10 m.state.length (by omega)
    have := ns [m.src] (by simp)
    unfold byF
    simp only [List.length_append]; omega
  rw [if_neg k10] at h ⊢
  by_cases k11 : m.kind = 11
  · rw [if_pos k11] at h ⊢
    simp only [orE_zero] at h
    have s := nameE0 h.2.1
    have a := encLe10 m.topic.length (by omega)
    have := ns [m.client] (by simp)
    have := ns [m.offset] (by simp)
    unfold byF
    simp only [List.length_append]; omega
  rw [if_neg k11] at h ⊢
  by_cases k12 : m.kind = 12
  · rw [if_pos k12] at h ⊢
    have := proofB_len (orE_zero.1 h).2
    have := ns [m.src] (by simp)
    simp only [List.length_append]; omega
  rw [if_neg k12]
  simp
end Go.Proofs.YteaggenihhaajaaGreat

/- A core's bytes, in plain Lean: what a writer has (bytes; whether something may not be), as package state and as its reference write it. No program here. -/
namespace Go.Proofs.YteaggenihhaajaaGreat
open Go.RowKit
set_option linter.unusedVariables false

/-- a writer: its bytes; whether something may not be -/
abbrev WS := List UInt8 × Bool
/-- what a part of a writer does: where it may be, it puts just these bytes; where not, the writer is bad; bad it stays; so many bytes at most -/
structure Wr (F : WS → WS) (ok : Prop) (b : List UInt8) (k : Nat) : Prop where
  yes : ok → ∀ w : WS, w.2 = false → F w = (w.1 ++ b, false)
  no : ¬ ok → ∀ w : WS, (F w).2 = true
  keep : ∀ w : WS, w.2 = true → (F w).2 = true
  len : ∀ w : WS, (F w).1.length ≤ w.1.length + 262200 * k
theorem Wr.more {F : WS → WS} {ok : Prop} {b : List UInt8} {k k' : Nat} (h : Wr F ok b k) (hk : k ≤ k') : Wr F ok b k' :=
  ⟨h.yes, h.no, h.keep, fun w => Nat.le_trans (h.len w) (Nat.add_le_add_left (Nat.mul_le_mul_left _ hk) _)⟩
theorem Wr.comp {F G : WS → WS} {ok ok' : Prop} {b b' : List UInt8} {k k' : Nat} (h : Wr F ok b k) (g : Wr G ok' b' k') : Wr (fun w => G (F w)) (ok ∧ ok') (b ++ b') (k + k') where
  yes hh w hw := by
    show G (F w) = _
    rw [h.yes hh.1 w hw, g.yes hh.2 _ rfl, List.append_assoc]
  no hn w := by
    by_cases h1 : ok
    · exact g.no (fun h2 => hn ⟨h1, h2⟩) _
    · exact g.keep _ (h.no h1 w)
  keep w hw := g.keep _ (h.keep w hw)
  len w := by
    have h1 := h.len w
    have h2 := g.len (F w)
    have h3 : 262200 * (k + k') = 262200 * k + 262200 * k' := Nat.mul_add _ _ _
    show (G (F w)).1.length ≤ _
    omega
theorem Wr.iff {F : WS → WS} {ok ok' : Prop} {b : List UInt8} {k : Nat} (h : Wr F ok b k) (e : ok ↔ ok') : Wr F ok' b k := by
  cases propext e
  exact h
theorem Wr.id : Wr (fun w => w) True [] 0 := ⟨fun _ w hw => by cases w; simp at hw; subst hw; simp, fun h => absurd trivial h, fun w h => h, fun w => Nat.le_add_right _ _⟩
/-- the elements of a list -/
theorem Wr.fold {α : Type} {f : α → WS → WS} {ok : α → Prop} {b : α → List UInt8} {k : α → Nat} : ∀ (l : List α), (∀ x ∈ l, Wr (f x) (ok x) (b x) (k x)) → Wr (fun w => l.foldl (fun w x => f x w) w) (∀ x ∈ l, ok x) (l.flatMap b) (l.map k).sum
  | [], _ => Wr.id.iff ⟨fun _ x hx => (List.not_mem_nil hx).elim, fun _ => trivial⟩
  | x :: r, h => by
    have h1 := (h x (.head _)).comp (Wr.fold r fun y hy => h y (.tail _ hy))
    have := h1.iff (ok' := ∀ y ∈ x :: r, ok y) ⟨fun h y hy => by
      rcases List.mem_cons.1 hy with rfl | hy
      · exact h.1
      · exact h.2 y hy, fun h => ⟨h x (.head _), fun y hy => h y (.tail _ hy)⟩⟩
    simpa using this
/-! numbers, flags, byte strings -/
def nBad (n : Int) : Bool := decide (n < 0 ∨ 9007199254740992 < n)
theorem nBad_ok {n : Int} : nBad n = false ↔ nOk n := by unfold nBad nOk; simp
theorem nBad_no {n : Int} : nBad n = true ↔ ¬ nOk n := by rw [← nBad_ok]; simp
def wN (n : Int) (w : WS) : WS := if nBad n then (w.1, true) else (w.1 ++ encI n, w.2)
theorem wN_wr (n : Int) : Wr (wN n) (nOk n) (encI n) 1 := by
  refine ⟨fun h w hw => ?_, fun h w => ?_, fun w hw => ?_, fun w => ?_⟩ <;> unfold wN
  · rw [nBad_ok.2 h, hw]; rfl
  · rw [nBad_no.2 h]; rfl
  · split
    · rfl
    · exact hw
  · have := encI_l10 n
    split
    · show w.1.length ≤ _; omega
    · show (w.1 ++ encI n).length ≤ _; rw [List.length_append]; omega
/-- numbers, till one may not be -/
def wNs : List Int → WS → WS
  | [], w => w
  | n :: r, w => if nBad n then (w.1, true) else wNs r (w.1 ++ encI n, w.2)
theorem wNs_wr : ∀ (l : List Int), Wr (wNs l) (∀ n ∈ l, nOk n) (numsB l) l.length
  | [] => by
    have := Wr.id.iff (ok' := ∀ n ∈ ([] : List Int), nOk n) ⟨fun _ x hx => (List.not_mem_nil hx).elim, fun _ => trivial⟩
    exact this
  | n :: r => by
    have ih := wNs_wr r
    have e1 : numsB (n :: r) = encI n ++ numsB r := by simp [numsB]
    refine ⟨fun h w hw => ?_, fun h w => ?_, fun w hw => ?_, fun w => ?_⟩
    · unfold wNs
      rw [nBad_ok.2 (h n (.head _)), if_neg (by decide), ih.yes (fun x hx => h x (.tail _ hx)) (w.1 ++ encI n, w.2) hw, e1, List.append_assoc]
    · unfold wNs
      split
      · rfl
      · rename_i hb
        refine ih.no (fun hr => h ?_) _
        intro x hx
        rcases List.mem_cons.1 hx with rfl | hx
        · exact nBad_ok.1 (by simpa using hb)
        · exact hr x hx
    · unfold wNs
      split
      · rfl
      · exact ih.keep _ hw
    · unfold wNs
      have := encI_l10 n
      split
      · show w.1.length ≤ _; omega
      · have h1 := ih.len (w.1 ++ encI n, w.2)
        simp only [List.length_append, List.length_cons] at h1 ⊢
        omega
def flagI (b : Bool) : Int := if b then 1 else 0
def wF (b : Bool) : WS → WS := wN (flagI b)
theorem flagI_B (b : Bool) : encI (flagI b) = flagB b := by cases b <;> rfl
theorem wF_wr (b : Bool) : Wr (wF b) True (flagB b) 1 := by
  rw [← flagI_B]
  exact (wN_wr _).iff ⟨fun _ => trivial, fun _ => by cases b <;> exact ⟨by decide, by decide⟩⟩
def wB (b : List UInt8) (w : WS) : WS := (w.1 ++ byF b, w.2)
theorem wB_wr (b : List UInt8) (hb : b.length ≤ 4194304) : Wr (wB b) True (byF b) (b.length + 1) :=
  ⟨fun _ w hw => by unfold wB; rw [hw], fun h => absurd trivial h, fun w hw => hw, fun w => by
    have := byF_len b hb
    show (w.1 ++ byF b).length ≤ _
    rw [List.length_append]
    omega⟩
/-- what another layer made -/
def wM (p : List UInt8 × Int) (w : WS) : WS := (w.1 ++ byF p.1, w.2 || !decide (p.2 = 0))
theorem wM_wr (p : List UInt8 × Int) (hb : p.1.length ≤ 262144) : Wr (wM p) (p.2 = 0) (byF p.1) 1 := by
  have := byF_len p.1 (by omega)
  refine ⟨fun h w hw => ?_, fun h w => ?_, fun w hw => ?_, fun w => ?_⟩ <;> unfold wM
  · rw [hw, h]; rfl
  · simp [h]
  · rw [hw]; rfl
  · show (w.1 ++ byF p.1).length ≤ _; rw [List.length_append]; omega
def wSg (s : SignD) (w : WS) : WS := (w.1 ++ signP s, w.2 || !decide (signE s = 0))
theorem wSg_wr (s : SignD) : Wr (wSg s) (signE s = 0) (signP s) 1 := by
  have := signP_l20 s
  refine ⟨fun h w hw => ?_, fun h w => ?_, fun w hw => ?_, fun w => ?_⟩ <;> unfold wSg
  · rw [hw, h]; rfl
  · simp [h]
  · rw [hw]; rfl
  · show (w.1 ++ signP s).length ≤ _; rw [List.length_append]; omega
def wBt (l : List SignedD) (w : WS) : WS := (w.1 ++ batchP l, w.2 || !decide (batchE l = 0))
theorem wBt_wr (l : List SignedD) : Wr (wBt l) (batchE l = 0) (batchP l) 1 := by
  have hl := batchP_len l
  refine ⟨fun h w hw => ?_, fun h w => ?_, fun w hw => ?_, fun w => ?_⟩ <;> unfold wBt
  · rw [hw, h]; rfl
  · simp [h]
  · rw [hw]; rfl
  · show (w.1 ++ batchP l).length ≤ _; rw [List.length_append]; omega
/-! lists -/
def wL {α : Type} (f : α → WS → WS) (l : List α) (w : WS) : WS := if 4096 < l.length then (w.1, true) else l.foldl (fun w x => f x w) (wN (l.length : Int) w)
theorem wL_wr {α : Type} {f : α → WS → WS} {ok : α → Prop} {b : α → List UInt8} {k : α → Nat} (l : List α) (h : ∀ x ∈ l, Wr (f x) (ok x) (b x) (k x)) :
    Wr (wL f l) (putsOk ok l) (putsB b l) ((l.map k).sum + 1) := by
  have hc := (wN_wr (l.length : Int)).comp (Wr.fold l h)
  refine ⟨fun hk w hw => ?_, fun hn w => ?_, fun w hw => ?_, fun w => ?_⟩ <;> unfold wL
  · have hk1 : l.length ≤ 4096 := hk.1
    rw [if_neg (by omega)]
    exact hc.yes ⟨⟨by omega, by omega⟩, hk.2⟩ w hw
  · split
    · rfl
    · exact hc.no (fun hh => hn ⟨by omega, hh.2⟩) w
  · split
    · rfl
    · exact hc.keep w hw
  · split
    · exact Nat.le_add_right _ _
    · have := hc.len w
      rw [Nat.add_comm _ 1]
      exact this
end Go.Proofs.YteaggenihhaajaaGreat

/- A core's bytes, in plain Lean: as package state writes them, and as its reference does: the same where they may be, and both bad where not. No program here. -/
namespace Go.Proofs.YteaggenihhaajaaGreat
open Go.RowKit
set_option linter.unusedVariables false

def hbE (h : HeaderD) : Int := if nBad h.seq || (nBad h.prev || (nBad h.batch || (nBad h.root || nBad h.state))) then 90 else 0
def mkHead (h : HeaderD) : List UInt8 × Int := if hbE h = 0 then (hdrB h, 0) else ([], hbE h)
def mkCert (c : CertD) : List UInt8 × Int := if certE c = 0 then (certB c, 0) else ([], certE c)
def mkChg (c : ChangeD) : List UInt8 × Int := if chgE c = 0 then (chgB c, 0) else ([], chgE c)
noncomputable def mkMsg (m : MsgD) : List UInt8 × Int := if bytesE m = 0 then (fullB m, 0) else ([], bytesE m)
theorem hbE_ok {h : HeaderD} : hbE h = 0 ↔ hdrOk h := by
  unfold hbE hdrOk
  simp only [← nBad_ok]
  cases nBad h.seq <;> cases nBad h.prev <;> cases nBad h.batch <;> cases nBad h.root <;> cases nBad h.state <;> simp
theorem mkHead_wr (h : HeaderD) : Wr (wM (mkHead h)) (hdrOk h) (byF (hdrB h)) 1 := by
  have hl := numsB_len [h.seq, h.prev, h.batch, h.root, h.state]
  simp only [List.length_cons, List.length_nil] at hl
  refine Wr.iff ?_ hbE_ok
  unfold mkHead
  by_cases h0 : hbE h = 0
  · rw [if_pos h0]
    refine (wM_wr (hdrB h, 0) ?_).iff ⟨fun _ => h0, fun _ => rfl⟩
    show (hdrB h).length ≤ _
    unfold hdrB
    rw [List.length_cons]; omega
  · rw [if_neg h0]
    have := wM_wr ([], hbE h) (by simp)
    exact ⟨fun e => absurd e h0, fun _ => this.no h0, this.keep, this.len⟩
theorem mkCert_wr (c : CertD) : Wr (wM (mkCert c)) (kCertOk c) (kCertB c) 1 := by
  refine Wr.iff (ok := certE c = 0) ?_ ⟨fun h => ⟨h, by have := certB_len h; omega⟩, fun h => h.1⟩
  unfold kCertB
  unfold mkCert
  by_cases h0 : certE c = 0
  · rw [if_pos h0]
    refine (wM_wr (certB c, 0) ?_).iff ⟨fun _ => h0, fun _ => rfl⟩
    have := certB_len h0
    show (certB c).length ≤ _; omega
  · rw [if_neg h0]
    have := wM_wr ([], certE c) (by simp)
    exact ⟨fun e => absurd e h0, fun _ => this.no h0, this.keep, this.len⟩
theorem mkChg_wr (c : ChangeD) : Wr (wM (mkChg c)) (kChgOk c) (kChgB c) 1 := by
  refine Wr.iff (ok := chgE c = 0) ?_ ⟨fun h => ⟨h, by have := chgB_len h; omega⟩, fun h => h.1⟩
  unfold kChgB mkChg
  by_cases h0 : chgE c = 0
  · rw [if_pos h0]
    refine (wM_wr (chgB c, 0) ?_).iff ⟨fun _ => h0, fun _ => rfl⟩
    have := chgB_len h0
    show (chgB c).length ≤ _; omega
  · rw [if_neg h0]
    have := wM_wr ([], chgE c) (by simp)
    exact ⟨fun e => absurd e h0, fun _ => this.no h0, this.keep, this.len⟩
theorem bytesE_ok {m : MsgD} : bytesE m = 0 ↔ kMsgOk m := by
  unfold bytesE kMsgOk
  by_cases h : checkE m = 0
  · rw [if_pos h]
    by_cases h2 : 262144 < (fullB m).length
    · rw [if_pos h2]
      exact ⟨fun e => (by cases e), fun e => absurd e.2 (by omega)⟩
    · rw [if_neg h2]
      exact ⟨fun _ => ⟨h, by omega⟩, fun _ => rfl⟩
  · rw [if_neg h]
    exact ⟨fun e => absurd e h, fun e => absurd e.1 h⟩
theorem mkMsg_wr (m : MsgD) : Wr (wM (mkMsg m)) (kMsgOk m) (kMsgB m) 1 := by
  refine Wr.iff ?_ bytesE_ok
  unfold kMsgB
  unfold mkMsg
  by_cases h0 : bytesE m = 0
  · rw [if_pos h0]
    refine (wM_wr (fullB m, 0) ?_).iff ⟨fun _ => h0, fun _ => rfl⟩
    show (fullB m).length ≤ _
    unfold bytesE at h0
    split at h0
    · split at h0
      · cases h0
      · omega
    · contradiction
  · rw [if_neg h0]
    have := wM_wr ([], bytesE m) (by simp)
    exact ⟨fun e => absurd e h0, fun _ => this.no h0, this.keep, this.len⟩
/-! as package state writes -/
def wPlaced (p : PlacedD) (w : WS) : WS := wB p.record (wNs [p.offset] (wB p.topic w))
def wBlock (x : BlockD) (w : WS) : WS := wL wPlaced x.placed (wBt x.batch (wM (mkHead x.header) w))
def wVote (v : VoteD) (w : WS) : WS := wSg v.sign (wNs [v.seq, v.digest] w)
def wMark (m : MarkD) (w : WS) : WS := wB m.topics (wM (mkHead m.header) w)
def wVoteOf (v : VoteOfD) (w : WS) : WS := wSg v.sign (wNs [v.digest] w)
def wMid (s : SlotD) (w : WS) : WS := if s.has then wBt s.batch (wSg s.firstS w) else if (s.firstS.key = 0 ∧ s.firstS.digest = 0) ∧ s.batch.length = 0 then w else (w.1, true)
def wSlot (s : SlotD) (w : WS) : WS := wL wVoteOf s.commits (wL wVoteOf s.prepares (wMid s (wNs [s.digest] (wF s.has (wNs [s.seq] w)))))
def wPrep (p : PreparedD) (w : WS) : WS := wBt p.batch (wL wSg p.signs (wSg p.firstS (wNs [p.view, p.seq, p.digest] w)))
def wCt (c : CertD) : WS → WS := wM (mkCert c)
def wCg (c : ChangeD) : WS → WS := wM (mkChg c)
noncomputable def wMs (m : MsgD) : WS → WS := wM (mkMsg m)
def wWait (s : SignedD) : WS → WS := wBt [s]
noncomputable def wCore (c : CoreD) (w : WS) : WS :=
  wNs [c.wants] (wL wMs c.news (wNs [c.timer.length, c.timer.left] (wL wWait c.pool.waiting (wL wCg c.changes (wL wPrep c.held (wL wSlot c.slots (wL wMark c.marks (wL wCt c.certs (wL wCt c.points.certs (wL wVote c.points.votes (wM (mkCert c.points.stable) (wB c.topics (wL wBlock c.blocks (wM (mkHead c.base) (wNs [c.ticks, c.floor] (wF c.active (wNs [c.view] w)))))))))))))))))
/-! as the reference writes -/
/-! they do so -/
theorem Wr.as {F F' : WS → WS} {ok ok' : Prop} {b b' : List UInt8} {k k' : Nat} (h : Wr F ok b k) (e1 : F' = F) (e2 : ok ↔ ok') (e3 : b = b') (hk : k ≤ k') : Wr F' ok' b' k' := by
  subst e1 e3
  exact (h.iff e2).more hk
theorem wNs1 (a : Int) : Wr (wNs [a]) (nOk a) (numsB [a]) 1 := (wNs_wr [a]).iff (by simp)
theorem wNs2 (a b : Int) : Wr (wNs [a, b]) (nOk a ∧ nOk b) (numsB [a, b]) 2 := (wNs_wr [a, b]).iff (by simp)
theorem wNs3 (a b c : Int) : Wr (wNs [a, b, c]) (nOk a ∧ nOk b ∧ nOk c) (numsB [a, b, c]) 3 := (wNs_wr [a, b, c]).iff (by simp)
theorem szM {α β : Type} (T : Ty α) (f : β → α) (b : β) : (tM T f).sz b = T.sz (f b) + 1 := rfl
theorem szP {α β : Type} (T : Ty α) (U : Ty β) (p : α × β) : (tP T U).sz p = T.sz p.1 + U.sz p.2 := rfl
theorem szL {α : Type} (T : Ty α) (l : List α) : (tL T).sz l = (l.map T.sz).sum + 1 := rfl
theorem szI (a : Int) : tI.sz a = 1 := rfl
theorem szB (a : Bool) : tB.sz a = 1 := rfl
theorem szS (a : List UInt8) : tS.sz a = a.length + 1 := rfl
theorem szY (a : List UInt8) : tY.sz a = a.length + 1 := rfl
theorem placed_wr (p : PlacedD) (h : dPlaced.ok p) : Wr (wPlaced p) (placedOk p) (placedB p) (tPlaced.sz p) :=
  (((wB_wr p.topic h.1).comp (wNs1 p.offset)).comp (wB_wr p.record h.2.2)).as rfl (by simp [placedOk]) rfl (by
    unfold tPlaced; simp only [szM, szP, szI, szS, szY]; omega)
theorem mkHead_sz (h : HeaderD) : 1 ≤ tHeader.sz h := by unfold tHeader; rw [szM]; omega
theorem mkCert_sz (h : CertD) : 1 ≤ tCert.sz h := by unfold tCert; rw [szM]; omega
theorem mkChg_sz (h : ChangeD) : 1 ≤ tChange.sz h := by unfold tChange; rw [szM]; omega
theorem mkMsg_sz (h : MsgD) : 1 ≤ tMsg.sz h := by unfold tMsg; rw [szM]; omega
theorem sign_sz (h : SignD) : 1 ≤ tSign.sz h := by unfold tSign; rw [szM]; omega
theorem signed_sz (h : SignedD) : 1 ≤ tSigned.sz h := by unfold tSigned; rw [szM]; omega
theorem block_wr (x : BlockD) (h : dBlock.ok x) : Wr (wBlock x) (blockOk x) (blockB x) (tBlock.sz x) :=
  (((mkHead_wr x.header).comp (wBt_wr x.batch)).comp (wL_wr x.placed fun p hp => placed_wr p (h.2.2.2 p hp))).as rfl and_assoc rfl (by
    have := mkHead_sz x.header
    unfold tBlock; simp only [szM, szP, szL]; omega)
theorem vote_wr (v : VoteD) : Wr (wVote v) (kVoteOk v) (kVoteB v) (tVote.sz v) :=
  ((wNs2 v.seq v.digest).comp (wSg_wr v.sign)).as rfl and_assoc rfl (by
    have := sign_sz v.sign
    unfold tVote; simp only [szM, szP, szI]; omega)
theorem mark_wr (m : MarkD) (h : dMark.ok m) : Wr (wMark m) (markOk m) (markB m) (tMark.sz m) :=
  ((mkHead_wr m.header).comp (wB_wr m.topics h.2)).as rfl (by simp [markOk]) rfl (by
    have := mkHead_sz m.header
    unfold tMark; simp only [szM, szP, szY]; omega)
theorem voteOf_wr (v : VoteOfD) : Wr (wVoteOf v) (voteOfOk v) (voteOfB v) (tVoteOf.sz v) :=
  ((wNs1 v.digest).comp (wSg_wr v.sign)).as rfl Iff.rfl rfl (by
    have := sign_sz v.sign
    unfold tVoteOf; simp only [szM, szP, szI]; omega)
def midOk (s : SlotD) : Prop := (s.has = true → signE s.firstS = 0 ∧ batchE s.batch = 0) ∧ (s.has = false → s.firstS = zSign ∧ s.batch = [])
def midB (s : SlotD) : List UInt8 := if s.has then signP s.firstS ++ batchP s.batch else []
theorem mid_wr (s : SlotD) : Wr (wMid s) (midOk s) (midB s) 2 := by
  cases hh : s.has with
  | true =>
    refine ((wSg_wr s.firstS).comp (wBt_wr s.batch)).as (by funext w; unfold wMid; rw [hh]; rfl) ?_ (by unfold midB; rw [hh]; rfl) (Nat.le_refl _)
    unfold midOk
    rw [hh]
    exact ⟨fun h => ⟨fun _ => h, fun e => by cases e⟩, fun h => h.1 rfl⟩
  | false =>
    have ez : s.firstS = zSign ↔ (s.firstS.key = 0 ∧ s.firstS.digest = 0) := by
      cases s.firstS
      simp [zSign]
    have e : midOk s ↔ ((s.firstS.key = 0 ∧ s.firstS.digest = 0) ∧ s.batch.length = 0) := by
      unfold midOk
      rw [hh, ← ez]
      exact ⟨fun h => ⟨(h.2 rfl).1, by rw [(h.2 rfl).2]; rfl⟩, fun h => ⟨fun e => by (cases e), fun _ => ⟨h.1, List.eq_nil_of_length_eq_zero h.2⟩⟩⟩
    have eb : midB s = [] := by unfold midB; rw [hh]; rfl
    rw [eb]
    refine Wr.iff ?_ e.symm
    refine ⟨fun h w hw => ?_, fun h w => ?_, fun w hw => ?_, fun w => ?_⟩ <;> unfold wMid <;> rw [hh, if_neg (by decide)]
    · rw [if_pos h, List.append_nil, ← hw]
    · rw [if_neg h]
    · split
      · exact hw
      · rfl
    · split
      · exact Nat.le_add_right _ _
      · exact Nat.le_add_right _ _
theorem slot_wr (s : SlotD) : Wr (wSlot s) (slotOk s) (slotB s) (tSlot.sz s) :=
  ((((((wNs1 s.seq).comp (wF_wr s.has)).comp (wNs1 s.digest)).comp (mid_wr s)).comp (wL_wr s.prepares fun v _ => voteOf_wr v)).comp (wL_wr s.commits fun v _ => voteOf_wr v)).as rfl (by unfold slotOk midOk; simp only [and_true, and_assoc]) rfl (by
    have := sign_sz s.firstS
    unfold tSlot; simp only [szM, szP, szI, szB, szL]; omega)
theorem sPrep_wr (p : PreparedD) : Wr (wPrep p) (kPrepOk p) (kPrepB p) (tPrepared.sz p) :=
  ((((wNs3 p.view p.seq p.digest).comp (wSg_wr p.firstS)).comp (wL_wr p.signs fun s _ => (wSg_wr s).more (sign_sz s))).comp (wBt_wr p.batch)).as rfl (by unfold kPrepOk; simp only [and_assoc]) rfl (by
    have := sign_sz p.firstS
    unfold tPrepared; simp only [szM, szP, szI, szL]; omega)
set_option maxRecDepth 20000 in
theorem wCore_wr (c : CoreD) (h : dCore.ok c) : Wr (wCore c) (coreOk c) (coreB c) (tCore.sz c) :=
  ((((((((((((((((((wNs1 c.view).comp
    (wF_wr c.active)).comp
    (wNs2 c.ticks c.floor)).comp
    (mkHead_wr c.base)).comp
    (wL_wr c.blocks fun x hx => block_wr x (h.2.2.2.2.2.1.2 x hx))).comp
    (wB_wr c.topics h.2.2.2.2.2.2.1)).comp
    (mkCert_wr c.points.stable)).comp
    (wL_wr c.points.votes fun x _ => vote_wr x)).comp
    (wL_wr c.points.certs fun x _ => (mkCert_wr x).more (mkCert_sz x))).comp
    (wL_wr c.certs fun x _ => (mkCert_wr x).more (mkCert_sz x))).comp
    (wL_wr c.marks fun x hx => mark_wr x (h.2.2.2.2.2.2.2.2.2.1.2 x hx))).comp
    (wL_wr c.slots fun x _ => slot_wr x)).comp
    (wL_wr c.held fun x _ => sPrep_wr x)).comp
    (wL_wr c.changes fun x _ => (mkChg_wr x).more (mkChg_sz x))).comp
    (wL_wr c.pool.waiting fun x _ => (wBt_wr [x]).more (signed_sz x))).comp
    (wNs2 c.timer.length c.timer.left)).comp
    (wL_wr c.news fun x _ => (mkMsg_wr x).more (mkMsg_sz x))).comp
    (wNs1 c.wants)).as rfl (by simp only [coreOk, and_true, and_assoc]; exact Iff.rfl) rfl (by
    have h1 := mkHead_sz c.base
    have h2 := mkCert_sz c.points.stable
    unfold tCore tPoints tPool tTimer; simp only [szM, szP, szI, szB, szY, szL]; omega)
end Go.Proofs.YteaggenihhaajaaGreat

/- A nil slice in an object of one's own, taken for an empty list ahead of a call. No program here. -/
namespace Go.Proofs.YteaggenihhaajaaGreat
open Go.RowKit
set_option linter.unusedVariables false

section
variable {P : Program} {Q : Exit → S → Prop} {I : Nat → Prop} {g : Ghost} {w : World} {h : List AO} {o : Nat} {t : TypeId} {cs ds : List D}
theorem weak_get (ho : h[o]? = some (.cells t cs)) {o' : Nat} {ao : AO} (e : (h.set o (.cells t ds))[o']? = some ao) : ∃ a, h[o']? = some a ∧ ∀ p b, ao.owns p b ↔ a.owns p b := by
  rw [List.getElem?_set] at e
  split at e
  · rename_i hoo
    subst hoo
    split at e
    · injection e with e
      subst e
      exact ⟨_, ho, fun p b => Iff.rfl⟩
    · cases e
  · exact ⟨ao, e, fun p b => Iff.rfl⟩
theorem weak_get' (ho : h[o]? = some (.cells t cs)) {o' : Nat} {a : AO} (e : h[o']? = some a) : ∃ ao, (h.set o (.cells t ds))[o']? = some ao ∧ ∀ p b, ao.owns p b ↔ a.owns p b := by
  by_cases hoo : o = o'
  · subst hoo
    have hl := (List.getElem?_eq_some_iff.1 ho).1
    rw [ho] at e
    injection e with e
    subst e
    exact ⟨.cells t ds, by rw [List.getElem?_set, if_pos rfl, if_pos hl], fun p b => Iff.rfl⟩
  · exact ⟨a, by rw [List.getElem?_set, if_neg hoo]; exact e, fun p b => Iff.rfl⟩
theorem weak_in (ho : h[o]? = some (.cells t cs)) (M : List Nat) : OwnedIn M g (h.set o (.cells t ds)) = OwnedIn M g h := by
  funext b
  refine propext ⟨fun ⟨o', ao, p, h1, h2, h3, h4⟩ => ?_, fun ⟨o', ao, p, h1, h2, h3, h4⟩ => ?_⟩
  · obtain ⟨a, k1, k2⟩ := weak_get ho h2
    exact ⟨o', a, p, h1, k1, h3, (k2 p b).1 h4⟩
  · obtain ⟨a, k1, k2⟩ := weak_get' (ds := ds) ho h2
    exact ⟨o', a, p, h1, k1, h3, (k2 p b).2 h4⟩
theorem Den.weak [Wd] (hd : Den I g w h) (ho : h[o]? = some (.cells t cs)) (hc : Cos cs ds) : Den I g w (h.set o (.cells t ds)) where
  len := by rw [List.length_set]; exact hd.len
  inn := hd.inn
  obj o' ao p e hp := by
    rw [List.getElem?_set] at e
    split at e
    · rename_i hoo
      subst hoo
      split at e
      · injection e with e
        subst e
        obtain ⟨b, vs, h1, h2, h3, h4⟩ := hd.obj o _ p ho hp
        exact ⟨b, vs, h1, h2, hc.ok h3, h4⟩
      · cases e
    · exact hd.obj o' ao p e hp
  own o' ao p b e hp hb := by
    obtain ⟨a, k1, k2⟩ := weak_get ho e
    exact hd.own o' a p b k1 hp ((k2 p b).1 hb)
  sep o1 o2 a1 a2 p1 p2 b e1 e2 q1 q2 b1 b2 := by
    obtain ⟨a, k1, k2⟩ := weak_get ho e1
    obtain ⟨a', k3, k4⟩ := weak_get ho e2
    exact hd.sep o1 o2 a a' p1 p2 b k1 k3 q1 q2 ((k2 p1 b).1 b1) ((k4 p2 b).1 b2)
theorem Af.weak [Wd] {M : List Nat} {I' : Nat → Prop} {g' : Ghost} {w' : World} {h' : List AO} (ho : h[o]? = some (.cells t cs)) (hm : o ∈ M) (k : Af I g w (h.set o (.cells t ds)) M I' g' w' h') : Af I g w h M I' g' w' h' where
  den := k.den
  ext := by have := k.ext; rwa [weak_in ho] at this
  i1 := k.i1
  i2 b hb := by have := k.i2 b hb; rwa [weak_in ho] at this
  gx := k.gx
  fr o' hl hn := by
    have := k.fr o' (by rw [List.length_set]; exact hl) hn
    rwa [List.getElem?_set, if_neg (fun e => hn (by rw [← e]; exact hm))] at this
  al o' ao' p b hl h1 h2 h3 := by
    obtain ⟨a, k1, k2⟩ := k.al o' ao' p b (by rw [List.length_set]; exact hl) h1 h2 h3
    obtain ⟨a', k3, k4⟩ := weak_get ho k1
    exact ⟨a', k3, (k4 p b).1 k2⟩
  nw o' ao' p b hl h1 h2 h3 := by
    have := k.nw o' ao' p b (by rw [List.length_set]; exact hl) h1 h2 h3
    rwa [weak_in ho] at this
/-- ahead of a call, an object that it may change is weakened -/
theorem okWeak [Wd] {f : FuncId} {az : List D} {c : D → List AO → T} (o : Nat) {t : TypeId} {cs : List D} (ds : List D) (ho : h[o]? = some (.cells t cs)) (hc : Cos cs ds) (hm : (foot h az).elem o = true) (hf : foot (h.set o (.cells t ds)) az = foot h az) (k : (T.call f az (h.set o (.cells t ds)) c).ok P Q) : (T.call f az h c).ok P Q := by
  obtain ⟨Post, ⟨h1, h2⟩, h3⟩ := k
  rw [hf] at h2
  refine ⟨Post, ⟨h1, fun w I g vs hW hd ha => ?_⟩, h3⟩
  refine (h2 w I g vs hW (hd.weak ho hc) ha).mono fun e w' hR => ?_
  obtain ⟨v, I', g', r, h', r1, r2, r3, r4⟩ := hR
  exact ⟨v, I', g', r, h', r1, r2, r3.weak ho (by simpa using hm), r4⟩
end
end Go.Proofs.YteaggenihhaajaaGreat

/- What yields new bytes, as data; the writer of package message: numbers, byte strings, signatures, batches. -/
namespace Go.Proofs.YteaggenihhaajaaGreat
open Go.RowKit
set_option linter.unusedVariables false
set_option maxRecDepth 20000

theorem fresh_s [Wd] {P : Program} {f : FuncId} {ar : List D} {bs : List UInt8} (hl : bs.length ≤ big) (hcal : calleeOk P f = true) (h : ∀ w I vs, Drs I w vs ar → Calls P f vs.toArray w (Fresh w bs)) (hp : pureD.pl ar = true) : FnP P f ar (.list 1 (bs.map cByte)) := by
  refine ⟨hcal, fun w I g vs _ hd ha => (h w I vs (pureL_ok ha hp)).mono ?_⟩
  rintro e w' ⟨v, rfl, hr, hb⟩
  have hg : g = [] := List.eq_nil_of_length_eq_zero hd.len
  subst hg
  have hn : ∀ b, ¬ Owned [] [] b := fun b ⟨o, ao, p, h, _⟩ => by simp at h
  refine ⟨v, fun b => I b ∨ (w.heap.size ≤ b ∧ b < w'.heap.size), [], _, [], rfl, ⟨rfl, rfl⟩, (hd.later hb).inns (fun _ h => .inl h) (fun b hb' => ?_) (fun b _ => hn b), .rd ((Bs.of_own hr hl).dr (fun g hg _ => .inr ⟨row_ge hr hg, row_lt hr hg⟩)), Ext.of_B hb, fun _ h => .inl h, fun b hb' => ?_, fun b h => .inl h, fun o p t cs _ h => by simp at h⟩
  · rcases hb' with k | k
    · have := hd.inn b k
      have := hb.size
      omega
    · exact k.2
  · rcases hb' with k | k
    · exact .inl k
    · exact .inr (.inr k.1)
theorem Drs.two_inv [Old] {I : Nat → Prop} {w : World} {cs : List Value} {d e : D} (h : Drs I w cs [d, e]) : ∃ v u, cs = [v, u] ∧ Dr I w v d ∧ Dr I w u e := by
  obtain ⟨hl, h⟩ := h
  match cs, hl with
  | [v, u], _ => exact ⟨v, u, rfl, h 0 v d rfl rfl, h 1 u e rfl rfl⟩
theorem u64_range (n : Int) : 0 ≤ IntKind.u64.wrap n ∧ IntKind.u64.wrap n < 18446744073709551616 := by
  simp only [IntKind.wrap, IntKind.signed, IntKind.bits]
  simp
  omega
theorem u64_enc (n : Int) : enc (IntKind.u64.wrap n).toNat = encI n := by
  unfold encI
  congr 2
theorem putNum_s [Wd] (bs : List UInt8) (n : Int) (hl : bs.length + 100 ≤ big) : FnP Tryz.prog 151 [.list 1 (bs.map cByte), .int .u64 (IntKind.u64.wrap n)] (.list 1 ((bs ++ encI n).map cByte)) :=
  fresh_s (by have := enc_10 (show (n % 18446744073709551616).toNat < 18446744073709551616 by omega); unfold encI; rw [List.length_append]; omega) (by kernel_rfl) (fun w I vs hv => by
    obtain ⟨v, u, rfl, h1, h2⟩ := hv.two_inv
    cases h2
    rw [← u64_enc]
    exact putN_c (h1.bs (by omega)) _ (u64_range n) (by omega)) rfl
theorem putBytes_s [Wd] (bs xs : List UInt8) (hx : xs.length ≤ 4194304) (hl : (bs ++ xs).length + 100 ≤ big) : FnP Tryz.prog 157 [.list 1 (bs.map cByte), .list 1 (xs.map cByte)] (.list 1 ((bs ++ byF xs).map cByte)) :=
  fresh_s (by have := enc_10 (show xs.length < 18446744073709551616 by omega); unfold byF; simp at hl ⊢; omega) (by kernel_rfl) (fun w I vs hv => by
    obtain ⟨v, u, rfl, h1, h2⟩ := hv.two_inv
    rw [← byF_eq]
    exact putBytes72 (h1.bs (by simp at hl; omega)) (h2.bs (by simp at hl; omega)) (by omega)) rfl
theorem signP_l (s : SignD) : (signP s).length ≤ 20 := by
  unfold signP
  split
  · rename_i h
    obtain ⟨h1, h2⟩ := signE0 h
    have e1 := enc_10 (show s.key.toNat < 18446744073709551616 by omega)
    have e2 := enc_10 (show s.digest.toNat < 18446744073709551616 by omega)
    unfold signB
    rw [List.length_append]
    omega
  · simp
theorem putSign_s [Wd] (bs : List UInt8) (x : SignD) (hl : bs.length + 100 ≤ big) : FnP Tryz.prog 222 [.list 1 (bs.map cByte), .agg (cSign x)] (.list 1 ((bs ++ signP x).map cByte)) :=
  fresh_s (by have := signP_l x; rw [List.length_append]; omega) (by kernel_rfl) (fun w I vs hv => by
    obtain ⟨v, u, rfl, h1, h2⟩ := hv.two_inv
    obtain ⟨us, rfl, k1, k2⟩ := (Vr.rd (g := []) h2).agg_inv
    obtain ⟨a, b, rfl, e1, e2⟩ := (pureL_ok k1 (by rfl)).two_inv
    cases e1
    cases e2
    exact putSign_c (h1.bs (by omega)) (by omega)) rfl
theorem putBatch_s [Wd] (bs : List UInt8) (x : List SignedD) (hx : (dL dSigned).ok x) (hl : (bs ++ batchP x).length + 100 ≤ big) : FnP Tryz.prog 217 [.list 1 (bs.map cByte), .list 9 (x.map cSigned)] (.list 1 ((bs ++ batchP x).map cByte)) :=
  fresh_s (by omega) (by kernel_rfl) (fun w I vs hv => by
    obtain ⟨v, u, rfl, h1, h2⟩ := hv.two_inv
    exact putBatch_c ((LkL LkSigned).of (.one h2) hx) (h1.bs (by simp at hl; omega)) (by omega)) rfl
/-! the writer -/
abbrev oW (bs : List UInt8) : List AO := [.cells 297 [.list 1 (bs.map cByte)]]
/-- it puts bytes behind what the writer has -/
abbrev FnW [Wd] (f : FuncId) (ar : List D) (add : List UInt8) : Prop := ∀ bs : List UInt8, (bs ++ add).length + 200 ≤ big → FnS Tryz.prog f (.ptr 0 0 :: ar) (oW bs) (fun r h => r = .tup [] ∧ h = oW (bs ++ add))
section
variable {Q : Exit → S → Prop}
theorem okWr [Wd] {f : FuncId} {ar ar' : List D} {add bs : List UInt8} {hb : List AO} {c : D → List AO → T} (hF : FnW f ar add) (hl : (bs ++ add).length + 200 ≤ big) (hv : vwP hb [0] [0] (oW bs)) (hc : Cos ar' (D.ren.rl [0] (.ptr 0 0 :: ar))) (hM : ([0].all fun o => (foot hb ar').elem o) = true) (k : (c (.tup []) (upH hb [0] (oW bs) (oW (bs ++ add)))).ok Tryz.prog Q) : (T.call f ar' hb c).ok Tryz.prog Q :=
  okCall [0] (hF bs hl) (.mk' rfl hv) hc hM k
theorem endWr [Wd] {tb : TT} {rs : List ResultVar} {ex : Exit} {s : S} {bs bs' : List UInt8} {ds : List D} (he : ex = .normal ∨ ex = .ret) (hr : resD tb s rs = some ds) (hv : vwP s.h [0] [0] (oW bs')) (hco : Co (resV ds) (.tup [])) {add : List UInt8} (hx : bs' = bs ++ add) : (T.leaf ex s).ok Tryz.prog (Lf tb rs (oW bs) (fun r h => r = .tup [] ∧ h = oW (bs ++ add))) := by
  subst hx
  exact endObj [0] he hr rfl hv ⟨⟨rfl, rfl⟩, trivial⟩ hco
end
theorem okLt' [Wd] {P : Program} {Q : Exit → S → Prop} {a b : Nat} {t f : T} (h1 : a < b → t.ok P Q) (h2 : b ≤ a → f.ok P Q) : (T.br (decide ((a : Int) < (b : Int))) t f).ok P Q :=
  ⟨fun h => h1 (by simpa using h), fun h => h2 (by simpa using h)⟩
theorem wStr_s [Wd] (x : List UInt8) (hx : x.length ≤ 4194304) : FnW 266 [.list 1 (x.map cByte)] (byF x) := by
  intro bs hl
  refine mkS 13 [] Tryz.func266 rfl (by kernel_rfl) ?_
  repeat'
    (conv => arg 2; whnf)
    first
    | refine okAsk (by kernel_rfl) ?_
    | refine okFn (putBytes_s bs x hx (by unfold byF at hl; simp at hl ⊢; omega)) rfl (Cos.refl _) ?_
    | exact endWr (.inl rfl) rfl ⟨⟨rfl, rfl⟩, trivial⟩ (.refl _) rfl
theorem wSign_s [Wd] (x : SignD) : FnW 227 [.agg (cSign x)] (signP x) := by
  intro bs hl
  refine mkS 15 [(1, ⟨[(0, false), (1, false), (2, false), (3, false), (4, false), (6, false), (5, true), (7, true), (8, false), (9, false), (10, false), (11, true)], [0]⟩)] Tryz.func227 rfl (by kernel_rfl) ?_
  repeat'
    (conv => arg 2; whnf)
    first
    | refine okAsk (by kernel_rfl) ?_
    | refine okFn (putSign_s bs x (by simp at hl; omega)) rfl (Cos.refl _) ?_
    | exact endWr (.inl rfl) rfl ⟨⟨rfl, rfl⟩, trivial⟩ (.refl _) rfl
theorem wBatch_s [Wd] (x : List SignedD) (hx : (dL dSigned).ok x) : FnW 263 [.list 9 (x.map cSigned)] (batchP x) := by
  intro bs hl
  refine mkS 15 [] Tryz.func263 rfl (by kernel_rfl) ?_
  repeat'
    (conv => arg 2; whnf)
    first
    | refine okAsk (by kernel_rfl) ?_
    | refine okFn (putBatch_s bs x hx (by omega)) rfl (Cos.refl _) ?_
    | exact endWr (.inl rfl) rfl ⟨⟨rfl, rfl⟩, trivial⟩ (.refl _) rfl
theorem wNum_s [Wd] (l : List Int) (hl : l.length ≤ 4194304) : FnW 257 [.list 1 (l.map cNum)] (numsB l) := by
  intro bs hb
  refine mkS 23 [] Tryz.func257 rfl (by kernel_rfl) ?_
  conv => arg 2; whnf
  refine okLoop (α := Nat) (fun q => ⟨[(8, .int .i64 q), (7, .int .i64 (l.map cNum).length), (6, .list 1 (l.map cNum)), (0, .ptr 0 0)], oW (bs ++ numsB (l.take q))⟩) (fun q => q ≤ l.length) (fun q => l.length - q) 0 (Nat.zero_le _) (Sv.mk' [0] rfl ⟨⟨rfl, by simp [numsB]; rfl⟩, trivial⟩ ⟨rfl, rfl, rfl, rfl, trivial⟩) ?_
  intro q hq
  have hb' : (bs ++ numsB (l.take q)).length + 200 ≤ big := by
    have : (numsB (l.take q)).length ≤ (numsB l).length := by
      conv => rhs; rw [← List.take_append_drop q l]
      simp only [numsB, List.flatMap_append, List.length_append]; omega
    simp only [List.length_append] at hb ⊢; omega
  repeat'
    (conv => arg 2; whnf)
    first
    | refine okBrT ?_
    | refine okBrF ?_
    | refine okBr (fun h => ?_) (fun h => ?_)
    | refine okNthMap (by simpa using h) (fun x hx => ?_)
    | refine okFn (putNum_s (bs ++ numsB (l.take q)) x (by omega)) rfl (Cos.refl _) ?_
    | refine okWrap (w64 (by simp at h; omega) (by simp at h; omega)) ?_
    | refine okRaw ?_
    | refine okAgain (q + 1) (Sv.mk' [0] rfl ⟨⟨rfl, by rw [List.take_add_one, hx]; simp [numsB]; rfl⟩, trivial⟩ ⟨rfl, rfl, rfl, rfl, trivial⟩) ?_ ?_
    | refine okOut ?_
    | refine endWr (.inl rfl) rfl ⟨⟨rfl, rfl⟩, trivial⟩ (.refl _) ?_
  · simp at h; omega
  · simp at h; omega
  · rw [show l.take q = l from List.take_of_length_le (by simp at h; omega)]
theorem wMany_s [Wd] (n : Int) : FnW 265 [.int .i64 n] (encI n) := by
  intro bs hb
  have h1 : numsB [n] = encI n := by simp [numsB]
  refine mkS 8 [] Tryz.func265 rfl (by kernel_rfl) ?_
  repeat'
    (conv => arg 2; whnf)
    first
    | refine okAsk (by kernel_rfl) ?_
    | refine okWr (wNum_s [n] (by simp)) (by rw [h1]; omega) ⟨⟨rfl, rfl⟩, trivial⟩ (Cos.refl _) rfl ?_
    | refine endWr (.inl rfl) rfl ⟨⟨rfl, rfl⟩, trivial⟩ (.refl _) ?_
  rw [h1]
theorem wSigns_s [Wd] (l : List SignD) (hl : l.length ≤ 4194304) : FnW 258 [.list 2 (l.map cSign)] (signsB l) := by
  intro bs hb
  have hm : ∀ q, ((bs ++ encI (l.length : Int)) ++ (l.take q).flatMap signP).length + 200 ≤ big := fun q => by
    have : ((l.take q).flatMap signP).length ≤ (l.flatMap signP).length := by
      conv => rhs; rw [← List.take_append_drop q l]
      simp only [List.flatMap_append, List.length_append]; omega
    simp only [signsB, List.length_append] at hb ⊢; omega
  have h0 := hm 0
  refine mkS 22 [] Tryz.func258 rfl (by kernel_rfl) ?_
  repeat'
    (conv => arg 2; whnf)
    first
    | refine okAsk (by kernel_rfl) ?_
    | refine okWr (wMany_s _) (by simpa using h0) ⟨⟨rfl, rfl⟩, trivial⟩ (Cos.refl _) rfl ?_
  conv => arg 2; whnf
  refine okLoop (α := Nat) (fun q => ⟨[(14, .int .i64 q), (13, .int .i64 (l.map cSign).length), (12, .list 2 (l.map cSign)), (0, .ptr 0 0)], oW ((bs ++ encI ((l.map cSign).length : Nat)) ++ (l.take q).flatMap signP)⟩) (fun q => q ≤ l.length) (fun q => l.length - q) 0 (Nat.zero_le _) (Sv.mk' [0] rfl ⟨⟨rfl, by simp; rfl⟩, trivial⟩ ⟨rfl, rfl, rfl, rfl, trivial⟩) ?_
  intro q hq
  repeat'
    (conv => arg 2; whnf)
    first
    | refine okAsk (by kernel_rfl) ?_
    | refine okBrT ?_
    | refine okBrF ?_
    | refine okLt' (fun hlt => ?_) (fun hge => ?_)
    | refine okNthMap (by simpa using hlt) (fun x hx => ?_)
    | refine okWr (wSign_s x) (by have := hm (q + 1); rw [List.take_add_one, hx] at this; simpa using this) ⟨⟨rfl, rfl⟩, trivial⟩ (Cos.refl _) rfl ?_
    | refine okWrap (w64 (by simp at hlt; omega) (by simp at hlt; omega)) ?_
    | refine okAgain (q + 1) (Sv.mk' [0] rfl ⟨⟨rfl, by rw [List.take_add_one, hx]; simp; rfl⟩, trivial⟩ ⟨rfl, rfl, rfl, rfl, trivial⟩) ?_ ?_
    | refine okOut ?_
    | refine endWr (.inl rfl) rfl ⟨⟨rfl, rfl⟩, trivial⟩ (.refl _) ?_
  · simp at hlt; omega
  · simp at hlt; omega
  · rw [show l.take q = l from List.take_of_length_le (by simpa using hge)]
    simp [signsB]
theorem wCert_s [Wd] (c : CertD) (hc : dCert.ok c) : FnW 219 [.agg (cCert c)] (certB c) := by
  intro bs hb
  have h1 : (bs ++ numsB [c.seq, c.digest]).length + 200 ≤ big := by simp only [certB, List.length_append] at hb ⊢; omega
  refine mkS 17 [] Tryz.func219 rfl (by kernel_rfl) ?_
  repeat'
    (conv => arg 2; whnf)
    first
    | refine okAsk (by kernel_rfl) ?_
    | refine okWr (wNum_s [c.seq, c.digest] (by simp)) (h1) ⟨⟨rfl, rfl⟩, trivial⟩ (Cos.refl _) rfl ?_
    | refine okWr (wSigns_s c.signs hc.2.2.1) (by simpa only [certB, List.append_assoc] using hb) ⟨⟨rfl, rfl⟩, trivial⟩ (Cos.refl _) rfl ?_
    | refine endWr (.inl rfl) rfl ⟨⟨rfl, rfl⟩, trivial⟩ (.refl _) ?_
  simp only [certB, List.append_assoc]
end Go.Proofs.YteaggenihhaajaaGreat

/- The writer of package message over changes and proofs (printed by gen_ah.py). -/
namespace Go.Proofs.YteaggenihhaajaaGreat
open Go.RowKit
set_option linter.unusedVariables false
set_option maxRecDepth 20000

theorem fm_le {α : Type} (f : α → List UInt8) (l : List α) (q : Nat) : ((l.take q).flatMap f).length ≤ (l.flatMap f).length := by
  conv => rhs; rw [← List.take_append_drop q l]
  simp only [List.flatMap_append, List.length_append]; omega
theorem fm_at {α : Type} (f : α → List UInt8) {l : List α} {q : Nat} {x : α} (h : l[q]? = some x) : ((l.take q).flatMap f).length + (f x).length ≤ (l.flatMap f).length := by
  have := fm_le f l (q + 1)
  rw [List.take_add_one, h] at this
  simpa using this
theorem wBody_s [Wd] (c : ChangeD) (hc : dChange.ok c) : FnW 260 [.agg (cChange c)] (bodyC c) := by
  intro bs hb
  refine mkS 57 [] Tryz.func260 rfl (by kernel_rfl) ?_
  repeat'
    (conv => arg 2; whnf)
    first
    | refine okAsk (by kernel_rfl) ?_
    | refine okWr (wNum_s [c.view, c.src] (by simp)) (by simp only [bodyC, List.length_append] at hb ⊢; omega) ⟨⟨rfl, rfl⟩, trivial⟩ (Cos.refl _) rfl ?_
    | refine okWr (wCert_s c.cert hc.2.2.1) (by simp only [bodyC, List.length_append] at hb ⊢; omega) ⟨⟨rfl, rfl⟩, trivial⟩ (Cos.refl _) rfl ?_
    | refine okWr (wMany_s _) (by simp only [bodyC, List.length_append, List.length_map] at hb ⊢; omega) ⟨⟨rfl, rfl⟩, trivial⟩ (Cos.refl _) rfl ?_
  conv => arg 2; whnf
  refine okLoop (α := Nat) (fun q => ⟨[(29, .int .i64 q), (28, .int .i64 (c.above.map cPrepared).length), (27, .list 7 (c.above.map cPrepared)), (3, .ptr 1 0), (0, .ptr 0 0)], [.cells 297 [.list 1 (((bs ++ numsB [c.view, c.src] ++ certB c.cert ++ encI ((c.above.map cPrepared).length : Nat)) ++ (c.above.take q).flatMap prepB).map cByte)], .cells 77 (cChange c)]⟩) (fun q => q ≤ c.above.length) (fun q => c.above.length - q) 0 (Nat.zero_le _) (Sv.mk' [0, 1] rfl ⟨⟨rfl, by simp; rfl⟩, ⟨rfl, rfl⟩, trivial⟩ ⟨rfl, rfl, rfl, rfl, rfl, trivial⟩) ?_
  intro q hq
  have hl : c.above.length ≤ 4194304 := hc.2.2.2.1.1
  repeat'
    (conv => arg 2; whnf)
    first
    | refine okAsk (by kernel_rfl) ?_
    | refine okBrT ?_
    | refine okBrF ?_
    | refine okLt' (fun hlt => ?_) (fun hge => ?_)
    | refine okNthMap (by simpa using hlt) (fun x hx => ?_)
    | refine okWr (wNum_s [x.view, x.seq, x.digest] (by simp)) (by have := fm_at prepB hx; simp only [bodyC, prepB, List.length_append, List.length_map] at hb this ⊢; omega) ⟨⟨rfl, rfl⟩, trivial⟩ (Cos.refl _) rfl ?_
    | refine okWr (wSign_s x.firstS) (by have := fm_at prepB hx; simp only [bodyC, prepB, List.length_append, List.length_map] at hb this ⊢; omega) ⟨⟨rfl, rfl⟩, trivial⟩ (Cos.refl _) rfl ?_
    | refine okWr (wSigns_s x.signs (hc.2.2.2.1.2 x (List.mem_of_getElem? hx)).2.2.2.2.1.1) (by have := fm_at prepB hx; simp only [bodyC, prepB, List.length_append, List.length_map] at hb this ⊢; omega) ⟨⟨rfl, rfl⟩, trivial⟩ (Cos.refl _) rfl ?_
    | refine okWr (wBatch_s x.batch (hc.2.2.2.1.2 x (List.mem_of_getElem? hx)).2.2.2.2.2) (by have := fm_at prepB hx; simp only [bodyC, prepB, List.length_append, List.length_map] at hb this ⊢; omega) ⟨⟨rfl, rfl⟩, trivial⟩ (Cos.refl _) rfl ?_
    | refine okWrap (w64 (by simp at hlt; omega) (by simp at hlt; omega)) ?_
    | refine okAgain (q + 1) (Sv.mk' [0, 1] rfl ⟨⟨rfl, by rw [List.take_add_one, hx]; simp [prepB]; rfl⟩, ⟨rfl, rfl⟩, trivial⟩ ⟨rfl, rfl, rfl, rfl, rfl, trivial⟩) ?_ ?_
    | refine okOut ?_
    | refine endWr (.inl rfl) rfl ⟨⟨rfl, rfl⟩, trivial⟩ (.refl _) ?_
  · simp at hlt; omega
  · simp at hlt; omega
  · rw [show c.above.take q = c.above from List.take_of_length_le (by simpa using hge)]
    simp [bodyC]
theorem wChange_s [Wd] (c : ChangeD) (hc : dChange.ok c) : FnW 224 [.agg (cChange c)] (chgB c) := by
  intro bs hb
  refine mkS 11 [] Tryz.func224 rfl (by kernel_rfl) ?_
  repeat'
    (conv => arg 2; whnf)
    first
    | refine okAsk (by kernel_rfl) ?_
    | refine okWr (wBody_s c hc) (by simp only [chgB, List.length_append] at hb ⊢; omega) ⟨⟨rfl, rfl⟩, trivial⟩ (Cos.refl _) rfl ?_
    | refine okWr (wSign_s c.sign) (by simp only [chgB, List.length_append] at hb ⊢; omega) ⟨⟨rfl, rfl⟩, trivial⟩ (Cos.refl _) rfl ?_
    | refine endWr (.inl rfl) rfl ⟨⟨rfl, rfl⟩, trivial⟩ (.refl _) ?_
  simp [chgB]
theorem wProof_s [Wd] (p : ProofD) (hp : dProof.ok p) : FnW 267 [.agg (cProof p)] (proofB p) := by
  intro bs hb
  refine mkS 92 [(1, ⟨[(0, false), (1, false), (2, false), (3, false), (4, false), (5, true), (6, true)], [0]⟩)] Tryz.func267 rfl (by kernel_rfl) ?_
  repeat'
    (conv => arg 2; whnf)
    first
    | refine okAsk (by kernel_rfl) ?_
    | refine okWr (wStr_s p.topic hp.1) (by simp only [proofB, List.length_append] at hb ⊢; omega) ⟨⟨rfl, rfl⟩, trivial⟩ (Cos.refl _) rfl ?_
    | refine okWr (wNum_s [p.offset] (by simp)) (by simp only [proofB, List.length_append] at hb ⊢; omega) ⟨⟨rfl, rfl⟩, trivial⟩ (Cos.refl _) rfl ?_
    | refine okWr (wStr_s p.record hp.2.2.1) (by simp only [proofB, List.length_append] at hb ⊢; omega) ⟨⟨rfl, rfl⟩, trivial⟩ (Cos.refl _) rfl ?_
    | refine okWr (wMany_s _) (by simp only [proofB, List.length_append, List.length_map] at hb ⊢; omega) ⟨⟨rfl, rfl⟩, trivial⟩ (Cos.refl _) rfl ?_
    | refine okAsk (by have : p.topic.length ≤ 4194304 := hp.1; omega) ?_
  conv => arg 2; whnf
  refine okLoop (α := Nat) (fun q => ⟨[(38, .int .i64 q), (37, .int .i64 (p.headers.map cHeader).length), (36, .list 5 (p.headers.map cHeader)), (3, .ptr 1 0), (0, .ptr 0 0)], [.cells 297 [.list 1 (((bs ++ byF p.topic ++ numsB [p.offset] ++ byF p.record ++ encI ((p.headers.map cHeader).length : Nat)) ++ (p.headers.take q).flatMap headB).map cByte)], .cells 120 (cProof p)]⟩) (fun q => q ≤ p.headers.length) (fun q => p.headers.length - q) 0 (Nat.zero_le _) (Sv.mk' [0, 1] rfl ⟨⟨rfl, by simp; rfl⟩, ⟨rfl, rfl⟩, trivial⟩ ⟨rfl, rfl, rfl, rfl, rfl, trivial⟩) ?_
  intro q hq
  have hl : p.headers.length ≤ 4194304 := hp.2.2.2.1.1
  repeat'
    (conv => arg 2; whnf)
    first
    | refine okAsk (by kernel_rfl) ?_
    | refine okBrT ?_
    | refine okBrF ?_
    | refine okLt' (fun hlt => ?_) (fun hge => ?_)
    | refine okNthMap (by simpa using hlt) (fun x hx => ?_)
    | refine okWr (wNum_s [x.seq, x.prev, x.batch, x.root, x.state] (by simp)) (by have := fm_at headB hx; simp only [proofB, headB, List.length_append, List.length_map] at hb this ⊢; omega) ⟨⟨rfl, rfl⟩, trivial⟩ (Cos.refl _) rfl ?_
    | refine okWrap (w64 (by simp at hlt; omega) (by simp at hlt; omega)) ?_
    | refine okAgain (q + 1) (Sv.mk' [0, 1] rfl ⟨⟨rfl, by rw [List.take_add_one, hx]; simp [headB]; rfl⟩, ⟨rfl, rfl⟩, trivial⟩ ⟨rfl, rfl, rfl, rfl, rfl, trivial⟩) ?_ ?_
    | refine okOut ?_
    | refine okWr (wNum_s [p.index, p.count] (by simp)) (by have := fm_le headB p.headers q; simp only [proofB, List.length_append, List.length_map] at hb this ⊢; omega) ⟨⟨rfl, rfl⟩, trivial⟩ (Cos.refl _) rfl ?_
    | refine okWr (wMany_s _) (by have := fm_le headB p.headers q; simp only [proofB, List.length_append, List.length_map] at hb this ⊢; omega) ⟨⟨rfl, rfl⟩, trivial⟩ (Cos.refl _) rfl ?_
  · simp at hlt; omega
  · simp at hlt; omega
  rw [show p.headers.take q = p.headers from List.take_of_length_le (by simpa using hge)]
  clear hl hge
  conv => arg 2; whnf
  refine okLoop (α := Nat) (fun q => ⟨[(77, .int .i64 q), (76, .int .i64 (p.path.map cNum).length), (75, .list 1 (p.path.map cNum)), (3, .ptr 1 0), (0, .ptr 0 0)], [.cells 297 [.list 1 (((bs ++ byF p.topic ++ numsB [p.offset] ++ byF p.record ++ encI (p.headers.length : Int) ++ p.headers.flatMap headB ++ numsB [p.index, p.count] ++ encI ((p.path.map cNum).length : Nat)) ++ (p.path.take q).flatMap encI).map cByte)], .cells 120 (cProof p)]⟩) (fun q => q ≤ p.path.length) (fun q => p.path.length - q) 0 (Nat.zero_le _) (Sv.mk' [0, 1] rfl ⟨⟨rfl, by simp; rfl⟩, ⟨rfl, rfl⟩, trivial⟩ ⟨rfl, rfl, rfl, rfl, rfl, trivial⟩) ?_
  intro q hq
  have hl : p.path.length ≤ 4194304 := hp.2.2.2.2.2.2.1.1
  repeat'
    (conv => arg 2; whnf)
    first
    | refine okAsk (by kernel_rfl) ?_
    | refine okBrT ?_
    | refine okBrF ?_
    | refine okLt' (fun hlt => ?_) (fun hge => ?_)
    | refine okNthMap (by simpa using hlt) (fun x hx => ?_)
    | refine okWr (wNum_s [x] (by simp)) (by have := fm_at encI hx; have e : (numsB [x]).length = (encI x).length := (by simp [numsB]); simp only [proofB, List.length_append, List.length_map] at hb this ⊢; omega) ⟨⟨rfl, rfl⟩, trivial⟩ (Cos.refl _) rfl ?_
    | refine okWrap (w64 (by simp at hlt; omega) (by simp at hlt; omega)) ?_
    | refine okAgain (q + 1) (Sv.mk' [0, 1] rfl ⟨⟨rfl, by rw [List.take_add_one, hx]; simp [numsB]; rfl⟩, ⟨rfl, rfl⟩, trivial⟩ ⟨rfl, rfl, rfl, rfl, rfl, trivial⟩) ?_ ?_
    | refine okOut ?_
    | refine okWr (wCert_s p.cert hp.2.2.2.2.2.2.2) (by have := fm_le encI p.path q; simp only [proofB, List.length_append, List.length_map] at hb this ⊢; omega) ⟨⟨rfl, rfl⟩, trivial⟩ (Cos.refl _) rfl ?_
    | refine endWr (.inl rfl) rfl ⟨⟨rfl, rfl⟩, trivial⟩ (.refl _) ?_
  · simp at hlt; omega
  · simp at hlt; omega
  · rw [show p.path.take q = p.path from List.take_of_length_le (by simpa using hge)]
    simp [proofB]
end Go.Proofs.YteaggenihhaajaaGreat

/- The writer of package message over a message without its signature, from no bytes (printed by gen_ai.py). -/
namespace Go.Proofs.YteaggenihhaajaaGreat
open Go.RowKit
set_option linter.unusedVariables false
set_option maxRecDepth 20000

section
variable {P : Program}
theorem endBy [Wd] {tb : TT} {rs : List ResultVar} {e : Exit} {s : S} {xs ys : List UInt8} (he : e = .normal ∨ e = .ret) (hr : resD tb s rs = some [.list 1 (xs.map cByte)]) (h : xs = ys) : (T.leaf e s).ok P (Lf tb rs [] (fun r' h' => r' = .list 1 (ys.map cByte) ∧ h' = [])) := by
  subst h
  exact endFn0 he hr (.refl _) rfl
end
theorem encI_l (n : Int) : (encI n).length ≤ 10 := by
  unfold encI
  exact enc_10 (by omega)
theorem resI {a : Int} (h : 0 ≤ a ∧ a ≤ 9223372036854775807) : encI (if a < 0 then 0 else a) = enc (max a 0).toNat := by
  rw [if_neg (by omega), encI_nat h.1 (by omega), Int.max_eq_left h.1]
theorem putResult_s [Wd] (bs : List UInt8) (x : ResultD) (he : 0 ≤ x.err ∧ x.err ≤ 9223372036854775807) (ho : 0 ≤ x.offset ∧ x.offset ≤ 9223372036854775807) (hl : bs.length + 110 ≤ big) : FnP Tryz.prog 264 [.list 1 (bs.map cByte), .agg (cResult x)] (.list 1 ((bs ++ resultB x).map cByte)) := by
  have p1 := encI_l (if x.err < 0 then 0 else x.err)
  refine mkS 16 [(1, ⟨[(0, false), (1, false), (2, false), (3, false), (4, false), (6, false), (7, false), (8, false), (9, false), (5, true), (10, true), (11, false)], []⟩)] Tryz.func264 rfl (by kernel_rfl) ?_
  repeat'
    (conv => arg 2; whnf)
    first
    | refine okAsk (by kernel_rfl) ?_
    | refine okRaw ?_
    | refine okFn (putNum_s _ _ (by (try simp only [List.length_append]); omega)) rfl (Cos.refl _) ?_
    | (refine endBy (.inr rfl) rfl ?_; rw [resI he, resI ho, List.append_assoc]; rfl)
/-- the first number, from no bytes -/
theorem wNum0_s [Wd] (n : Int) : FnS Tryz.prog 257 [.ptr 0 0, .list 1 ([n].map cNum)] [.cells 297 [.nils]] (fun r h => r = .tup [] ∧ h = oW (encI n)) := by
  refine mkS 23 [] Tryz.func257 rfl (by kernel_rfl) ?_
  conv => arg 2; whnf
  refine okLoop (α := Bool) (fun b => match b with
    | false => ⟨[(8, .int .i64 0), (7, .int .i64 1), (6, .list 1 ([n].map cNum)), (0, .ptr 0 0)], [.cells 297 [.nils]]⟩
    | true => ⟨[(8, .int .i64 1), (7, .int .i64 1), (6, .list 1 ([n].map cNum)), (0, .ptr 0 0)], oW (encI n)⟩) (fun _ => True) (fun b => bif b then 0 else 1) false trivial (Sv.mk' [0] rfl ⟨⟨rfl, rfl⟩, trivial⟩ ⟨rfl, rfl, rfl, rfl, trivial⟩) ?_
  rintro (_ | _) _
  all_goals
    repeat'
      (conv => arg 2; whnf)
      first
      | refine okBrT ?_
      | refine okBrF ?_
      | refine okNth (cNum n) (by decide) rfl ?_
      | refine okFn (putNum_s [] n (by simp [big])) rfl (Cos.cons (Co.nil _) (.refl _)) ?_
      | refine okWrap (w64 (by decide) (by decide)) ?_
      | refine okRaw ?_
      | exact okAgain true (Sv.mk' [0] rfl ⟨⟨rfl, rfl⟩, trivial⟩ ⟨rfl, rfl, rfl, rfl, trivial⟩) trivial (by decide)
      | refine okOut ?_
      | exact endObj [0] (.inl rfl) rfl rfl ⟨⟨rfl, rfl⟩, trivial⟩ ⟨⟨rfl, rfl⟩, trivial⟩ (.refl _)
theorem wShort_s [Wd] (bs : List UInt8) (hs : ¬ 262144 < bs.length) : FnS Tryz.prog 220 [.ptr 0 0] (oW bs) (fun r h => r = .tup [.list 1 (bs.map cByte), .int .i64 0] ∧ h = oW bs) := by
  refine mkS 16 [] Tryz.func220 rfl (by kernel_rfl) ?_
  repeat'
    (conv => arg 2; whnf)
    first
    | refine okBr (fun h => ?_) (fun h => ?_)
    | exact endObj [0] (.inr rfl) rfl rfl ⟨⟨rfl, rfl⟩, trivial⟩ ⟨⟨rfl, rfl⟩, trivial⟩ (.refl _)
  simp at h
  omega
theorem wShortL_s [Wd] (bs : List UInt8) (h : 262144 < bs.length) : FnS Tryz.prog 220 [.ptr 0 0] (oW bs) (fun r h => r = .tup [.nils, .int .i64 3] ∧ h = oW bs) := by
  refine mkS 16 [] Tryz.func220 rfl (by kernel_rfl) ?_
  repeat'
    (conv => arg 2; whnf)
    first
    | refine okBr (fun h => ?_) (fun h => ?_)
    | exact endObj [0] (.inr rfl) rfl rfl ⟨⟨rfl, rfl⟩, trivial⟩ ⟨⟨rfl, rfl⟩, trivial⟩ (.refl _)
  simp at h
  omega
theorem endWr0 [Wd] {tb : TT} {rs : List ResultVar} {ex : Exit} {s : S} {bs' : List UInt8} {ds : List D} (he : ex = .normal ∨ ex = .ret) (hr : resD tb s rs = some ds) (hv : vwP s.h [0] [0] (oW bs')) (hco : Co (resV ds) (.tup [])) {add : List UInt8} (hx : bs' = add) : (T.leaf ex s).ok Tryz.prog (Lf tb rs [.cells 297 [.nils]] (fun r h => r = .tup [] ∧ h = oW add)) := by
  subst hx
  exact endObj [0] he hr rfl hv ⟨⟨rfl, rfl⟩, trivial⟩ hco
end Go.Proofs.YteaggenihhaajaaGreat

/- The writer of package message over a message without its signature, a kind at a time (printed by gen_al.py). -/
namespace Go.Proofs.YteaggenihhaajaaGreat
open Go.RowKit
set_option linter.unusedVariables false
set_option maxRecDepth 20000

theorem wUns1_s [Wd] (m : MsgD) (hm : dMsg.ok m) (hl : (encI 1 ++ (batchP m.batch)).length + 200 ≤ big) : FnS Tryz.prog 226 [.ptr 0 0, .agg (cMsg { m with kind := 1 })] [.cells 297 [.nils]] (fun r h => r = .tup [] ∧ h = oW (encI 1 ++ (batchP m.batch))) := by
  refine mkS 222 [] Tryz.func226 rfl (by kernel_rfl) ?_
  repeat'
    (conv => arg 2; whnf)
    first
    | refine okAsk (by kernel_rfl) ?_
    | refine okBrT ?_
    | refine okBrF ?_
    | refine okCall [0] (wNum0_s _) (.mk' rfl ⟨⟨rfl, rfl⟩, trivial⟩) (Cos.refl _) rfl ?_
    | refine okWr (wBatch_s m.batch hm.2.2.2.2.2.2.2.2.1) (by simp only [List.length_append] at hl ⊢; omega) ⟨⟨rfl, rfl⟩, trivial⟩ (Cos.refl _) rfl ?_
    | refine endWr0 (.inl rfl) rfl ⟨⟨rfl, rfl⟩, trivial⟩ (.refl _) ?_
  all_goals (first | rfl | simp)
theorem wUns2_s [Wd] (m : MsgD) (hm : dMsg.ok m) (hl : (encI 2 ++ (numsB [m.src, m.view, m.seq, m.digest] ++ batchP m.batch)).length + 200 ≤ big) : FnS Tryz.prog 226 [.ptr 0 0, .agg (cMsg { m with kind := 2 })] [.cells 297 [.nils]] (fun r h => r = .tup [] ∧ h = oW (encI 2 ++ (numsB [m.src, m.view, m.seq, m.digest] ++ batchP m.batch))) := by
  refine mkS 222 [] Tryz.func226 rfl (by kernel_rfl) ?_
  repeat'
    (conv => arg 2; whnf)
    first
    | refine okAsk (by kernel_rfl) ?_
    | refine okBrT ?_
    | refine okBrF ?_
    | refine okCall [0] (wNum0_s _) (.mk' rfl ⟨⟨rfl, rfl⟩, trivial⟩) (Cos.refl _) rfl ?_
    | refine okWr (wNum_s [m.src, m.view, m.seq, m.digest] (by simp)) (by simp only [List.length_append] at hl ⊢; omega) ⟨⟨rfl, rfl⟩, trivial⟩ (Cos.refl _) rfl ?_
    | refine okWr (wBatch_s m.batch hm.2.2.2.2.2.2.2.2.1) (by simp only [List.length_append] at hl ⊢; omega) ⟨⟨rfl, rfl⟩, trivial⟩ (Cos.refl _) rfl ?_
    | refine endWr0 (.inl rfl) rfl ⟨⟨rfl, rfl⟩, trivial⟩ (.refl _) ?_
  all_goals (first | rfl | simp)
theorem wUns3_s [Wd] (m : MsgD) (hm : dMsg.ok m) (hl : (encI 3 ++ (numsB [m.src, m.view, m.seq, m.digest])).length + 200 ≤ big) : FnS Tryz.prog 226 [.ptr 0 0, .agg (cMsg { m with kind := 3 })] [.cells 297 [.nils]] (fun r h => r = .tup [] ∧ h = oW (encI 3 ++ (numsB [m.src, m.view, m.seq, m.digest]))) := by
  refine mkS 222 [] Tryz.func226 rfl (by kernel_rfl) ?_
  repeat'
    (conv => arg 2; whnf)
    first
    | refine okAsk (by kernel_rfl) ?_
    | refine okBrT ?_
    | refine okBrF ?_
    | refine okCall [0] (wNum0_s _) (.mk' rfl ⟨⟨rfl, rfl⟩, trivial⟩) (Cos.refl _) rfl ?_
    | refine okWr (wNum_s [m.src, m.view, m.seq, m.digest] (by simp)) (by simp only [List.length_append] at hl ⊢; omega) ⟨⟨rfl, rfl⟩, trivial⟩ (Cos.refl _) rfl ?_
    | refine endWr0 (.inl rfl) rfl ⟨⟨rfl, rfl⟩, trivial⟩ (.refl _) ?_
  all_goals (first | rfl | simp)
theorem wUns4_s [Wd] (m : MsgD) (hm : dMsg.ok m) (hl : (encI 4 ++ (numsB [m.src, m.view, m.seq, m.digest])).length + 200 ≤ big) : FnS Tryz.prog 226 [.ptr 0 0, .agg (cMsg { m with kind := 4 })] [.cells 297 [.nils]] (fun r h => r = .tup [] ∧ h = oW (encI 4 ++ (numsB [m.src, m.view, m.seq, m.digest]))) := by
  refine mkS 222 [] Tryz.func226 rfl (by kernel_rfl) ?_
  repeat'
    (conv => arg 2; whnf)
    first
    | refine okAsk (by kernel_rfl) ?_
    | refine okBrT ?_
    | refine okBrF ?_
    | refine okCall [0] (wNum0_s _) (.mk' rfl ⟨⟨rfl, rfl⟩, trivial⟩) (Cos.refl _) rfl ?_
    | refine okWr (wNum_s [m.src, m.view, m.seq, m.digest] (by simp)) (by simp only [List.length_append] at hl ⊢; omega) ⟨⟨rfl, rfl⟩, trivial⟩ (Cos.refl _) rfl ?_
    | refine endWr0 (.inl rfl) rfl ⟨⟨rfl, rfl⟩, trivial⟩ (.refl _) ?_
  all_goals (first | rfl | simp)
theorem wUns5_s [Wd] (m : MsgD) (hm : dMsg.ok m) (h5 : (0 ≤ m.result.err ∧ m.result.err ≤ 9223372036854775807) ∧ (0 ≤ m.result.offset ∧ m.result.offset ≤ 9223372036854775807)) (hl : (encI 5 ++ (numsB [m.src, m.view, m.client, m.time] ++ resultB m.result)).length + 200 ≤ big) : FnS Tryz.prog 226 [.ptr 0 0, .agg (cMsg { m with kind := 5 })] [.cells 297 [.nils]] (fun r h => r = .tup [] ∧ h = oW (encI 5 ++ (numsB [m.src, m.view, m.client, m.time] ++ resultB m.result))) := by
  refine mkS 222 [(13, ⟨[(0, false), (1, false), (2, false), (3, false), (4, false), (6, false), (7, false), (5, true), (8, true), (9, false), (10, false), (11, false), (12, true)], [0]⟩)] Tryz.func226 rfl (by kernel_rfl) ?_
  repeat'
    (conv => arg 2; whnf)
    first
    | refine okAsk (by kernel_rfl) ?_
    | refine okBrT ?_
    | refine okBrF ?_
    | refine okCall [0] (wNum0_s _) (.mk' rfl ⟨⟨rfl, rfl⟩, trivial⟩) (Cos.refl _) rfl ?_
    | refine okWr (wNum_s [m.src, m.view, m.client, m.time] (by simp)) (by simp only [List.length_append] at hl ⊢; omega) ⟨⟨rfl, rfl⟩, trivial⟩ (Cos.refl _) rfl ?_
    | refine okFn (putResult_s _ m.result h5.1 h5.2 (by simp only [List.length_append] at hl ⊢; omega)) rfl (Cos.refl _) ?_
    | refine endWr0 (.inl rfl) rfl ⟨⟨rfl, rfl⟩, trivial⟩ (.refl _) ?_
  all_goals (first | rfl | simp)
theorem wUns6_s [Wd] (m : MsgD) (hm : dMsg.ok m) (hl : (encI 6 ++ (numsB [m.src, m.seq, m.digest])).length + 200 ≤ big) : FnS Tryz.prog 226 [.ptr 0 0, .agg (cMsg { m with kind := 6 })] [.cells 297 [.nils]] (fun r h => r = .tup [] ∧ h = oW (encI 6 ++ (numsB [m.src, m.seq, m.digest]))) := by
  refine mkS 222 [] Tryz.func226 rfl (by kernel_rfl) ?_
  repeat'
    (conv => arg 2; whnf)
    first
    | refine okAsk (by kernel_rfl) ?_
    | refine okBrT ?_
    | refine okBrF ?_
    | refine okCall [0] (wNum0_s _) (.mk' rfl ⟨⟨rfl, rfl⟩, trivial⟩) (Cos.refl _) rfl ?_
    | refine okWr (wNum_s [m.src, m.seq, m.digest] (by simp)) (by simp only [List.length_append] at hl ⊢; omega) ⟨⟨rfl, rfl⟩, trivial⟩ (Cos.refl _) rfl ?_
    | refine endWr0 (.inl rfl) rfl ⟨⟨rfl, rfl⟩, trivial⟩ (.refl _) ?_
  all_goals (first | rfl | simp)
theorem wUns7_s [Wd] (m : MsgD) (hm : dMsg.ok m) {c : ChangeD} (h7 : m.changes[0]? = some c) (hl : (encI 7 ++ (bodyC c)).length + 200 ≤ big) : FnS Tryz.prog 226 [.ptr 0 0, .agg (cMsg { m with kind := 7 })] [.cells 297 [.nils]] (fun r h => r = .tup [] ∧ h = oW (encI 7 ++ (bodyC c))) := by
  refine mkS 222 [] Tryz.func226 rfl (by kernel_rfl) ?_
  repeat'
    (conv => arg 2; whnf)
    first
    | refine okAsk (by kernel_rfl) ?_
    | refine okBrT ?_
    | refine okBrF ?_
    | refine okCall [0] (wNum0_s _) (.mk' rfl ⟨⟨rfl, rfl⟩, trivial⟩) (Cos.refl _) rfl ?_
    | refine okNth (cChange c) (by decide) (by simp [h7]) ?_
    | refine okWr (wBody_s c (hm.2.2.2.2.2.2.2.2.2.2.1.2 c (List.mem_of_getElem? h7))) (by simp only [List.length_append] at hl ⊢; omega) ⟨⟨rfl, rfl⟩, trivial⟩ (Cos.refl _) rfl ?_
    | refine endWr0 (.inl rfl) rfl ⟨⟨rfl, rfl⟩, trivial⟩ (.refl _) ?_
  all_goals (first | rfl | simp)
theorem wUns9_s [Wd] (m : MsgD) (hm : dMsg.ok m) (hl : (encI 9 ++ (numsB [m.src, m.seq])).length + 200 ≤ big) : FnS Tryz.prog 226 [.ptr 0 0, .agg (cMsg { m with kind := 9 })] [.cells 297 [.nils]] (fun r h => r = .tup [] ∧ h = oW (encI 9 ++ (numsB [m.src, m.seq]))) := by
  refine mkS 222 [] Tryz.func226 rfl (by kernel_rfl) ?_
  repeat'
    (conv => arg 2; whnf)
    first
    | refine okAsk (by kernel_rfl) ?_
    | refine okBrT ?_
    | refine okBrF ?_
    | refine okCall [0] (wNum0_s _) (.mk' rfl ⟨⟨rfl, rfl⟩, trivial⟩) (Cos.refl _) rfl ?_
    | refine okWr (wNum_s [m.src, m.seq] (by simp)) (by simp only [List.length_append] at hl ⊢; omega) ⟨⟨rfl, rfl⟩, trivial⟩ (Cos.refl _) rfl ?_
    | refine endWr0 (.inl rfl) rfl ⟨⟨rfl, rfl⟩, trivial⟩ (.refl _) ?_
  all_goals (first | rfl | simp)
theorem wUns10_s [Wd] (m : MsgD) (hm : dMsg.ok m) (hl : (encI 10 ++ (numsB [m.src] ++ certB m.cert ++ byF m.state)).length + 200 ≤ big) : FnS Tryz.prog 226 [.ptr 0 0, .agg (cMsg { m with kind := 10 })] [.cells 297 [.nils]] (fun r h => r = .tup [] ∧ h = oW (encI 10 ++ (numsB [m.src] ++ certB m.cert ++ byF m.state))) := by
  refine mkS 222 [] Tryz.func226 rfl (by kernel_rfl) ?_
  repeat'
    (conv => arg 2; whnf)
    first
    | refine okAsk (by kernel_rfl) ?_
    | refine okBrT ?_
    | refine okBrF ?_
    | refine okCall [0] (wNum0_s _) (.mk' rfl ⟨⟨rfl, rfl⟩, trivial⟩) (Cos.refl _) rfl ?_
    | refine okWr (wNum_s [m.src] (by simp)) (by simp only [List.length_append] at hl ⊢; omega) ⟨⟨rfl, rfl⟩, trivial⟩ (Cos.refl _) rfl ?_
    | refine okWr (wCert_s m.cert hm.2.2.2.2.2.2.2.2.2.1) (by simp only [List.length_append] at hl ⊢; omega) ⟨⟨rfl, rfl⟩, trivial⟩ (Cos.refl _) rfl ?_
    | refine okWr (wStr_s m.state hm.2.2.2.2.2.2.2.2.2.2.2.2.1) (by simp only [List.length_append] at hl ⊢; omega) ⟨⟨rfl, rfl⟩, trivial⟩ (Cos.refl _) rfl ?_
    | refine endWr0 (.inl rfl) rfl ⟨⟨rfl, rfl⟩, trivial⟩ (.refl _) ?_
  all_goals (first | rfl | simp)
theorem wUns11_s [Wd] (m : MsgD) (hm : dMsg.ok m) (hl : (encI 11 ++ (numsB [m.client] ++ byF m.topic ++ numsB [m.offset])).length + 200 ≤ big) : FnS Tryz.prog 226 [.ptr 0 0, .agg (cMsg { m with kind := 11 })] [.cells 297 [.nils]] (fun r h => r = .tup [] ∧ h = oW (encI 11 ++ (numsB [m.client] ++ byF m.topic ++ numsB [m.offset]))) := by
  refine mkS 222 [(42, ⟨[(0, false), (1, false), (2, false), (3, false), (4, false), (5, true), (6, true)], [0]⟩)] Tryz.func226 rfl (by kernel_rfl) ?_
  repeat'
    (conv => arg 2; whnf)
    first
    | refine okAsk (by kernel_rfl) ?_
    | refine okBrT ?_
    | refine okBrF ?_
    | refine okCall [0] (wNum0_s _) (.mk' rfl ⟨⟨rfl, rfl⟩, trivial⟩) (Cos.refl _) rfl ?_
    | refine okWr (wNum_s [m.client] (by simp)) (by simp only [List.length_append] at hl ⊢; omega) ⟨⟨rfl, rfl⟩, trivial⟩ (Cos.refl _) rfl ?_
    | refine okAsk (by have : m.topic.length ≤ 4194304 := hm.2.2.2.2.2.2.2.2.2.2.2.2.2.1; simp only; omega) ?_
    | refine okWr (wStr_s m.topic hm.2.2.2.2.2.2.2.2.2.2.2.2.2.1) (by simp only [List.length_append] at hl ⊢; omega) ⟨⟨rfl, rfl⟩, trivial⟩ (Cos.refl _) rfl ?_
    | refine okWr (wNum_s [m.offset] (by simp)) (by simp only [List.length_append] at hl ⊢; omega) ⟨⟨rfl, rfl⟩, trivial⟩ (Cos.refl _) rfl ?_
    | refine endWr0 (.inl rfl) rfl ⟨⟨rfl, rfl⟩, trivial⟩ (.refl _) ?_
  all_goals (first | rfl | simp)
theorem wUns12_s [Wd] (m : MsgD) (hm : dMsg.ok m) (hl : (encI 12 ++ (numsB [m.src] ++ proofB m.proof)).length + 200 ≤ big) : FnS Tryz.prog 226 [.ptr 0 0, .agg (cMsg { m with kind := 12 })] [.cells 297 [.nils]] (fun r h => r = .tup [] ∧ h = oW (encI 12 ++ (numsB [m.src] ++ proofB m.proof))) := by
  refine mkS 222 [] Tryz.func226 rfl (by kernel_rfl) ?_
  repeat'
    (conv => arg 2; whnf)
    first
    | refine okAsk (by kernel_rfl) ?_
    | refine okBrT ?_
    | refine okBrF ?_
    | refine okCall [0] (wNum0_s _) (.mk' rfl ⟨⟨rfl, rfl⟩, trivial⟩) (Cos.refl _) rfl ?_
    | refine okWr (wNum_s [m.src] (by simp)) (by simp only [List.length_append] at hl ⊢; omega) ⟨⟨rfl, rfl⟩, trivial⟩ (Cos.refl _) rfl ?_
    | refine okWr (wProof_s m.proof hm.2.2.2.2.2.2.2.2.2.2.2.2.2.2.2.1) (by simp only [List.length_append] at hl ⊢; omega) ⟨⟨rfl, rfl⟩, trivial⟩ (Cos.refl _) rfl ?_
    | refine endWr0 (.inl rfl) rfl ⟨⟨rfl, rfl⟩, trivial⟩ (.refl _) ?_
  all_goals (first | rfl | simp)
theorem wUns8_s [Wd] (m : MsgD) (hm : dMsg.ok m) (hl : (encI 8 ++ (numsB [m.src, m.view] ++ encI (m.changes.length : Int) ++ m.changes.flatMap chgB ++ encI (m.entries.length : Int) ++ m.entries.flatMap entryB)).length + 200 ≤ big) : FnS Tryz.prog 226 [.ptr 0 0, .agg (cMsg { m with kind := 8 })] [.cells 297 [.nils]] (fun r h => r = .tup [] ∧ h = oW (encI 8 ++ (numsB [m.src, m.view] ++ encI (m.changes.length : Int) ++ m.changes.flatMap chgB ++ encI (m.entries.length : Int) ++ m.entries.flatMap entryB))) := by
  refine mkS 222 [] Tryz.func226 rfl (by kernel_rfl) ?_
  repeat'
    (conv => arg 2; whnf)
    first
    | refine okAsk (by kernel_rfl) ?_
    | refine okBrT ?_
    | refine okBrF ?_
    | refine okLt' (fun hlt => ?_) (fun hge => ?_)
    | refine okNthMap (by simpa using hlt) (fun x hx => ?_)
    | refine okCall [0] (wNum0_s _) (.mk' rfl ⟨⟨rfl, rfl⟩, trivial⟩) (Cos.refl _) rfl ?_
    | refine okWr (wNum_s [m.src, m.view] (by simp)) (by simp only [List.length_append] at hl ⊢; omega) ⟨⟨rfl, rfl⟩, trivial⟩ (Cos.refl _) rfl ?_
    | refine okWr (wMany_s _) (by simp only [List.length_append, List.length_map] at hl ⊢; omega) ⟨⟨rfl, rfl⟩, trivial⟩ (Cos.refl _) rfl ?_
  conv => arg 2; whnf
  refine okLoop (α := Nat) (fun q => ⟨[(116, .int .i64 q), (115, .int .i64 (m.changes.map cChange).length), (114, .list 8 (m.changes.map cChange)), (3, .ptr 1 0), (0, .ptr 0 0)], [.cells 297 [.list 1 (((encI 8 ++ numsB [m.src, m.view] ++ encI ((m.changes.map cChange).length : Nat)) ++ (m.changes.take q).flatMap chgB).map cByte)], .cells 122 (cMsg { m with kind := 8 })]⟩) (fun q => q ≤ m.changes.length) (fun q => m.changes.length - q) 0 (Nat.zero_le _) (Sv.mk' [0, 1] rfl ⟨⟨rfl, by simp; rfl⟩, ⟨rfl, rfl⟩, trivial⟩ ⟨rfl, rfl, rfl, rfl, rfl, trivial⟩) ?_
  intro q hq
  have hll : m.changes.length ≤ 4194304 := hm.2.2.2.2.2.2.2.2.2.2.1.1
  repeat'
    (conv => arg 2; whnf)
    first
    | refine okAsk (by kernel_rfl) ?_
    | refine okBrT ?_
    | refine okBrF ?_
    | refine okLt' (fun hlt => ?_) (fun hge => ?_)
    | refine okNthMap (by simpa using hlt) (fun x hx => ?_)
    | refine okWr (wChange_s x (hm.2.2.2.2.2.2.2.2.2.2.1.2 x (List.mem_of_getElem? hx))) (by have := fm_at chgB hx; simp only [List.length_append, List.length_map] at hl this ⊢; omega) ⟨⟨rfl, rfl⟩, trivial⟩ (Cos.refl _) rfl ?_
    | refine okWrap (w64 (by simp at hlt; omega) (by simp at hlt; omega)) ?_
    | refine okAgain (q + 1) (Sv.mk' [0, 1] rfl ⟨⟨rfl, by rw [List.take_add_one, hx]; simp [chgB]; rfl⟩, ⟨rfl, rfl⟩, trivial⟩ ⟨rfl, rfl, rfl, rfl, rfl, trivial⟩) ?_ ?_
    | refine okOut ?_
    | refine okWr (wMany_s _) (by have := fm_le chgB m.changes q; simp only [List.length_append, List.length_map] at hl this ⊢; omega) ⟨⟨rfl, rfl⟩, trivial⟩ (Cos.refl _) rfl ?_
  · simp at hlt; omega
  · simp at hlt; omega
  rw [show m.changes.take q = m.changes from List.take_of_length_le (by simpa using hge)]
  clear hll hge
  conv => arg 2; whnf
  refine okLoop (α := Nat) (fun q => ⟨[(134, .int .i64 q), (133, .int .i64 (m.entries.map cEntry).length), (132, .list 5 (m.entries.map cEntry)), (3, .ptr 1 0), (0, .ptr 0 0)], [.cells 297 [.list 1 (((encI 8 ++ numsB [m.src, m.view] ++ encI (m.changes.length : Int) ++ m.changes.flatMap chgB ++ encI ((m.entries.map cEntry).length : Nat)) ++ (m.entries.take q).flatMap entryB).map cByte)], .cells 122 (cMsg { m with kind := 8 })]⟩) (fun q => q ≤ m.entries.length) (fun q => m.entries.length - q) 0 (Nat.zero_le _) (Sv.mk' [0, 1] rfl ⟨⟨rfl, by simp; rfl⟩, ⟨rfl, rfl⟩, trivial⟩ ⟨rfl, rfl, rfl, rfl, rfl, trivial⟩) ?_
  intro q hq
  have hll : m.entries.length ≤ 4194304 := hm.2.2.2.2.2.2.2.2.2.2.2.1.1
  repeat'
    (conv => arg 2; whnf)
    first
    | refine okAsk (by kernel_rfl) ?_
    | refine okBrT ?_
    | refine okBrF ?_
    | refine okLt' (fun hlt => ?_) (fun hge => ?_)
    | refine okNthMap (by simpa using hlt) (fun x hx => ?_)
    | refine okWr (wNum_s [x.view, x.seq] (by simp)) (by have := fm_at entryB hx; simp only [entryB, List.length_append, List.length_map] at hl this ⊢; omega) ⟨⟨rfl, rfl⟩, trivial⟩ (Cos.refl _) rfl ?_
    | refine okWr (wBatch_s x.batch (hm.2.2.2.2.2.2.2.2.2.2.2.1.2 x (List.mem_of_getElem? hx)).2.2.1) (by have := fm_at entryB hx; simp only [entryB, List.length_append, List.length_map] at hl this ⊢; omega) ⟨⟨rfl, rfl⟩, trivial⟩ (Cos.refl _) rfl ?_
    | refine okWr (wSign_s x.sign) (by have := fm_at entryB hx; simp only [entryB, List.length_append, List.length_map] at hl this ⊢; omega) ⟨⟨rfl, rfl⟩, trivial⟩ (Cos.refl _) rfl ?_
    | refine okWrap (w64 (by simp at hlt; omega) (by simp at hlt; omega)) ?_
    | refine okAgain (q + 1) (Sv.mk' [0, 1] rfl ⟨⟨rfl, by rw [List.take_add_one, hx]; simp [entryB]; rfl⟩, ⟨rfl, rfl⟩, trivial⟩ ⟨rfl, rfl, rfl, rfl, rfl, trivial⟩) ?_ ?_
    | refine okOut ?_
    | refine endWr0 (.inl rfl) rfl ⟨⟨rfl, rfl⟩, trivial⟩ (.refl _) ?_
  · simp at hlt; omega
  · simp at hlt; omega
  · rw [show m.entries.take q = m.entries from List.take_of_length_le (by simpa using hge)]
    simp
end Go.Proofs.YteaggenihhaajaaGreat

/- The writer of package message over a message that may be, without its signature. -/
namespace Go.Proofs.YteaggenihhaajaaGreat
open Go.RowKit
set_option linter.unusedVariables false

theorem rangeE_z {n a b : Int} (h : rangeE n a b = 0) : a ≤ n ∧ n ≤ b := by
  unfold rangeE at h
  split at h
  · cases h
  · omega
theorem kind_is {m : MsgD} (h : kindE m = 0) : m.kind = 1 ∨ m.kind = 2 ∨ m.kind = 3 ∨ m.kind = 4 ∨ m.kind = 5 ∨ m.kind = 6 ∨ m.kind = 7 ∨ m.kind = 8 ∨ m.kind = 9 ∨ m.kind = 10 ∨ m.kind = 11 ∨ m.kind = 12 := by
  unfold kindE at h
  repeat' split at h
  all_goals omega
theorem kind_eta (m : MsgD) {k : Int} (h : m.kind = k) : ({ m with kind := k } : MsgD) = m := by
  subst h
  rfl
theorem wUns_s [Wd] (m : MsgD) (hm : dMsg.ok m) (h0 : kindE m = 0) (hl : (unsB m).length + 200 ≤ big) : FnS Tryz.prog 226 [.ptr 0 0, .agg (cMsg m)] [.cells 297 [.nils]] (fun r h => r = .tup [] ∧ h = oW (unsB m)) := by
  have h5 : m.kind = 5 → (0 ≤ m.result.err ∧ m.result.err ≤ 9223372036854775807) ∧ (0 ≤ m.result.offset ∧ m.result.offset ≤ 9223372036854775807) := fun hk => by
    simp only [kindE, hk] at h0
    simp [orE_zero] at h0
    obtain ⟨_, _, _, _, e1, e2⟩ := h0
    have := rangeE_z e1
    have := rangeE_z (show rangeE m.result.offset 0 9007199254740992 = 0 from e2)
    omega
  have h7 : m.kind = 7 → ∃ c, m.changes[0]? = some c := fun hk => by
    simp only [kindE, hk] at h0
    simp [orE_zero] at h0
    have := rangeE_z h0.1
    exact ⟨_, List.getElem?_eq_getElem (by omega)⟩
  rcases kind_is h0 with hk | hk | hk | hk | hk | hk | hk | hk | hk | hk | hk | hk
  · have u : unsB m = encI 1 ++ (batchP m.batch) := by simp [unsB, tailB, hk]
    rw [u] at hl ⊢
    have r := wUns1_s m hm hl
    rwa [kind_eta m hk] at r
  · have u : unsB m = encI 2 ++ (numsB [m.src, m.view, m.seq, m.digest] ++ batchP m.batch) := by simp [unsB, tailB, hk]
    rw [u] at hl ⊢
    have r := wUns2_s m hm hl
    rwa [kind_eta m hk] at r
  · have u : unsB m = encI 3 ++ (numsB [m.src, m.view, m.seq, m.digest]) := by simp [unsB, tailB, hk]
    rw [u] at hl ⊢
    have r := wUns3_s m hm hl
    rwa [kind_eta m hk] at r
  · have u : unsB m = encI 4 ++ (numsB [m.src, m.view, m.seq, m.digest]) := by simp [unsB, tailB, hk]
    rw [u] at hl ⊢
    have r := wUns4_s m hm hl
    rwa [kind_eta m hk] at r
  · have u : unsB m = encI 5 ++ (numsB [m.src, m.view, m.client, m.time] ++ resultB m.result) := by simp [unsB, tailB, hk]
    rw [u] at hl ⊢
    have r := wUns5_s m hm (h5 hk) hl
    rwa [kind_eta m hk] at r
  · have u : unsB m = encI 6 ++ (numsB [m.src, m.seq, m.digest]) := by simp [unsB, tailB, hk]
    rw [u] at hl ⊢
    have r := wUns6_s m hm hl
    rwa [kind_eta m hk] at r
  · obtain ⟨c, hc⟩ := h7 hk
    obtain ⟨r, hr⟩ : ∃ r, m.changes = c :: r := by
      cases hx : m.changes with
      | nil => rw [hx] at hc; cases hc
      | cons d r => rw [hx] at hc; cases hc; exact ⟨r, rfl⟩
    have u : unsB m = encI 7 ++ (bodyC c) := by simp [unsB, tailB, hk, hr]
    rw [u] at hl ⊢
    have r := wUns7_s m hm hc hl
    rwa [kind_eta m hk] at r
  · have u : unsB m = encI 8 ++ (numsB [m.src, m.view] ++ encI (m.changes.length : Int) ++ m.changes.flatMap chgB ++ encI (m.entries.length : Int) ++ m.entries.flatMap entryB) := by simp [unsB, tailB, hk]
    rw [u] at hl ⊢
    have r := wUns8_s m hm hl
    rwa [kind_eta m hk] at r
  · have u : unsB m = encI 9 ++ (numsB [m.src, m.seq]) := by simp [unsB, tailB, hk]
    rw [u] at hl ⊢
    have r := wUns9_s m hm hl
    rwa [kind_eta m hk] at r
  · have u : unsB m = encI 10 ++ (numsB [m.src] ++ certB m.cert ++ byF m.state) := by simp [unsB, tailB, hk]
    rw [u] at hl ⊢
    have r := wUns10_s m hm hl
    rwa [kind_eta m hk] at r
  · have u : unsB m = encI 11 ++ (numsB [m.client] ++ byF m.topic ++ numsB [m.offset]) := by simp [unsB, tailB, hk]
    rw [u] at hl ⊢
    have r := wUns11_s m hm hl
    rwa [kind_eta m hk] at r
  · have u : unsB m = encI 12 ++ (numsB [m.src] ++ proofB m.proof) := by simp [unsB, tailB, hk]
    rw [u] at hl ⊢
    have r := wUns12_s m hm hl
    rwa [kind_eta m hk] at r
end Go.Proofs.YteaggenihhaajaaGreat

/- The asker of package message over data: names, certificates, prepared batches, changes, proofs, votes, new views. -/
namespace Go.Proofs.YteaggenihhaajaaGreat
open Go.RowKit
set_option linter.unusedVariables false
set_option maxRecDepth 20000

theorem name_s [Wd] (s : List UInt8) (hs : s.length ≤ 4194304) : FnP Tryz.prog 320 [.str s] (.bool (nameF s)) :=
  FnS.old (v := .bool (nameF s)) (fun _ _ => .bool _) (by kernel_rfl) (fun w I vs hv => by
    obtain ⟨v, rfl, h⟩ := hv.one_inv
    cases h
    exact name_c w s hs) rfl
theorem cBatch_s [Wd] (l : List SignedD) (hl : (dL dSigned).ok l) : FnP Tryz.prog 216 [.list 9 (l.map cSigned)] (.int .i64 (batchE l)) :=
  FnS.old (v := .int .i64 (batchE l)) (fun _ _ => .int _ _) (by kernel_rfl) (fun w I vs hv => by
    obtain ⟨v, rfl, h⟩ := Drs.one_inv hv
    exact batchE_c ((LkL LkSigned).of hv hl)) rfl
theorem askName_s [Wd] (s : List UInt8) (hs : s.length ≤ 4194304) : FnAsk 314 [.str s] (nameE s) := by
  intro e
  refine mkS 9 [] Tryz.func314 rfl (by kernel_rfl) ?_
  repeat'
    (conv => arg 2; whnf)
    first
    | refine okBrT ?_
    | refine okBrF ?_
    | refine okBr (fun h => ?_) (fun h => ?_)
    | refine okFn (name_s s hs) rfl (Cos.refl _) ?_
    | refine okAskr 0 (says_s _) ⟨⟨rfl, rfl⟩, trivial⟩ (Cos.refl _) rfl ?_
    | refine endAsk [0] (.inl rfl) rfl rfl ⟨⟨rfl, rfl⟩, trivial⟩ ⟨⟨rfl, rfl⟩, trivial⟩ (.refl _) ?_
  all_goals simp_all [nameE, orE_z]
theorem askCert_s [Wd] (c : CertD) (hc : dCert.ok c) : FnAsk 256 [.agg (cCert c)] (certE c) := by
  intro e
  refine mkS 36 [] Tryz.func256 rfl (by kernel_rfl) ?_
  repeat'
    (conv => arg 2; whnf)
    first
    | refine okBrT ?_
    | refine okBrF ?_
    | refine okBr (fun h => ?_) (fun h => ?_)
    | refine okAsk (by kernel_rfl) ?_
    | refine okAskr 0 (askNum_s _) ⟨⟨rfl, rfl⟩, trivial⟩ (Cos.refl _) rfl ?_
    | refine okAskr 0 (says_s _) ⟨⟨rfl, rfl⟩, trivial⟩ (Cos.refl _) rfl ?_
    | refine okAskr 0 (askSigns_s c.signs hc.2.2.1) ⟨⟨rfl, rfl⟩, trivial⟩ (Cos.refl _) rfl ?_
    | refine endAsk [0] (.inl rfl) rfl rfl ⟨⟨rfl, rfl⟩, trivial⟩ ⟨⟨rfl, rfl⟩, trivial⟩ (.refl _) ?_
  all_goals
    simp only [certE, orE_assoc]
    by_cases h1 : c.seq = 0 <;> by_cases h2 : c.digest = 0 <;> by_cases h3 : 0 < c.signs.length <;> simp_all [z_orE, show ∀ a b : Int, (a == b) = decide (a = b) from fun _ _ => rfl]
theorem askPrep_s [Wd] (p : PreparedD) (hp : dPrepared.ok p) : FnAsk 310 [.agg (cPrepared p)] (prepE p) := by
  intro e
  refine mkS 30 [] Tryz.func310 rfl (by kernel_rfl) ?_
  repeat'
    (conv => arg 2; whnf)
    first
    | refine okAsk (by kernel_rfl) ?_
    | refine okAskr 0 (askNum_s _) ⟨⟨rfl, rfl⟩, trivial⟩ (Cos.refl _) rfl ?_
    | refine okAskr 0 (askPos_s _) ⟨⟨rfl, rfl⟩, trivial⟩ (Cos.refl _) rfl ?_
    | refine okAskr 0 (says_s _) ⟨⟨rfl, rfl⟩, trivial⟩ (Cos.refl _) rfl ?_
    | refine okAskr 0 (askSigns_s p.signs hp.2.2.2.2.1.1) ⟨⟨rfl, rfl⟩, trivial⟩ (Cos.refl _) rfl ?_
    | refine okFn (cSign_s p.firstS) rfl (Cos.refl _) ?_
    | refine okFn (cBatch_s p.batch hp.2.2.2.2.2) rfl (Cos.refl _) ?_
    | refine endAsk [0] (.inl rfl) rfl rfl ⟨⟨rfl, rfl⟩, trivial⟩ ⟨⟨rfl, rfl⟩, trivial⟩ (.refl _) ?_
  all_goals simp only [prepE, orE_assoc]
theorem askVote_s [Wd] (m : MsgD) : FnAsk 312 [.agg (cMsg m)] (voteE m) := by
  intro e
  refine mkS 20 [] Tryz.func312 rfl (by kernel_rfl) ?_
  repeat'
    (conv => arg 2; whnf)
    first
    | refine okAskr 0 (askBroker_s _) ⟨⟨rfl, rfl⟩, trivial⟩ (Cos.refl _) rfl ?_
    | refine okAskr 0 (askNum_s _) ⟨⟨rfl, rfl⟩, trivial⟩ (Cos.refl _) rfl ?_
    | refine okAskr 0 (askPos_s _) ⟨⟨rfl, rfl⟩, trivial⟩ (Cos.refl _) rfl ?_
    | refine endAsk [0] (.inl rfl) rfl rfl ⟨⟨rfl, rfl⟩, trivial⟩ ⟨⟨rfl, rfl⟩, trivial⟩ (.refl _) ?_
  all_goals simp only [voteE, orE_assoc]
-- PRINTED by gen_ac.py
theorem askChange_s [Wd] (c : ChangeD) (hc : dChange.ok c) : FnAsk 259 [.agg (cChange c)] (chgE c) := by
  intro e
  refine mkS 39 [] Tryz.func259 rfl (by kernel_rfl) ?_
  repeat'
    (conv => arg 2; whnf)
    first
    | refine okAskr 0 (askPos_s _) ⟨⟨rfl, rfl⟩, trivial⟩ (Cos.refl _) rfl ?_
    | refine okAskr 0 (askBroker_s _) ⟨⟨rfl, rfl⟩, trivial⟩ (Cos.refl _) rfl ?_
    | refine okAskr 0 (askCert_s c.cert hc.2.2.1) ⟨⟨rfl, rfl⟩, trivial⟩ (Cos.refl _) rfl ?_
    | refine okAskr 0 (askMany_s _ _) ⟨⟨rfl, rfl⟩, trivial⟩ (Cos.refl _) rfl ?_
  conv => arg 2; whnf
  refine okLoop (α := Nat × Int) (fun a => ⟨[(26, .int .i64 a.1), (25, .int .i64 (c.above.map cPrepared).length), (24, .list 7 (c.above.map cPrepared)), (3, .ptr 1 0), (0, .ptr 0 0)], [.cells 324 [.int .i64 a.2], .cells 77 (cChange c)]⟩) (fun a => a.1 ≤ c.above.length ∧ a.2 = orE (orE (orE (orE (orE e (posE c.view)) (brokE c.src)) (certE c.cert)) (manyE c.above.length 8)) (listE prepE (c.above.take a.1))) (fun a => c.above.length - a.1) (0, orE (orE (orE (orE e (posE c.view)) (brokE c.src)) (certE c.cert)) (rangeE ((c.above.map cPrepared).length : Nat) 0 8)) ⟨Nat.zero_le _, by simp [listE, orE_z, manyE]⟩ (Sv.mk' [0, 1] rfl ⟨⟨rfl, rfl⟩, ⟨rfl, rfl⟩, trivial⟩ ⟨rfl, rfl, rfl, rfl, rfl, trivial⟩) ?_
  rintro ⟨q, e'⟩ ⟨hq, he⟩
  have hl : c.above.length ≤ 4194304 := hc.2.2.2.1.1
  repeat'
    (conv => arg 2; whnf)
    first
    | refine okBrT ?_
    | refine okBrF ?_
    | refine okBr (fun h => ?_) (fun h => ?_)
    | refine okNthMap (by simpa using h) (fun x hx => ?_)
    | refine okAskr 0 (askPrep_s x (hc.2.2.2.1.2 x (List.mem_of_getElem? hx))) ⟨⟨rfl, rfl⟩, trivial⟩ (Cos.refl _) rfl ?_
    | refine okFn (cSign_s c.sign) rfl (Cos.refl _) ?_
    | refine okAskr 0 (says_s _) ⟨⟨rfl, rfl⟩, trivial⟩ (Cos.refl _) rfl ?_
    | refine okWrap (w64 (by simp at h hq; omega) (by simp at h hq; omega)) ?_
    | refine okAgain (q + 1, _) (Sv.mk' [0, 1] rfl ⟨⟨rfl, rfl⟩, ⟨rfl, rfl⟩, trivial⟩ ⟨rfl, rfl, rfl, rfl, rfl, trivial⟩) ⟨?_, ?_⟩ ?_
    | refine okOut ?_
    | refine endAsk [0] (.inl rfl) rfl rfl ⟨⟨rfl, rfl⟩, trivial⟩ ⟨⟨rfl, rfl⟩, trivial⟩ (.refl _) ?_
  · show q + 1 ≤ c.above.length
    simp at h; omega
  · show orE e' (prepE x) = _
    rw [listE_at prepE hx, ← orE_assoc, ← he]
    try simp only [prepE, orE_assoc]
  · simp at h ⊢; omega
  · rw [he, show c.above.take q = c.above from List.take_of_length_le (by simp at h; omega)]
    simp only [chgE, orE_assoc]
theorem askNew_s [Wd] (m : MsgD) (hm : dMsg.ok m) : FnAsk 313 [.agg (cMsg m)] (newE m) := by
  intro e
  refine mkS 63 [] Tryz.func313 rfl (by kernel_rfl) ?_
  repeat'
    (conv => arg 2; whnf)
    first
    | refine okAskr 0 (askBroker_s _) ⟨⟨rfl, rfl⟩, trivial⟩ (Cos.refl _) rfl ?_
    | refine okAskr 0 (askPos_s _) ⟨⟨rfl, rfl⟩, trivial⟩ (Cos.refl _) rfl ?_
    | refine okAskr 0 (askMany_s _ _) ⟨⟨rfl, rfl⟩, trivial⟩ (Cos.refl _) rfl ?_
  conv => arg 2; whnf
  refine okLoop (α := Nat × Int) (fun a => ⟨[(24, .int .i64 a.1), (23, .int .i64 (m.changes.map cChange).length), (22, .list 8 (m.changes.map cChange)), (3, .ptr 1 0), (0, .ptr 0 0)], [.cells 324 [.int .i64 a.2], .cells 122 (cMsg m)]⟩) (fun a => a.1 ≤ m.changes.length ∧ a.2 = orE (orE (orE (orE e (brokE m.src)) (posE m.view)) (manyE m.changes.length 13)) (listE chgE (m.changes.take a.1))) (fun a => m.changes.length - a.1) (0, orE (orE (orE e (brokE m.src)) (posE m.view)) (rangeE ((m.changes.map cChange).length : Nat) 0 13)) ⟨Nat.zero_le _, by simp [listE, orE_z, manyE]⟩ (Sv.mk' [0, 1] rfl ⟨⟨rfl, rfl⟩, ⟨rfl, rfl⟩, trivial⟩ ⟨rfl, rfl, rfl, rfl, rfl, trivial⟩) ?_
  rintro ⟨q, e'⟩ ⟨hq, he⟩
  have hl : m.changes.length ≤ 4194304 := hm.2.2.2.2.2.2.2.2.2.2.1.1
  repeat'
    (conv => arg 2; whnf)
    first
    | refine okBrT ?_
    | refine okBrF ?_
    | refine okBr (fun h => ?_) (fun h => ?_)
    | refine okNthMap (by simpa using h) (fun x hx => ?_)
    | refine okAskr 0 (askChange_s x (hm.2.2.2.2.2.2.2.2.2.2.1.2 x (List.mem_of_getElem? hx))) ⟨⟨rfl, rfl⟩, trivial⟩ (Cos.refl _) rfl ?_
    | refine okAskr 0 (askMany_s _ _) ⟨⟨rfl, rfl⟩, trivial⟩ (Cos.refl _) rfl ?_
    | refine okWrap (w64 (by simp at h hq; omega) (by simp at h hq; omega)) ?_
    | refine okAgain (q + 1, _) (Sv.mk' [0, 1] rfl ⟨⟨rfl, rfl⟩, ⟨rfl, rfl⟩, trivial⟩ ⟨rfl, rfl, rfl, rfl, rfl, trivial⟩) ⟨?_, ?_⟩ ?_
    | refine okOut ?_
  · show q + 1 ≤ m.changes.length
    simp at h; omega
  · show orE e' (chgE x) = _
    rw [listE_at chgE hx, ← orE_assoc, ← he]
    try simp only [chgE, orE_assoc]
  · simp at h ⊢; omega
  rw [show m.changes.take q = m.changes from List.take_of_length_le (by simp at h; omega)] at he
  replace he : e' = _ := he
  clear hq h hl
  generalize hE : e' = e1 at he
  clear hE e'
  conv => arg 2; whnf
  refine okLoop (α := Nat × Int) (fun a => ⟨[(40, .int .i64 a.1), (39, .int .i64 (m.entries.map cEntry).length), (38, .list 5 (m.entries.map cEntry)), (3, .ptr 1 0), (0, .ptr 0 0)], [.cells 324 [.int .i64 a.2], .cells 122 (cMsg m)]⟩) (fun a => a.1 ≤ m.entries.length ∧ a.2 = orE (orE (e1) (manyE m.entries.length 8)) (listE entryE (m.entries.take a.1))) (fun a => m.entries.length - a.1) (0, orE (e1) (rangeE ((m.entries.map cEntry).length : Nat) 0 8)) ⟨Nat.zero_le _, by simp [listE, orE_z, manyE]⟩ (Sv.mk' [0, 1] rfl ⟨⟨rfl, rfl⟩, ⟨rfl, rfl⟩, trivial⟩ ⟨rfl, rfl, rfl, rfl, rfl, trivial⟩) ?_
  rintro ⟨q, e'⟩ ⟨hq, he2⟩
  have hl : m.entries.length ≤ 4194304 := hm.2.2.2.2.2.2.2.2.2.2.2.1.1
  repeat'
    (conv => arg 2; whnf)
    first
    | refine okBrT ?_
    | refine okBrF ?_
    | refine okBr (fun h => ?_) (fun h => ?_)
    | refine okNthMap (by simpa using h) (fun x hx => ?_)
    | refine okAskr 0 (askNum_s _) ⟨⟨rfl, rfl⟩, trivial⟩ (Cos.refl _) rfl ?_
    | refine okAskr 0 (askPos_s _) ⟨⟨rfl, rfl⟩, trivial⟩ (Cos.refl _) rfl ?_
    | refine okFn (cBatch_s x.batch (hm.2.2.2.2.2.2.2.2.2.2.2.1.2 x (List.mem_of_getElem? hx)).2.2.1) rfl (Cos.refl _) ?_
    | refine okFn (cSign_s x.sign) rfl (Cos.refl _) ?_
    | refine okAskr 0 (says_s _) ⟨⟨rfl, rfl⟩, trivial⟩ (Cos.refl _) rfl ?_
    | refine okWrap (w64 (by simp at h hq; omega) (by simp at h hq; omega)) ?_
    | refine okAgain (q + 1, orE (orE (orE (orE e' (numE x.view)) (posE x.seq)) (batchE x.batch)) (signE x.sign)) (Sv.mk' [0, 1] rfl ⟨⟨rfl, rfl⟩, ⟨rfl, rfl⟩, trivial⟩ ⟨rfl, rfl, rfl, rfl, rfl, trivial⟩) ⟨?_, ?_⟩ ?_
    | refine okOut ?_
    | refine endAsk [0] (.inl rfl) rfl rfl ⟨⟨rfl, rfl⟩, trivial⟩ ⟨⟨rfl, rfl⟩, trivial⟩ (.refl _) ?_
  · show q + 1 ≤ m.entries.length
    simp at h; omega
  · show orE (orE (orE (orE e' (numE x.view)) (posE x.seq)) (batchE x.batch)) (signE x.sign) = _
    rw [listE_at entryE hx, ← orE_assoc, ← he2]
    try simp only [entryE, orE_assoc]
  · simp at h ⊢; omega
  · rw [he2, show m.entries.take q = m.entries from List.take_of_length_le (by simp at h; omega), he]
    simp only [newE, orE_assoc]
end Go.Proofs.YteaggenihhaajaaGreat

/- The asker of package message over proofs and messages (printed by gen_ad.py). -/
namespace Go.Proofs.YteaggenihhaajaaGreat
open Go.RowKit
set_option linter.unusedVariables false
set_option maxRecDepth 20000

theorem wrapE (a i c : Int) : orE (orE a (rangeE c 0 16)) (rangeE i 0 (IntKind.i64.wrap (c - 1))) = orE (orE a (rangeE c 0 16)) (rangeE i 0 (c - 1)) := by
  by_cases h : 0 ≤ c ∧ c ≤ 16
  · rw [w64 (by omega) (by omega)]
  · have h0 : rangeE c 0 16 ≠ 0 := by unfold rangeE; split <;> omega
    have h1 : orE a (rangeE c 0 16) ≠ 0 := by unfold orE; split <;> assumption
    have h2 : ∀ x, orE (orE a (rangeE c 0 16)) x = orE a (rangeE c 0 16) := fun x => by rw [orE, if_neg h1]
    rw [h2, h2]
theorem askProof_s [Wd] (p : ProofD) (hp : dProof.ok p) : FnAsk 315 [.agg (cProof p)] (proofE p) := by
  intro e
  refine mkS 93 [] Tryz.func315 rfl (by kernel_rfl) ?_
  repeat'
    (conv => arg 2; whnf)
    first
    | refine okAskr 0 (askName_s p.topic hp.1) ⟨⟨rfl, rfl⟩, trivial⟩ (Cos.refl _) rfl ?_
    | refine okAskr 0 (askNum_s _) ⟨⟨rfl, rfl⟩, trivial⟩ (Cos.refl _) rfl ?_
    | refine okAskr 0 (askMany_s _ _) ⟨⟨rfl, rfl⟩, trivial⟩ (Cos.refl _) rfl ?_
  conv => arg 2; whnf
  refine okLoop (α := Nat × Int) (fun a => ⟨[(31, .int .i64 a.1), (30, .int .i64 (p.headers.map cHeader).length), (29, .list 5 (p.headers.map cHeader)), (3, .ptr 1 0), (0, .ptr 0 0)], [.cells 324 [.int .i64 a.2], .cells 120 (cProof p)]⟩) (fun a => a.1 ≤ p.headers.length ∧ a.2 = orE (orE (orE (orE (orE e (nameE p.topic)) (numE p.offset)) (rangeE ((p.record.map cByte).length : Nat) 0 64)) (manyE p.headers.length 64)) (listE headE (p.headers.take a.1))) (fun a => p.headers.length - a.1) (0, orE (orE (orE (orE e (nameE p.topic)) (numE p.offset)) (rangeE ((p.record.map cByte).length : Nat) 0 64)) (rangeE ((p.headers.map cHeader).length : Nat) 0 64)) ⟨Nat.zero_le _, by simp [listE, orE_z, manyE]⟩ (Sv.mk' [0, 1] rfl ⟨⟨rfl, rfl⟩, ⟨rfl, rfl⟩, trivial⟩ ⟨rfl, rfl, rfl, rfl, rfl, trivial⟩) ?_
  rintro ⟨q, e'⟩ ⟨hq, he⟩
  have hl : p.headers.length ≤ 4194304 := hp.2.2.2.1.1
  repeat'
    (conv => arg 2; whnf)
    first
    | refine okBrT ?_
    | refine okBrF ?_
    | refine okBr (fun h => ?_) (fun h => ?_)
    | refine okNthMap (by simpa using h) (fun x hx => ?_)
    | refine okAskr 0 (askPos_s _) ⟨⟨rfl, rfl⟩, trivial⟩ (Cos.refl _) rfl ?_
    | refine okAskr 0 (askNum_s _) ⟨⟨rfl, rfl⟩, trivial⟩ (Cos.refl _) rfl ?_
    | refine okAskr 0 (askMany_s _ _) ⟨⟨rfl, rfl⟩, trivial⟩ (Cos.refl _) rfl ?_
    | refine okAskr 0 (ask_s _ _ _) ⟨⟨rfl, rfl⟩, trivial⟩ (Cos.refl _) rfl ?_
    | refine okOut ?_
    | refine okRaw ?_
  case refine_1 =>
    have hh := h
    clear h
    conv => arg 2; whnf
    refine okLoop (α := Nat × Int) (fun a => ⟨[(49, .int .i64 a.1), (48, .int .i64 ([x.prev, x.batch, x.root, x.state].map cNum).length), (47, .list 1 ([x.prev, x.batch, x.root, x.state].map cNum)), (31, .int .i64 q), (30, .int .i64 (p.headers.map cHeader).length), (29, .list 5 (p.headers.map cHeader)), (3, .ptr 1 0), (0, .ptr 0 0)], [.cells 324 [.int .i64 a.2], .cells 120 (cProof p)]⟩) (fun a => a.1 ≤ 4 ∧ a.2 = orE (orE e' (posE x.seq)) (listE numE ([x.prev, x.batch, x.root, x.state].take a.1))) (fun a => 4 - a.1) (0, orE e' (posE x.seq)) ⟨Nat.zero_le _, by simp [listE, orE_z]⟩ (Sv.mk' [0, 1] rfl ⟨⟨rfl, rfl⟩, ⟨rfl, rfl⟩, trivial⟩ ⟨rfl, rfl, rfl, rfl, rfl, rfl, rfl, rfl, trivial⟩) ?_
    rintro ⟨i, e2⟩ ⟨hi, he2⟩
    repeat'
      (conv => arg 2; whnf)
      first
      | refine okBrT ?_
      | refine okBrF ?_
      | refine okBr (fun h => ?_) (fun h => ?_)
      | refine okNthMap (by simp at h ⊢; omega) (fun y hy => ?_)
      | refine okAskr 0 (askNum_s _) ⟨⟨rfl, rfl⟩, trivial⟩ (Cos.refl _) rfl ?_
      | refine okWrap (w64 (by simp at h hi; omega) (by simp at h hi; omega)) ?_
      | refine okAgain (i + 1, _) (Sv.mk' [0, 1] rfl ⟨⟨rfl, rfl⟩, ⟨rfl, rfl⟩, trivial⟩ ⟨rfl, rfl, rfl, rfl, rfl, rfl, rfl, rfl, trivial⟩) ⟨?_, ?_⟩ ?_
      | refine okOut ?_
      | refine okWrap (w64 (by simp at hh hq; omega) (by simp at hh hq; omega)) ?_
      | refine okAgain (q + 1, _) (Sv.mk' [0, 1] rfl ⟨⟨rfl, rfl⟩, ⟨rfl, rfl⟩, trivial⟩ ⟨rfl, rfl, rfl, rfl, rfl, trivial⟩) ⟨?_, ?_⟩ ?_
    · show i + 1 ≤ 4
      simp at h; omega
    · show orE e2 (numE y) = _
      rw [listE_at numE hy, ← orE_assoc, ← he2]
    · simp at h ⊢; omega
    · show q + 1 ≤ p.headers.length
      simp at hh; omega
    · show e2 = _
      rw [show i = 4 by simp at h hi; omega] at he2
      have he3 : e2 = orE (orE e' (posE x.seq)) (listE numE [x.prev, x.batch, x.root, x.state]) := he2
      rw [listE_at headE hx, ← orE_assoc, ← he, he3]
      simp only [headE, listE, orE_z, orE_assoc]
    · simp at hh ⊢; omega
  rw [show p.headers.take q = p.headers from List.take_of_length_le (by simp at h; omega)] at he
  replace he : e' = _ := he
  clear hq h hl
  generalize hE : e' = e1 at he
  clear hE e'
  conv => arg 2; whnf
  refine okLoop (α := Nat × Int) (fun a => ⟨[(81, .int .i64 a.1), (80, .int .i64 (p.path.map cNum).length), (79, .list 1 (p.path.map cNum)), (3, .ptr 1 0), (0, .ptr 0 0)], [.cells 324 [.int .i64 a.2], .cells 120 (cProof p)]⟩) (fun a => a.1 ≤ p.path.length ∧ a.2 = orE (orE (orE (orE (orE e1 (numE p.index)) (rangeE p.count 0 16)) (rangeE p.index 0 (IntKind.i64.wrap (p.count - 1)))) (rangeE ((p.path.map cNum).length : Nat) 0 8)) (listE numE (p.path.take a.1))) (fun a => p.path.length - a.1) (0, orE (orE (orE (orE e1 (numE p.index)) (rangeE p.count 0 16)) (rangeE p.index 0 (IntKind.i64.wrap (p.count - 1)))) (rangeE ((p.path.map cNum).length : Nat) 0 8)) ⟨Nat.zero_le _, by simp [listE, orE_z]⟩ (Sv.mk' [0, 1] rfl ⟨⟨rfl, rfl⟩, ⟨rfl, rfl⟩, trivial⟩ ⟨rfl, rfl, rfl, rfl, rfl, trivial⟩) ?_
  rintro ⟨q, e'⟩ ⟨hq, he2⟩
  have hl : p.path.length ≤ 4194304 := hp.2.2.2.2.2.2.1.1
  repeat'
    (conv => arg 2; whnf)
    first
    | refine okBrT ?_
    | refine okBrF ?_
    | refine okBr (fun h => ?_) (fun h => ?_)
    | refine okNthMap (by simpa using h) (fun x hx => ?_)
    | refine okAskr 0 (askNum_s _) ⟨⟨rfl, rfl⟩, trivial⟩ (Cos.refl _) rfl ?_
    | refine okAskr 0 (askCert_s p.cert hp.2.2.2.2.2.2.2) ⟨⟨rfl, rfl⟩, trivial⟩ (Cos.refl _) rfl ?_
    | refine okWrap (w64 (by simp at h hq; omega) (by simp at h hq; omega)) ?_
    | refine okAgain (q + 1, _) (Sv.mk' [0, 1] rfl ⟨⟨rfl, rfl⟩, ⟨rfl, rfl⟩, trivial⟩ ⟨rfl, rfl, rfl, rfl, rfl, trivial⟩) ⟨?_, ?_⟩ ?_
    | refine okOut ?_
    | refine endAsk [0] (.inl rfl) rfl rfl ⟨⟨rfl, rfl⟩, trivial⟩ ⟨⟨rfl, rfl⟩, trivial⟩ (.refl _) ?_
  · show q + 1 ≤ p.path.length
    simp at h; omega
  · show orE e' (numE x) = _
    rw [listE_at numE hx, ← orE_assoc, ← he2]
    try simp only [numE, orE_assoc]
  · simp at h ⊢; omega
  · rw [he2, wrapE, show p.path.take q = p.path from List.take_of_length_le (by simp at h; omega), he]
    simp only [proofE, manyE, List.length_map, orE_assoc]
end Go.Proofs.YteaggenihhaajaaGreat

/- The asker of package message over messages; message.bare; message.Check (printed by gen_ae.py). -/
namespace Go.Proofs.YteaggenihhaajaaGreat
open Go.RowKit
set_option linter.unusedVariables false
set_option maxRecDepth 20000

theorem okLt [Wd] {P : Program} {Q : Exit → S → Prop} {a b : Nat} {t f : T} (h1 : a < b → t.ok P Q) (h2 : b ≤ a → f.ok P Q) : (T.br (decide ((a : Int) < (b : Int))) t f).ok P Q :=
  ⟨fun h => h1 (by simpa using h), fun h => h2 (by simpa using h)⟩
theorem signed_s [Wd] (k : Int) : FnP Tryz.prog 228 [.int .i64 k] (.bool (signedK k)) :=
  FnS.old (v := .bool (signedK k)) (fun _ _ => .bool _) (by kernel_rfl) (fun w I vs hv => by
    obtain ⟨v, rfl, h⟩ := hv.one_inv
    cases h
    exact mSigned_c) rfl
set_option maxHeartbeats 4000000 in
theorem askMsg_s [Wd] (m : MsgD) (hm : dMsg.ok m) : FnAsk 261 [.agg (cMsg m)] (msgE m) := by
  intro e
  refine mkS 174 [] Tryz.func261 rfl (by kernel_rfl) ?_
  repeat'
    first
    | (rintro ⟨q, e'⟩ ⟨hq, he⟩)
    | ((conv => arg 2; whnf)
       first
       | refine okBrT ?_
       | refine okBrF ?_
       | refine okLt (fun hlt => ?_) (fun hge => ?_)
       | refine okBr (fun h => ?_) (fun h => ?_)
       | refine okNthMap (by simpa using hlt) (fun x hx => ?_)
       | refine okAskr 0 (ask_s _ _ _) ⟨⟨rfl, rfl⟩, trivial⟩ (Cos.refl _) rfl ?_
       | refine okAskr 0 (askNum_s _) ⟨⟨rfl, rfl⟩, trivial⟩ (Cos.refl _) rfl ?_
       | refine okAskr 0 (askPos_s _) ⟨⟨rfl, rfl⟩, trivial⟩ (Cos.refl _) rfl ?_
       | refine okAskr 0 (askBroker_s _) ⟨⟨rfl, rfl⟩, trivial⟩ (Cos.refl _) rfl ?_
       | refine okAskr 0 (askMany_s _ _) ⟨⟨rfl, rfl⟩, trivial⟩ (Cos.refl _) rfl ?_
       | refine okAskr 0 (says_s _) ⟨⟨rfl, rfl⟩, trivial⟩ (Cos.refl _) rfl ?_
       | refine okAskr 0 (askVote_s m) ⟨⟨rfl, rfl⟩, trivial⟩ (Cos.refl _) rfl ?_
       | refine okAskr 0 (askNew_s m hm) ⟨⟨rfl, rfl⟩, trivial⟩ (Cos.refl _) rfl ?_
       | refine okAskr 0 (askCert_s m.cert hm.2.2.2.2.2.2.2.2.2.1) ⟨⟨rfl, rfl⟩, trivial⟩ (Cos.refl _) rfl ?_
       | refine okAskr 0 (askProof_s m.proof hm.2.2.2.2.2.2.2.2.2.2.2.2.2.2.2.1) ⟨⟨rfl, rfl⟩, trivial⟩ (Cos.refl _) rfl ?_
       | refine okAskr 0 (askName_s m.topic hm.2.2.2.2.2.2.2.2.2.2.2.2.2.1) ⟨⟨rfl, rfl⟩, trivial⟩ (Cos.refl _) rfl ?_
       | refine okAskr 0 (askChange_s x (hm.2.2.2.2.2.2.2.2.2.2.1.2 x (List.mem_of_getElem? hx))) ⟨⟨rfl, rfl⟩, trivial⟩ (Cos.refl _) rfl ?_
       | refine okFn (signed_s _) rfl (Cos.refl _) ?_
       | refine okFn (cSign_s m.sign) rfl (Cos.refl _) ?_
       | refine okFn (cBatch_s m.batch hm.2.2.2.2.2.2.2.2.1) rfl (Cos.refl _) ?_
       | refine okWrap (w64 (by simp at hlt hq; omega) (by have := hm.2.2.2.2.2.2.2.2.2.2.1.1; simp at hlt hq this; omega)) ?_
       | refine okAgain (q + 1, orE (orE e' (chgE x)) 100) (Sv.mk' [0, 1] rfl ⟨⟨rfl, rfl⟩, ⟨rfl, rfl⟩, trivial⟩ ⟨rfl, rfl, rfl, rfl, rfl, trivial⟩) ⟨?_, ?_⟩ ?_
       | refine okAgain (q + 1, orE e' (chgE x)) (Sv.mk' [0, 1] rfl ⟨⟨rfl, rfl⟩, ⟨rfl, rfl⟩, trivial⟩ ⟨rfl, rfl, rfl, rfl, rfl, trivial⟩) ⟨?_, ?_⟩ ?_
       | refine okOut ?_
       | refine okLoop (α := Nat × Int) (fun a => ⟨[(90, .int .i64 a.1), (89, .int .i64 (m.changes.map cChange).length), (88, .list 8 (m.changes.map cChange)), (3, .ptr 1 0), (0, .ptr 0 0)], [.cells 324 [.int .i64 a.2], .cells 122 (cMsg m)]⟩) (fun a => a.1 ≤ m.changes.length ∧ a.2 = orE (orE e (rangeE ((m.changes.map cChange).length : Nat) 1 1)) (listE (viewE m) (m.changes.take a.1))) (fun a => m.changes.length - a.1) (0, orE e (rangeE ((m.changes.map cChange).length : Nat) 1 1)) ⟨Nat.zero_le _, by simp [listE, orE_z]⟩ (Sv.mk' [0, 1] rfl ⟨⟨rfl, rfl⟩, ⟨rfl, rfl⟩, trivial⟩ ⟨rfl, rfl, rfl, rfl, rfl, trivial⟩) ?_
       | refine endAsk [0] (.inl rfl) rfl rfl ⟨⟨rfl, rfl⟩, trivial⟩ ⟨⟨rfl, rfl⟩, trivial⟩ (.refl _) ?_
      )
  all_goals first
    | (show q + 1 ≤ m.changes.length; simp at hlt; omega)
    | (show m.changes.length - (q + 1) < m.changes.length - q; simp at hlt; omega)
    | (show orE (orE e' (chgE x)) 100 = _; rw [listE_at (viewE m) hx, ← orE_assoc, ← he]; clear he; simp_all [viewE, orE_assoc])
    | (show orE e' (chgE x) = _; rw [listE_at (viewE m) hx, ← orE_assoc, ← he]; clear he; simp_all [viewE, orE_z])
    | (rw [he, List.take_of_length_le (by simpa using hge)]; clear he; simp_all [msgE, kindE, signedK, orE_assoc, orE_z])
    | simp_all [msgE, kindE, signedK, manyE, orE_assoc, orE_z]
end Go.Proofs.YteaggenihhaajaaGreat

/- message.bare. -/
namespace Go.Proofs.YteaggenihhaajaaGreat
open Go.RowKit
set_option linter.unusedVariables false
set_option maxRecDepth 20000

set_option maxHeartbeats 2000000 in
theorem bare_s [Wd] (x : MsgD) : FnP Tryz.prog 262 [.agg (cMsg x)] (.agg (cMsg (bareF x))) := by
  refine mkS 114 [] Tryz.func262 rfl (by kernel_rfl) ?_
  repeat'
    (conv => arg 2; whnf)
    first
    | refine okBrT ?_
    | refine okBrF ?_
    | refine okBr (fun h => ?_) (fun h => ?_)
    | refine okAsk (by kernel_rfl) ?_
    | refine okFn (signed_s _) rfl (Cos.refl _) ?_
  all_goals (refine endFn0 (.inr rfl) rfl (Cos.mkAgg ?_) rfl)
  all_goals simp only [beq_iff_eq, beq_eq_false_iff_ne, ne_eq] at *
  all_goals simp_all [bareF, signedK, cMsg, zMsg]
  all_goals (repeat' first | exact Cos.nil | exact Co.refl _ | exact Co.nil _ | refine Cos.cons ?_ ?_)
end Go.Proofs.YteaggenihhaajaaGreat

/- message.Check over data, and back. -/
namespace Go.Proofs.YteaggenihhaajaaGreat
open Go.RowKit
set_option linter.unusedVariables false
set_option maxRecDepth 20000

theorem zMsg_ok : dMsg.ok zMsg := by
  simp [dMsg, dResult, dCert, dProof, dSign, dM, dP, dI, dS, dY, dL, zMsg, zResult, zCert, zProof, zSign]
theorem okIte {P : MsgD → Prop} {c : Prop} [Decidable c] {a b : MsgD} (h1 : P a) (h2 : P b) : P (if c then a else b) := by
  by_cases h : c
  · rw [if_pos h]; exact h1
  · rw [if_neg h]; exact h2
set_option maxHeartbeats 2000000 in
theorem bare_ok {m : MsgD} (hm : dMsg.ok m) : dMsg.ok (bareF m) := by
  obtain ⟨h1, h2, h3, h4, h5, h6, h7, h8, h9, h10, h11, h12, h13, h14, h15, h16, h17⟩ := hm
  obtain ⟨z1, z2, z3, z4, z5, z6, z7, z8, z9, z10, z11, z12, z13, z14, z15, z16, z17⟩ := zMsg_ok
  have hs : dSign.ok (if signedK m.kind then m.sign else zSign) := by split; exact h17; exact z17
  unfold bareF
  simp only
  generalize (if signedK m.kind = true then m.sign else zSign) = s at hs ⊢
  repeat' refine okIte (P := dMsg.ok) ?_ ?_
  all_goals exact ⟨h1, by first | exact h2 | exact z2, by first | exact h3 | exact z3, by first | exact h4 | exact z4, by first | exact h5 | exact z5, by first | exact h6 | exact z6, by first | exact h7 | exact z7, by first | exact h8 | exact z8, by first | exact h9 | exact z9, by first | exact h10 | exact z10, by first | exact h11 | exact z11, by first | exact h12 | exact z12, by first | exact h13 | exact z13, by first | exact h14 | exact z14, by first | exact h15 | exact z15, by first | exact h16 | exact z16, hs⟩
theorem checkE_b (x : MsgD) : checkE x = if (msgE x == 0) && !eqB x (bareF x) then 100 else msgE x := by
  unfold checkE
  by_cases h1 : msgE x = 0 <;> by_cases h2 : x = bareF x
  · rw [if_neg (fun h => h.2 h2), eqB_true h2]; simp
  · rw [if_pos ⟨h1, h2⟩, eqB_false h2]; simp [h1]
  · rw [if_neg (fun h => h1 h.1)]; simp [h1]
  · rw [if_neg (fun h => h1 h.1)]; simp [h1]
theorem check_s [Wd] (m : MsgD) (hm : dMsg.ok m) : FnP Tryz.prog 225 [.agg (cMsg m)] (.int .i64 (checkE m)) := by
  refine mkS 18 [] Tryz.func225 rfl (by kernel_rfl) ?_
  repeat'
    (conv => arg 2; whnf)
    first
    | refine okBrT ?_
    | refine okBrF ?_
    | refine okBr (fun h => ?_) (fun h => ?_)
    | refine okAsk (by kernel_rfl) ?_
    | refine okAskr 1 (askMsg_s m hm) ⟨⟨rfl, rfl⟩, trivial⟩ (Cos.refl _) rfl ?_
    | refine okFn (bare_s m) rfl (Cos.refl _) ?_
    | refine okFn (mSame_s m (bareF m) hm (bare_ok hm)) rfl (Cos.refl _) ?_
    | refine endInt (.inr rfl) rfl ?_
  all_goals rw [checkE_b]
  all_goals simp_all [z_orE]
end Go.Proofs.YteaggenihhaajaaGreat

/- message.Bytes over data (printed by gen_an.py). -/
namespace Go.Proofs.YteaggenihhaajaaGreat
open Go.RowKit
set_option linter.unusedVariables false
set_option maxRecDepth 20000

theorem okWr1 [Wd] {Q : Exit → S → Prop} {f : FuncId} {ar ar' : List D} {add bs : List UInt8} {hb : List AO} {c : D → List AO → T} (hF : FnW f ar add) (hl : (bs ++ add).length + 200 ≤ big) (hv : vwP hb [1] [1] (oW bs)) (hc : Cos ar' (D.ren.rl [1] (.ptr 0 0 :: ar))) (hM : ([1].all fun o => (foot hb ar').elem o) = true) (k : (c (.tup []) (upH hb [1] (oW bs) (oW (bs ++ add)))).ok Tryz.prog Q) : (T.call f ar' hb c).ok Tryz.prog Q :=
  okCall [1] (hF bs hl) (.mk' rfl hv) hc hM k
theorem bytes7_s [Wd] (m : MsgD) (hm : dMsg.ok m) {c : ChangeD} (h7 : m.changes[0]? = some c) (hk : (m.kind == 7) = true) (h0 : checkE m = 0) (hk0 : kindE m = 0) (hl : (unsB m).length + 300 ≤ big) (hb : ¬ 262144 < (unsB m ++ signP c.sign).length) : FnP Tryz.prog 164 [.agg (cMsg m)] (.tup [.list 1 ((unsB m ++ signP c.sign).map cByte), .int .i64 0]) := by
  refine mkS 39 [] Tryz.func164 rfl (by kernel_rfl) ?_
  repeat'
    (conv => arg 2; whnf)
    first
    | refine okAsk (by kernel_rfl) ?_
    | refine okBrT ?_
    | refine okBrF ?_
    | refine okBr (fun h => ?_) (fun h => ?_)
    | refine okFn (check_s m hm) rfl (Cos.refl _) ?_
    | refine okCall [1] (wUns_s m hm hk0 (by omega)) (.mk' rfl ⟨⟨rfl, rfl⟩, trivial⟩) (Cos.refl _) rfl ?_
    | refine okNth (cChange c) (by decide) (by simp [h7]) ?_
    | refine okFn (signed_s _) rfl (Cos.refl _) ?_
    | refine okWr1 (wSign_s c.sign) (by have := signP_l c.sign; rw [List.length_append]; omega) ⟨⟨rfl, rfl⟩, trivial⟩ (Cos.refl _) rfl ?_
    | refine okCall [1] (wShort_s (unsB m ++ signP c.sign) hb) (.mk' rfl ⟨⟨rfl, rfl⟩, trivial⟩) (Cos.refl _) rfl ?_
    | refine endFn0 (.inr rfl) rfl (.refl _) rfl
    | (exfalso; simp_all; done)
theorem bytes7L_s [Wd] (m : MsgD) (hm : dMsg.ok m) {c : ChangeD} (h7 : m.changes[0]? = some c) (hk : (m.kind == 7) = true) (h0 : checkE m = 0) (hk0 : kindE m = 0) (hl : (unsB m).length + 300 ≤ big) (hb : 262144 < (unsB m ++ signP c.sign).length) : FnP Tryz.prog 164 [.agg (cMsg m)] (.tup [.nils, .int .i64 3]) := by
  refine mkS 39 [] Tryz.func164 rfl (by kernel_rfl) ?_
  repeat'
    (conv => arg 2; whnf)
    first
    | refine okAsk (by kernel_rfl) ?_
    | refine okBrT ?_
    | refine okBrF ?_
    | refine okBr (fun h => ?_) (fun h => ?_)
    | refine okFn (check_s m hm) rfl (Cos.refl _) ?_
    | refine okCall [1] (wUns_s m hm hk0 (by omega)) (.mk' rfl ⟨⟨rfl, rfl⟩, trivial⟩) (Cos.refl _) rfl ?_
    | refine okNth (cChange c) (by decide) (by simp [h7]) ?_
    | refine okFn (signed_s _) rfl (Cos.refl _) ?_
    | refine okWr1 (wSign_s c.sign) (by have := signP_l c.sign; rw [List.length_append]; omega) ⟨⟨rfl, rfl⟩, trivial⟩ (Cos.refl _) rfl ?_
    | refine okCall [1] (wShortL_s (unsB m ++ signP c.sign) hb) (.mk' rfl ⟨⟨rfl, rfl⟩, trivial⟩) (Cos.refl _) rfl ?_
    | refine endFn0 (.inr rfl) rfl (.refl _) rfl
    | (exfalso; simp_all; done)
theorem bytesS_s [Wd] (m : MsgD) (hm : dMsg.ok m) (hk : (m.kind == 7) = false) (hs : signedK m.kind = true) (h0 : checkE m = 0) (hk0 : kindE m = 0) (hl : (unsB m).length + 300 ≤ big) (hb : ¬ 262144 < (unsB m ++ signP m.sign).length) : FnP Tryz.prog 164 [.agg (cMsg m)] (.tup [.list 1 ((unsB m ++ signP m.sign).map cByte), .int .i64 0]) := by
  refine mkS 39 [] Tryz.func164 rfl (by kernel_rfl) ?_
  repeat'
    (conv => arg 2; whnf)
    first
    | refine okAsk (by kernel_rfl) ?_
    | refine okBrT ?_
    | refine okBrF ?_
    | refine okBr (fun h => ?_) (fun h => ?_)
    | refine okFn (check_s m hm) rfl (Cos.refl _) ?_
    | refine okCall [1] (wUns_s m hm hk0 (by omega)) (.mk' rfl ⟨⟨rfl, rfl⟩, trivial⟩) (Cos.refl _) rfl ?_
    | refine okFn (signed_s _) rfl (Cos.refl _) ?_
    | refine okWr1 (wSign_s m.sign) (by have := signP_l m.sign; rw [List.length_append]; omega) ⟨⟨rfl, rfl⟩, trivial⟩ (Cos.refl _) rfl ?_
    | refine okCall [1] (wShort_s (unsB m ++ signP m.sign) hb) (.mk' rfl ⟨⟨rfl, rfl⟩, trivial⟩) (Cos.refl _) rfl ?_
    | refine endFn0 (.inr rfl) rfl (.refl _) rfl
    | (exfalso; simp_all; done)
theorem bytesSL_s [Wd] (m : MsgD) (hm : dMsg.ok m) (hk : (m.kind == 7) = false) (hs : signedK m.kind = true) (h0 : checkE m = 0) (hk0 : kindE m = 0) (hl : (unsB m).length + 300 ≤ big) (hb : 262144 < (unsB m ++ signP m.sign).length) : FnP Tryz.prog 164 [.agg (cMsg m)] (.tup [.nils, .int .i64 3]) := by
  refine mkS 39 [] Tryz.func164 rfl (by kernel_rfl) ?_
  repeat'
    (conv => arg 2; whnf)
    first
    | refine okAsk (by kernel_rfl) ?_
    | refine okBrT ?_
    | refine okBrF ?_
    | refine okBr (fun h => ?_) (fun h => ?_)
    | refine okFn (check_s m hm) rfl (Cos.refl _) ?_
    | refine okCall [1] (wUns_s m hm hk0 (by omega)) (.mk' rfl ⟨⟨rfl, rfl⟩, trivial⟩) (Cos.refl _) rfl ?_
    | refine okFn (signed_s _) rfl (Cos.refl _) ?_
    | refine okWr1 (wSign_s m.sign) (by have := signP_l m.sign; rw [List.length_append]; omega) ⟨⟨rfl, rfl⟩, trivial⟩ (Cos.refl _) rfl ?_
    | refine okCall [1] (wShortL_s (unsB m ++ signP m.sign) hb) (.mk' rfl ⟨⟨rfl, rfl⟩, trivial⟩) (Cos.refl _) rfl ?_
    | refine endFn0 (.inr rfl) rfl (.refl _) rfl
    | (exfalso; simp_all; done)
theorem bytesF_s [Wd] (m : MsgD) (hm : dMsg.ok m) (hk : (m.kind == 7) = false) (hs : signedK m.kind = false) (h0 : checkE m = 0) (hk0 : kindE m = 0) (hl : (unsB m).length + 300 ≤ big) (hb : ¬ 262144 < (unsB m).length) : FnP Tryz.prog 164 [.agg (cMsg m)] (.tup [.list 1 ((unsB m).map cByte), .int .i64 0]) := by
  refine mkS 39 [] Tryz.func164 rfl (by kernel_rfl) ?_
  repeat'
    (conv => arg 2; whnf)
    first
    | refine okAsk (by kernel_rfl) ?_
    | refine okBrT ?_
    | refine okBrF ?_
    | refine okBr (fun h => ?_) (fun h => ?_)
    | refine okFn (check_s m hm) rfl (Cos.refl _) ?_
    | refine okCall [1] (wUns_s m hm hk0 (by omega)) (.mk' rfl ⟨⟨rfl, rfl⟩, trivial⟩) (Cos.refl _) rfl ?_
    | refine okFn (signed_s _) rfl (Cos.refl _) ?_
    | refine okCall [1] (wShort_s (unsB m) hb) (.mk' rfl ⟨⟨rfl, rfl⟩, trivial⟩) (Cos.refl _) rfl ?_
    | refine endFn0 (.inr rfl) rfl (.refl _) rfl
    | (exfalso; simp_all; done)
theorem bytesFL_s [Wd] (m : MsgD) (hm : dMsg.ok m) (hk : (m.kind == 7) = false) (hs : signedK m.kind = false) (h0 : checkE m = 0) (hk0 : kindE m = 0) (hl : (unsB m).length + 300 ≤ big) (hb : 262144 < (unsB m).length) : FnP Tryz.prog 164 [.agg (cMsg m)] (.tup [.nils, .int .i64 3]) := by
  refine mkS 39 [] Tryz.func164 rfl (by kernel_rfl) ?_
  repeat'
    (conv => arg 2; whnf)
    first
    | refine okAsk (by kernel_rfl) ?_
    | refine okBrT ?_
    | refine okBrF ?_
    | refine okBr (fun h => ?_) (fun h => ?_)
    | refine okFn (check_s m hm) rfl (Cos.refl _) ?_
    | refine okCall [1] (wUns_s m hm hk0 (by omega)) (.mk' rfl ⟨⟨rfl, rfl⟩, trivial⟩) (Cos.refl _) rfl ?_
    | refine okFn (signed_s _) rfl (Cos.refl _) ?_
    | refine okCall [1] (wShortL_s (unsB m) hb) (.mk' rfl ⟨⟨rfl, rfl⟩, trivial⟩) (Cos.refl _) rfl ?_
    | refine endFn0 (.inr rfl) rfl (.refl _) rfl
    | (exfalso; simp_all; done)
theorem bytesNo_s [Wd] (m : MsgD) (hm : dMsg.ok m) (h0 : ¬ checkE m = 0) : FnP Tryz.prog 164 [.agg (cMsg m)] (.tup [.nils, .int .i64 (checkE m)]) := by
  refine mkS 39 [] Tryz.func164 rfl (by kernel_rfl) ?_
  repeat'
    (conv => arg 2; whnf)
    first
    | refine okAsk (by kernel_rfl) ?_
    | refine okBrT ?_
    | refine okBrF ?_
    | refine okBr (fun h => ?_) (fun h => ?_)
    | refine okFn (check_s m hm) rfl (Cos.refl _) ?_
    | refine endFn0 (.inr rfl) rfl (.refl _) rfl
    | (exfalso; simp_all; done)
end Go.Proofs.YteaggenihhaajaaGreat

/- What other layers make for a core's bytes, over data (printed by gen_dc.py): block.Check, block.Bytes, message.CheckCert, CheckChange, CertBytes, ChangeBytes, Bytes. -/
namespace Go.Proofs.YteaggenihhaajaaGreat
open Go.RowKit
set_option linter.unusedVariables false
set_option maxRecDepth 20000

/-- a header's numbers -/
def hNs (h : HeaderD) : List Int := [h.seq, h.prev, h.batch, h.root, h.state]
theorem hNs_ok {h : HeaderD} : hbE h = 0 ↔ ∀ n ∈ hNs h, nBad n = false := by
  rw [hbE_ok]
  unfold hdrOk hNs
  simp [nBad_ok]
theorem hbE_bad {h : HeaderD} {q : Nat} {x : Int} (hx : (hNs h)[q]? = some x) (hb : nBad x = true) : hbE h = 90 := by
  have h0 : ¬ hbE h = 0 := fun e => by
    have := hNs_ok.1 e x (List.mem_of_getElem? hx)
    rw [hb] at this
    cases this
  unfold hbE at h0 ⊢
  split at h0
  · rename_i h1; rw [if_pos h1]
  · exact absurd rfl h0
theorem bkCheck_s [Wd] (z : HeaderD) : FnP Tryz.prog 215 [.agg (cHeader z)] (.int .i64 (hbE z)) := by
  refine mkS 28 [] Tryz.func215 rfl (by kernel_rfl) ?_
  repeat'
    (conv => arg 2; whnf)
    first
    | refine okAsk (by kernel_rfl) ?_
  refine okLoop (α := Nat) (fun q => ⟨[(17, .int .i64 q), (16, .int .i64 (5 : Nat)), (15, .list 1 ((hNs z).map cNum))], []⟩) (fun q => q ≤ 5 ∧ ∀ n ∈ (hNs z).take q, nBad n = false) (fun q => 5 - q) 0 ⟨Nat.zero_le _, fun n hn => by simp at hn⟩ (Sv.mk' [] rfl trivial ⟨rfl, rfl, rfl, trivial⟩) ?_
  rintro q ⟨hq, he⟩
  replace hq : q ≤ 5 := hq
  replace he : ∀ n ∈ (hNs z).take q, nBad n = false := he
  have hlen : (hNs z).length = 5 := rfl
  repeat'
    (conv => arg 2; whnf)
    first
    | refine okAsk (by kernel_rfl) ?_
    | refine okBoth ?_ ?_
    | refine okBrT ?_
    | refine okBrF ?_
    | refine okBr (fun h => ?_) (fun h => ?_)
    | refine okNthMap (l := hNs z) (by simp at h; omega) (fun x hx => ?_)
    | refine okWrap (w64 (by omega) (by omega)) ?_
    | refine okAgain (q + 1) (Sv.mk' [] rfl trivial ⟨rfl, rfl, rfl, trivial⟩) ⟨by have := (List.getElem?_eq_some_iff.1 hx).1; show q + 1 ≤ 5; omega, fun n hn => by
        rw [List.take_add_one, hx] at hn
        rcases List.mem_append.1 hn with k | k
        · exact he n k
        · have e : n = x := by simpa using k
          subst e
          unfold nBad
          first
            | (simp_all; done)
            | (simp_all; omega)⟩ (by have := (List.getElem?_eq_some_iff.1 hx).1; show 5 - (q + 1) < 5 - q; omega)
    | refine okOut ?_
    | refine okRet ?_
    | (refine endInt (.inr rfl) rfl ?_; exact (hbE_bad hx (by unfold nBad; simp_all; done)).symm)
    | (refine endInt (.inr rfl) rfl ?_; exact (hNs_ok.2 (fun n hn => he n (by rwa [List.take_of_length_le (by simp at *; omega)]))).symm)
theorem bkBytesY_s [Wd] (z : HeaderD) (h0 : hbE z = 0) : FnP Tryz.prog 153 [.agg (cHeader z)] (.tup [.list 1 ((hdrB z).map cByte), .int .i64 0]) := by
  refine mkS 36 [] Tryz.func153 rfl (by kernel_rfl) ?_
  repeat'
    (conv => arg 2; whnf)
    first
    | refine okAsk (by kernel_rfl) ?_
    | refine okBoth ?_ ?_
    | refine okBrT ?_
    | refine okBrF ?_
    | refine okBr (fun h => ?_) (fun h => ?_)
    | refine okFn (bkCheck_s z) rfl (Cos.refl _) ?_
    | (exfalso; simp_all; done)
  refine okLoop (α := Nat × List UInt8) (fun a => ⟨[(26, .int .i64 a.1), (25, .int .i64 (5 : Nat)), (24, .list 1 ((hNs z).map cNum)), (5, .list 1 (a.2.map cByte))], []⟩) (fun a => a.1 ≤ 5 ∧ a.2 = 3 :: numsB ((hNs z).take a.1)) (fun a => 5 - a.1) (0, [3]) ⟨Nat.zero_le _, rfl⟩ (Sv.mk' [] rfl trivial ⟨rfl, rfl, rfl, rfl, trivial⟩) ?_
  rintro ⟨q, b2⟩ ⟨hq, he⟩
  replace hq : q ≤ 5 := hq
  replace he : b2 = 3 :: numsB ((hNs z).take q) := he
  have hlen : (hNs z).length = 5 := rfl
  have hb2 : b2.length + 200 ≤ big := by
    have := numsB_len ((hNs z).take q)
    rw [List.length_take] at this
    rw [he, List.length_cons]
    have : (200 : Nat) + 200 ≤ big := by decide
    omega
  repeat'
    (conv => arg 2; whnf)
    first
    | refine okAsk (by kernel_rfl) ?_
    | refine okBoth ?_ ?_
    | refine okBrT ?_
    | refine okBrF ?_
    | refine okBr (fun h => ?_) (fun h => ?_)
    | refine okNthMap (l := hNs z) (by simp at h; omega) (fun x hx => ?_)
    | refine okFn (putNum_s b2 x (by omega)) rfl (Cos.refl _) ?_
    | refine okWrap (w64 (by omega) (by omega)) ?_
    | refine okRaw ?_
    | refine okAgain (q + 1, b2 ++ encI x) (Sv.mk' [] rfl trivial ⟨rfl, rfl, rfl, rfl, trivial⟩) ⟨by have := (List.getElem?_eq_some_iff.1 hx).1; show q + 1 ≤ 5; omega, by show b2 ++ encI x = _; rw [he, List.take_add_one, hx]; simp [numsB]⟩ (by have := (List.getElem?_eq_some_iff.1 hx).1; show 5 - (q + 1) < 5 - q; omega)
    | refine okOut ?_
    | refine okRet ?_
    | (have e : b2 = hdrB z := by (rw [he, List.take_of_length_le (by simp at h; omega)]; rfl)
       rw [e]; refine endFn0 (.inr rfl) rfl (.refl _) rfl)
theorem bkBytesN_s [Wd] (z : HeaderD) (h0 : ¬ hbE z = 0) : FnP Tryz.prog 153 [.agg (cHeader z)] (.tup [.nils, .int .i64 (hbE z)]) := by
  refine mkS 36 [] Tryz.func153 rfl (by kernel_rfl) ?_
  repeat'
    (conv => arg 2; whnf)
    first
    | refine okAsk (by kernel_rfl) ?_
    | refine okBoth ?_ ?_
    | refine okBrT ?_
    | refine okBrF ?_
    | refine okBr (fun h => ?_) (fun h => ?_)
    | refine okFn (bkCheck_s z) rfl (Cos.refl _) ?_
    | refine endFn0 (.inr rfl) rfl (.refl _) rfl
    | (exfalso; simp_all; done)
theorem mCheckCert_s [Wd] (z : CertD) (hz : dCert.ok z) : FnP Tryz.prog 218 [.agg (cCert z)] (.int .i64 (certE z)) := by
  refine mkS 8 [] Tryz.func218 rfl (by kernel_rfl) ?_
  repeat'
    (conv => arg 2; whnf)
    first
    | refine okAsk (by kernel_rfl) ?_
    | refine okBoth ?_ ?_
    | refine okBrT ?_
    | refine okBrF ?_
    | refine okBr (fun h => ?_) (fun h => ?_)
    | refine okAskr 1 (askCert_s z hz) ⟨⟨rfl, rfl⟩, trivial⟩ (Cos.refl _) rfl ?_
    | (refine endInt (.inr rfl) rfl ?_; exact z_orE _)
    | (exfalso; simp_all; done)
theorem mCertBytesY_s [Wd] (z : CertD) (hz : dCert.ok z) (h0 : certE z = 0) : FnP Tryz.prog 158 [.agg (cCert z)] (.tup [.list 1 ((certB z).map cByte), .int .i64 0]) := by
  have hl := certB_len h0
  have hB : ([] ++ certB z).length + 200 ≤ big := by
    have : (41100 : Nat) + 200 ≤ big := by decide
    rw [List.nil_append]; omega
  refine mkS 20 [] Tryz.func158 rfl (by kernel_rfl) ?_
  repeat'
    (conv => arg 2; whnf)
    first
    | refine okAsk (by kernel_rfl) ?_
    | refine okBoth ?_ ?_
    | refine okBrT ?_
    | refine okBrF ?_
    | refine okBr (fun h => ?_) (fun h => ?_)
    | refine okFn (mCheckCert_s z hz) rfl (Cos.refl _) ?_
    | refine okWeak 1 [.list 1 []] rfl (Cos.cons (.nil _) .nil) rfl rfl ?_
    | refine okWr1 (bs := []) (wCert_s z hz) hB ⟨⟨rfl, rfl⟩, trivial⟩ (Cos.refl _) rfl ?_
    | refine okCall [1] (wShort_s ([] ++ certB z) (by rw [List.nil_append]; omega)) (.mk' rfl ⟨⟨rfl, rfl⟩, trivial⟩) (Cos.refl _) rfl ?_
    | refine endFn0 (.inr rfl) rfl (.refl _) rfl
    | (exfalso; simp_all; done)
theorem mCertBytesN_s [Wd] (z : CertD) (hz : dCert.ok z) (h0 : ¬ certE z = 0) : FnP Tryz.prog 158 [.agg (cCert z)] (.tup [.nils, .int .i64 (certE z)]) := by
  refine mkS 20 [] Tryz.func158 rfl (by kernel_rfl) ?_
  repeat'
    (conv => arg 2; whnf)
    first
    | refine okAsk (by kernel_rfl) ?_
    | refine okBoth ?_ ?_
    | refine okBrT ?_
    | refine okBrF ?_
    | refine okBr (fun h => ?_) (fun h => ?_)
    | refine okFn (mCheckCert_s z hz) rfl (Cos.refl _) ?_
    | refine endFn0 (.inr rfl) rfl (.refl _) rfl
    | (exfalso; simp_all; done)
theorem mCheckChange_s [Wd] (z : ChangeD) (hz : dChange.ok z) : FnP Tryz.prog 223 [.agg (cChange z)] (.int .i64 (chgE z)) := by
  refine mkS 8 [] Tryz.func223 rfl (by kernel_rfl) ?_
  repeat'
    (conv => arg 2; whnf)
    first
    | refine okAsk (by kernel_rfl) ?_
    | refine okBoth ?_ ?_
    | refine okBrT ?_
    | refine okBrF ?_
    | refine okBr (fun h => ?_) (fun h => ?_)
    | refine okAskr 1 (askChange_s z hz) ⟨⟨rfl, rfl⟩, trivial⟩ (Cos.refl _) rfl ?_
    | (refine endInt (.inr rfl) rfl ?_; exact z_orE _)
    | (exfalso; simp_all; done)
theorem mChangeBytesY_s [Wd] (z : ChangeD) (hz : dChange.ok z) (h0 : chgE z = 0) : FnP Tryz.prog 163 [.agg (cChange z)] (.tup [.list 1 ((chgB z).map cByte), .int .i64 0]) := by
  have hl := chgB_len h0
  have hB : ([] ++ chgB z).length + 200 ≤ big := by
    have : (41100 : Nat) + 200 ≤ big := by decide
    rw [List.nil_append]; omega
  refine mkS 20 [] Tryz.func163 rfl (by kernel_rfl) ?_
  repeat'
    (conv => arg 2; whnf)
    first
    | refine okAsk (by kernel_rfl) ?_
    | refine okBoth ?_ ?_
    | refine okBrT ?_
    | refine okBrF ?_
    | refine okBr (fun h => ?_) (fun h => ?_)
    | refine okFn (mCheckChange_s z hz) rfl (Cos.refl _) ?_
    | refine okWeak 1 [.list 1 []] rfl (Cos.cons (.nil _) .nil) rfl rfl ?_
    | refine okWr1 (bs := []) (wChange_s z hz) hB ⟨⟨rfl, rfl⟩, trivial⟩ (Cos.refl _) rfl ?_
    | refine okCall [1] (wShort_s ([] ++ chgB z) (by rw [List.nil_append]; omega)) (.mk' rfl ⟨⟨rfl, rfl⟩, trivial⟩) (Cos.refl _) rfl ?_
    | refine endFn0 (.inr rfl) rfl (.refl _) rfl
    | (exfalso; simp_all; done)
theorem mChangeBytesN_s [Wd] (z : ChangeD) (hz : dChange.ok z) (h0 : ¬ chgE z = 0) : FnP Tryz.prog 163 [.agg (cChange z)] (.tup [.nils, .int .i64 (chgE z)]) := by
  refine mkS 20 [] Tryz.func163 rfl (by kernel_rfl) ?_
  repeat'
    (conv => arg 2; whnf)
    first
    | refine okAsk (by kernel_rfl) ?_
    | refine okBoth ?_ ?_
    | refine okBrT ?_
    | refine okBrF ?_
    | refine okBr (fun h => ?_) (fun h => ?_)
    | refine okFn (mCheckChange_s z hz) rfl (Cos.refl _) ?_
    | refine endFn0 (.inr rfl) rfl (.refl _) rfl
    | (exfalso; simp_all; done)
noncomputable def msgX (m : MsgD) : D := if bytesE m = 0 then .tup [.list 1 ((fullB m).map cByte), .int .i64 0] else .tup [.nils, .int .i64 (bytesE m)]
theorem mBytes_s [Wd] (m : MsgD) (hm : dMsg.ok m) : FnP Tryz.prog 164 [.agg (cMsg m)] (msgX m) := by
  unfold msgX bytesE
  by_cases h0 : checkE m = 0
  · have hk0 : kindE m = 0 := by
      have := (checkE_ok h0).1
      unfold msgE at this
      exact (orE_zero.1 this).1
    have hl : (unsB m).length + 300 ≤ big := by
      have := unsB_len hk0
      have : (1000000 : Nat) + 300 ≤ big := by decide
      omega
    cases h7 : m.kind == 7 with
    | true =>
      have k7 : m.kind = 7 := by simpa using h7
      have hc : m.changes.length = 1 := by
        have h := hk0
        unfold kindE at h
        rw [k7] at h
        simp [orE_zero] at h
        have := rangeE_ok.1 h.1
        omega
      obtain ⟨c, hc⟩ := one_of hc
      have ef : fullB m = unsB m ++ signP c.sign := by unfold fullB; rw [if_pos k7, hc]
      have hc0 : m.changes[0]? = some c := by rw [hc]; rfl
      rw [ef]
      by_cases hb : 262144 < (unsB m ++ signP c.sign).length
      · rw [if_pos h0, if_pos hb, if_neg (by decide)]; exact bytes7L_s m hm hc0 h7 h0 hk0 hl hb
      · rw [if_pos h0, if_neg hb, if_pos rfl]; exact bytes7_s m hm hc0 h7 h0 hk0 hl hb
    | false =>
      have k7 : ¬ m.kind = 7 := by simpa using h7
      cases hs : signedK m.kind with
      | true =>
        have ef : fullB m = unsB m ++ signP m.sign := by unfold fullB; rw [if_neg k7, if_pos hs]
        rw [ef]
        by_cases hb : 262144 < (unsB m ++ signP m.sign).length
        · rw [if_pos h0, if_pos hb, if_neg (by decide)]; exact bytesSL_s m hm h7 hs h0 hk0 hl hb
        · rw [if_pos h0, if_neg hb, if_pos rfl]; exact bytesS_s m hm h7 hs h0 hk0 hl hb
      | false =>
        have ef : fullB m = unsB m := by unfold fullB; rw [if_neg k7, if_neg (by rw [hs]; simp), List.append_nil]
        rw [ef]
        by_cases hb : 262144 < (unsB m).length
        · rw [if_pos h0, if_pos hb, if_neg (by decide)]; exact bytesFL_s m hm h7 hs h0 hk0 hl hb
        · rw [if_pos h0, if_neg hb, if_pos rfl]; exact bytesF_s m hm h7 hs h0 hk0 hl hb
  · rw [if_neg h0, if_neg h0]; exact bytesNo_s m hm h0
theorem mBytesY_s [Wd] (m : MsgD) (hm : dMsg.ok m) (h : bytesE m = 0) : FnP Tryz.prog 164 [.agg (cMsg m)] (.tup [.list 1 ((fullB m).map cByte), .int .i64 0]) := by
  have := mBytes_s m hm
  unfold msgX at this
  rwa [if_pos h] at this
theorem mBytesN_s [Wd] (m : MsgD) (hm : dMsg.ok m) (h : ¬ bytesE m = 0) : FnP Tryz.prog 164 [.agg (cMsg m)] (.tup [.nils, .int .i64 (bytesE m)]) := by
  have := mBytes_s m hm
  unfold msgX at this
  rwa [if_neg h] at this
end Go.Proofs.YteaggenihhaajaaGreat
