/- Lemmas and contracts, part 16. -/
import Derived.Test.YteaggenihhaajaaGreatZg15
import Derived.Deep.Light
import Derived.Lib.ConvBytes
import Derived.Deep.RegionHeld3
/- Operations: op.Check is the plain 'opE'. -/
namespace Go.Proofs.YteaggenihhaajaaGreat
open Go.RowKit Go.Deep
set_option linter.unusedVariables false

set_option maxRecDepth 20000 in
set_option maxHeartbeats 4000000 in
theorem opE_c {inn : Nat → Prop} {w : World} {cs : List Value} {a : OpD} (h : tOp.rd inn w cs a) :
    Calls Tryz.prog 302 #[.agg cs.toArray] w fun e w' => e = .returned (.int .i64 (opE a)) ∧ B w w' := by
  have HR := Lib.hid (fun w' (hb : B w w') => tOp.later h hb)
  obtain ⟨v5, rfl, a1, a2, a3, a4, a5⟩ := tOp.parts h
  have HE := Lib.hid (show opE a = _ from rfl)
  have HN := Lib.hid (fun w' => name_c w' a.topic a2)
  have HG := Lib.hid (fun w' => name_c w' a.group a3)
  have HC := Lib.hid (fun (w' : World) (hb : B w w') => show Calls Tryz.prog 331 #[v5, .func (.func 330) #[] #[]] w' fun e w'' => e = .returned (.bool (longF a)) ∧ w' = w'' from contains_c ((tL tY).later a5 hb))
  obtain ⟨A5, c5, e5, l5⟩ := tL.slice a5
  injection e5 with e5 _
  subst e5
  have HS := Lib.hid (aBlk.new (St.nil w) 80 #[.int .i64 a.kind, .string (bstr a.topic), .string (bstr a.group), .int .i64 a.offset, .slice A5 a.records.length c5])
  have HK := Lib.hid (show kindOk a = decide (0 ≤ a.kind ∧ a.kind ≤ 4) from rfl)
  obtain ⟨oo, ho⟩ : ∃ oo, onlyF a = oo := ⟨_, rfl⟩
  have HO := Lib.hid (fun (w' : World) (hb : B w w') => show Calls Tryz.prog 329 #[.agg #[.int .i64 a.kind, .string (bstr a.topic), .string (bstr a.group), .int .i64 a.offset, .slice A5 a.records.length c5]] w' fun e w'' => ∃ ds : List Value, e = .returned (.tuple #[.agg ds.toArray, .bool (kindOk a)]) ∧ tOp.rd inn w'' ds oo ∧ B w' w'' from by
    rw [← ho]
    exact only_c (HR.out _ hb))
  clear h a5 a2 a3
  go_enter Tryz.func302, Tryz.ntmps302
  go_wp2_with (first
    | (go_at_call 329; (with_reducible refine callsM (HO.out _ BB.out) ?_); rintro e w1 ⟨ds, rfl, hd, hb⟩; have HD := Lib.hid (fun w' (hb : B w1 w') => tOp.later hd hb); obtain ⟨d5, rfl, _, _, _, _, d5r⟩ := tOp.parts hd; obtain ⟨B5, k5, e5, _⟩ := tL.slice d5r; injection e5 with e5 _; subst e5; replace HS := Lib.hid (HS.out.on.later hb); have KG := (aBlk.get HS.out).cell; have KL := (aBlk.get HS.out).lt; clear hd hb)
    | (go_at_call 133; (with_reducible refine callsM (oSame_c (HR.out _ HS.out.on.b) (HD.out _ BB.out)) ?_); rintro e w2 ⟨rfl, hb⟩; replace HS := Lib.hid (HS.out.on.later hb); replace KG := (aBlk.get HS.out).cell; replace KL := (aBlk.get HS.out).lt; clear hb)
    | (go_at_call 320; (with_reducible refine callsM (HN.out _) ?_); rintro e w3 ⟨rfl, hb⟩; replace HS := Lib.hid (HS.out.on.later hb); replace KG := (aBlk.get HS.out).cell; replace KL := (aBlk.get HS.out).lt; clear hb)
    | (go_at_call 320; (with_reducible refine callsM (HG.out _) ?_); rintro e w3 ⟨rfl, hb⟩; replace HS := Lib.hid (HS.out.on.later hb); replace KG := (aBlk.get HS.out).cell; replace KL := (aBlk.get HS.out).lt; clear hb)
    | (go_at_call 331; (with_reducible refine callsM (HC.out _ HS.out.on.b) ?_); rintro e w3 ⟨rfl, rfl⟩))
  all_goals go_ret
  all_goals refine ⟨?_, HS.out.on.b⟩
  all_goals
    go_light
    clear HN HG HR HC HK HO HD HS KG d5r
    refine congrArg (fun z => Ending.returned (Value.int .i64 z)) (?_ : _ = opE a)
    unfold opE
    rw [ho]
    generalize a.records.length = n at *
    generalize longF a = lf at *
    simp_all
    try (first | omega | (split <;> first | omega | (simp_all; omega)) | (intros; exfalso; simp_all; omega))
end Go.Proofs.YteaggenihhaajaaGreat

/- Texts turned into bytes; codec.PutNum of a number that is none below; op.Put. -/
namespace Go.Proofs.YteaggenihhaajaaGreat
open Go.RowKit Go.Deep
set_option linter.unusedVariables false

theorem bytesWorld_B (w : World) (e : TypeId) (s : ByteArray) : B w (Lib.bytesWorld w e s) :=
  ⟨rfl, rfl, rfl, by rw [Lib.bytesWorld_size]; omega, fun j hj => Lib.bytesWorld_at_old w e s j hj⟩
instance BB.bytesW (w w' : World) (e : TypeId) (s : ByteArray) [h : BB w w'] : BB w (Lib.bytesWorld w' e s) := ⟨h.out.trans (bytesWorld_B _ _ _)⟩
/-- a text's bytes -/
theorem conv_run (s : List UInt8) (w : World) : (convert 9 26 (.string (bstr s))).run Tryz.prog w = .ok (.slice (some ⟨w.heap.size, 0, none⟩) s.length (grownCap w s.length 0 5)) (Lib.bytesWorld w 5 (bstr s)) := by
  have hrun := Lib.run_convert_string_bytes (P := Tryz.prog) w 9 26 5 (bstr s) Tryz.underlying9 Tryz.underlying26 Tryz.underlying5
  rw [bstr_size s] at hrun
  exact hrun
theorem conv_Bs (s : List UInt8) (w : World) (hs : s.length ≤ 4194304) : Bs (Lib.bytesWorld w 5 (bstr s)) (.slice (some ⟨w.heap.size, 0, none⟩) s.length (grownCap w s.length 0 5)) s := by
  have hsz := bstr_size s
  refine ⟨⟨_, _, rfl, fun e => (by cases e), grownCap_ge _ _ _ _, grownCap_le_maxLen _ _ _ _ (by unfold maxLen; omega), fun ad had => ?_⟩, by unfold big; omega⟩
  cases had
  refine ⟨fun _ => by rw [Lib.bytesWorld_size]; simp, fun j u hu => ?_⟩
  have hj : j < s.length := by
    rcases Nat.lt_or_ge j s.length with h | h
    · exact h
    · rw [List.getElem?_eq_none (by rw [cellsB_len]; exact h)] at hu; cases hu
  rw [addr_at, Nat.zero_add, Lib.bytesWorld_cell w _ (bstr s) j (by rw [hsz]; exact hj), ← hu, cellsB_get s j hj]
  simp [bstr, hj]
theorem putN_c {w : World} {v : Value} {bs : List UInt8} (h : Bs w v bs) (k : Int) (hk : 0 ≤ k ∧ k < 18446744073709551616) (hl : bs.length + 10 ≤ big) : Calls Tryz.prog 151 #[v, .int .u64 k] w (Fresh w (bs ++ enc k.toNat)) := by
  have := putNum70 h k.toNat (by omega) hl
  rwa [Int.toNat_of_nonneg hk.1] at this
theorem byF_eq (bs x : List UInt8) : putB bs x = bs ++ byF x := by simp [putB, byF]
theorem St.toFresh {W w : World} {v : Value} {bs : List UInt8} {L : List Asn} (h : St W w (aBy v bs :: L)) : Fresh W bs (.returned v) w := by
  obtain ⟨own, hr, ho⟩ := h.get
  refine ⟨v, rfl, ⟨hr.1.1, ?_⟩, h.b⟩
  rcases hr.1.2 with h | ⟨g, cap, cur, hv, hg, r⟩
  · exact .inl h
  · exact .inr ⟨g, cap, cur, hv, (ho g (hr.2 g (by rw [hv]; rfl))).1, r⟩
theorem opE0 {o : OpD} (h : opE o = 0) : (0 ≤ o.kind ∧ o.kind ≤ 4) ∧ o = onlyF o ∧ (0 ≤ o.offset ∧ o.offset ≤ 9007199254740992) := by
  unfold opE at h
  split at h
  · cases h
  rename_i h1
  simp only [not_or, Bool.not_eq_false] at h1
  split at h
  · cases h
  split at h
  · cases h
  split at h
  · cases h
  split at h
  · cases h
  rename_i h5
  exact ⟨by have := h1.1; unfold kindOk at this; simpa using this, sameOp_iff.1 h1.2, by omega⟩
section
set_option maxRecDepth 20000
set_option maxHeartbeats 8000000
/-- op.Put of what may not be: the bytes anew -/
theorem opPut_bad {inn : Nat → Prop} {w : World} {v : Value} {bs : List UInt8} {cs : List Value} {a : OpD} (hb : Bs w v bs) (h : tOp.rd inn w cs a) (hne : opE a ≠ 0) :
    Calls Tryz.prog 332 #[v, .agg cs.toArray] w (Fresh w bs) := by
  have HR := Lib.hid (fun w' (hb : B w w') => tOp.later h hb)
  obtain ⟨v5, rfl, a1, a2, a3, a4, a5⟩ := tOp.parts h
  obtain ⟨A5, c5, e5, l5⟩ := tL.slice a5
  injection e5 with e5 _
  subst e5
  have HB := Lib.hid hb
  have HS := Lib.hid (aBlk.new (St.nil w) 80 #[.int .i64 a.kind, .string (bstr a.topic), .string (bstr a.group), .int .i64 a.offset, .slice A5 a.records.length c5])
  have g0 : (opE a != 0) = true := by simpa using hne
  clear h a5 a2 a3 hb hne
  go_enter Tryz.func332, Tryz.ntmps332
  go_wp2_with (first
    | (go_at_call 42; (with_reducible refine callsM (St.fresh HS.out.on (clone89 (HB.out.later HS.out.on.b))) ?_); rintro e w1 ⟨v1, rfl, hS⟩; replace HS := Lib.hid hS; clear hS; have KG := (aBlk.get HS.out.swap).cell)
    | (go_at_call 302; (with_reducible refine callsM (opE_c (HR.out _ HS.out.on.b)) ?_); rintro e w2 ⟨rfl, hb⟩; replace HS := Lib.hid (HS.out.on.later hb); clear hb; replace KG := (aBlk.get HS.out.swap).cell))
  go_ret
  exact HS.out.toFresh
end
set_option maxRecDepth 20000 in
set_option maxHeartbeats 8000000 in
theorem opPut0_c {inn : Nat → Prop} {w : World} {v : Value} {bs : List UInt8} {cs : List Value} {topic group : List UInt8} {offset : Int} {records : List (List UInt8)} (hb : Bs w v bs) (h : tOp.rd inn w cs ⟨0, topic, group, offset, records⟩) (h0 : opE ⟨0, topic, group, offset, records⟩ = 0)
    (hl : (bs ++ opB ⟨0, topic, group, offset, records⟩).length + 30 ≤ big) :
    Calls Tryz.prog 332 #[v, .agg cs.toArray] w (Fresh w (bs ++ opB ⟨0, topic, group, offset, records⟩)) := by
  have HR := Lib.hid (fun w' (hb : B w w') => tOp.later h hb)
  obtain ⟨v5, rfl, a1, a2, a3, a4, a5⟩ := tOp.parts h
  simp only at a2 a3 a4 a5
  have H5 := Lib.hid a5
  obtain ⟨A5, c5, e5, l5⟩ := tL.slice a5
  injection e5 with e5 _
  subst e5
  have HB := Lib.hid hb
  have HS := Lib.hid (aBlk.new (St.nil w) 80 #[.int .i64 0, .string (bstr topic), .string (bstr group), .int .i64 offset, .slice A5 records.length c5])
  have HT := Lib.hid a2
  have HGr := Lib.hid a3
  have hct := conv_run topic
  have hcg := conv_run group
  have HO0 := Lib.hid (show 0 ≤ offset ∧ offset ≤ 9007199254740992 from (opE0 h0).2.2)
  have HL := Lib.hid hl
  have hwo : IntKind.u64.wrap offset = offset := u64_id (by have := HO0.out; omega)
  have g0 : (opE ⟨0, topic, group, offset, records⟩ != 0) = false := by simp [h0]
  clear h a5 a2 a3 hb h0 hl a1 a4
  go_enter Tryz.func332, Tryz.ntmps332
  go_wp2_with (first
    | (go_at_call 42; (with_reducible refine callsM (St.fresh HS.out.on (clone89 (HB.out.later HS.out.on.b))) ?_); rintro e w1 ⟨v1, rfl, hS⟩; replace HS := Lib.hid hS; clear hS; have KG := (aBlk.get HS.out.swap).cell; have KL := (aBlk.get HS.out.swap).lt)
    | (go_at_call 302; (with_reducible refine callsM (opE_c (HR.out _ HS.out.on.b)) ?_); rintro e w2 ⟨rfl, hb⟩; replace HS := Lib.hid (HS.out.on.later hb); clear hb; replace KG := (aBlk.get HS.out.swap).cell; replace KL := (aBlk.get HS.out.swap).lt)
    | (go_at_call 151; (with_reducible refine callsM (St.fresh HS.out.on (putN_c (HS.out.on.byBs (by have := HL.out; simp [opB] at this ⊢; omega)) _ (by have := HO0.out; omega) (by have := HL.out; simp [opB] at this ⊢; omega))) ?_); rintro e w1 ⟨v1, rfl, hS⟩; replace HS := Lib.hid hS.drop2; clear hS; replace KG := (aBlk.get HS.out.swap).cell; replace KL := (aBlk.get HS.out.swap).lt)
    | (go_at_call 157; (with_reducible refine callsM (St.fresh HS.out.on (putBytes72 (HS.out.on.byBs (by have := HL.out; simp [opB, byF] at this ⊢; omega)) (conv_Bs topic _ HT.out) (by have := HL.out; simp [opB, byF] at this ⊢; omega))) ?_); rintro e w1 ⟨v1, rfl, hS⟩; replace HS := Lib.hid hS.drop2; clear hS; rw [byF_eq] at HS; replace KG := (aBlk.get HS.out.swap).cell; replace KL := (aBlk.get HS.out.swap).lt))
  go_ret
  have hS := HS.out.toFresh
  simpa [opB, byF, Int.toNat] using hS
set_option maxRecDepth 20000 in
set_option maxHeartbeats 8000000 in
theorem opPut1_c {inn : Nat → Prop} {w : World} {v : Value} {bs : List UInt8} {cs : List Value} {topic group : List UInt8} {offset : Int} {records : List (List UInt8)} (hb : Bs w v bs) (h : tOp.rd inn w cs ⟨1, topic, group, offset, records⟩) (h0 : opE ⟨1, topic, group, offset, records⟩ = 0)
    (hl : (bs ++ opB ⟨1, topic, group, offset, records⟩).length + 30 ≤ big) :
    Calls Tryz.prog 332 #[v, .agg cs.toArray] w (Fresh w (bs ++ opB ⟨1, topic, group, offset, records⟩)) := by
  have HR := Lib.hid (fun w' (hb : B w w') => tOp.later h hb)
  obtain ⟨v5, rfl, a1, a2, a3, a4, a5⟩ := tOp.parts h
  simp only at a2 a3 a4 a5
  have H5 := Lib.hid a5
  obtain ⟨A5, c5, e5, l5⟩ := tL.slice a5
  injection e5 with e5 _
  subst e5
  have HB := Lib.hid hb
  have HS := Lib.hid (aBlk.new (St.nil w) 80 #[.int .i64 1, .string (bstr topic), .string (bstr group), .int .i64 offset, .slice A5 records.length c5])
  have HT := Lib.hid a2
  have HGr := Lib.hid a3
  have hct := conv_run topic
  have hcg := conv_run group
  have HO0 := Lib.hid (show 0 ≤ offset ∧ offset ≤ 9007199254740992 from (opE0 h0).2.2)
  have HL := Lib.hid hl
  have hwo : IntKind.u64.wrap offset = offset := u64_id (by have := HO0.out; omega)
  have g0 : (opE ⟨1, topic, group, offset, records⟩ != 0) = false := by simp [h0]
  clear h a5 a2 a3 hb h0 hl a1 a4
  go_enter Tryz.func332, Tryz.ntmps332
  go_wp2_with (first
    | (go_at_call 42; (with_reducible refine callsM (St.fresh HS.out.on (clone89 (HB.out.later HS.out.on.b))) ?_); rintro e w1 ⟨v1, rfl, hS⟩; replace HS := Lib.hid hS; clear hS; have KG := (aBlk.get HS.out.swap).cell; have KL := (aBlk.get HS.out.swap).lt)
    | (go_at_call 302; (with_reducible refine callsM (opE_c (HR.out _ HS.out.on.b)) ?_); rintro e w2 ⟨rfl, hb⟩; replace HS := Lib.hid (HS.out.on.later hb); clear hb; replace KG := (aBlk.get HS.out.swap).cell; replace KL := (aBlk.get HS.out.swap).lt)
    | (go_at_call 151; (with_reducible refine callsM (St.fresh HS.out.on (putN_c (HS.out.on.byBs (by have := HL.out; simp [opB, byF] at this ⊢; omega)) _ (by have := HO0.out; omega) (by have := HL.out; simp [opB, byF] at this ⊢; omega))) ?_); rintro e w1 ⟨v1, rfl, hS⟩; replace HS := Lib.hid hS.drop2; clear hS; replace KG := (aBlk.get HS.out.swap).cell; replace KL := (aBlk.get HS.out.swap).lt)
    | (go_at_call 157; (with_reducible refine callsM (St.fresh HS.out.on (putBytes72 (HS.out.on.byBs (by have := HL.out; simp [opB, byF] at this ⊢; omega)) (conv_Bs topic _ HT.out) (by have := HL.out; simp [opB, byF] at this ⊢; omega))) ?_); rintro e w1 ⟨v1, rfl, hS⟩; replace HS := Lib.hid hS.drop2; clear hS; rw [byF_eq] at HS; replace KG := (aBlk.get HS.out.swap).cell; replace KL := (aBlk.get HS.out.swap).lt))
  go_ret
  have hS := HS.out.toFresh
  simpa [opB, byF, Int.toNat] using hS
set_option maxRecDepth 20000 in
set_option maxHeartbeats 8000000 in
theorem opPut4_c {inn : Nat → Prop} {w : World} {v : Value} {bs : List UInt8} {cs : List Value} {topic group : List UInt8} {offset : Int} {records : List (List UInt8)} (hb : Bs w v bs) (h : tOp.rd inn w cs ⟨4, topic, group, offset, records⟩) (h0 : opE ⟨4, topic, group, offset, records⟩ = 0)
    (hl : (bs ++ opB ⟨4, topic, group, offset, records⟩).length + 30 ≤ big) :
    Calls Tryz.prog 332 #[v, .agg cs.toArray] w (Fresh w (bs ++ opB ⟨4, topic, group, offset, records⟩)) := by
  have HR := Lib.hid (fun w' (hb : B w w') => tOp.later h hb)
  obtain ⟨v5, rfl, a1, a2, a3, a4, a5⟩ := tOp.parts h
  simp only at a2 a3 a4 a5
  have H5 := Lib.hid a5
  obtain ⟨A5, c5, e5, l5⟩ := tL.slice a5
  injection e5 with e5 _
  subst e5
  have HB := Lib.hid hb
  have HS := Lib.hid (aBlk.new (St.nil w) 80 #[.int .i64 4, .string (bstr topic), .string (bstr group), .int .i64 offset, .slice A5 records.length c5])
  have HT := Lib.hid a2
  have HGr := Lib.hid a3
  have hct := conv_run topic
  have hcg := conv_run group
  have HO0 := Lib.hid (show 0 ≤ offset ∧ offset ≤ 9007199254740992 from (opE0 h0).2.2)
  have HL := Lib.hid hl
  have hwo : IntKind.u64.wrap offset = offset := u64_id (by have := HO0.out; omega)
  have g0 : (opE ⟨4, topic, group, offset, records⟩ != 0) = false := by simp [h0]
  clear h a5 a2 a3 hb h0 hl a1 a4
  go_enter Tryz.func332, Tryz.ntmps332
  go_wp2_with (first
    | (go_at_call 42; (with_reducible refine callsM (St.fresh HS.out.on (clone89 (HB.out.later HS.out.on.b))) ?_); rintro e w1 ⟨v1, rfl, hS⟩; replace HS := Lib.hid hS; clear hS; have KG := (aBlk.get HS.out.swap).cell; have KL := (aBlk.get HS.out.swap).lt)
    | (go_at_call 302; (with_reducible refine callsM (opE_c (HR.out _ HS.out.on.b)) ?_); rintro e w2 ⟨rfl, hb⟩; replace HS := Lib.hid (HS.out.on.later hb); clear hb; replace KG := (aBlk.get HS.out.swap).cell; replace KL := (aBlk.get HS.out.swap).lt)
    | (go_at_call 151; (with_reducible refine callsM (St.fresh HS.out.on (putN_c (HS.out.on.byBs (by have := HL.out; simp [opB, byF] at this ⊢; omega)) _ (by have := HO0.out; omega) (by have := HL.out; simp [opB, byF] at this ⊢; omega))) ?_); rintro e w1 ⟨v1, rfl, hS⟩; replace HS := Lib.hid hS.drop2; clear hS; replace KG := (aBlk.get HS.out.swap).cell; replace KL := (aBlk.get HS.out.swap).lt)
    | (go_at_call 157; (with_reducible refine callsM (St.fresh HS.out.on (putBytes72 (HS.out.on.byBs (by have := HL.out; simp [opB, byF] at this ⊢; omega)) (conv_Bs topic _ HT.out) (by have := HL.out; simp [opB, byF] at this ⊢; omega))) ?_); rintro e w1 ⟨v1, rfl, hS⟩; replace HS := Lib.hid hS.drop2; clear hS; rw [byF_eq] at HS; replace KG := (aBlk.get HS.out.swap).cell; replace KL := (aBlk.get HS.out.swap).lt))
  go_ret
  have hS := HS.out.toFresh
  simpa [opB, byF, Int.toNat] using hS
set_option maxRecDepth 20000 in
set_option maxHeartbeats 8000000 in
theorem opPut3_c {inn : Nat → Prop} {w : World} {v : Value} {bs : List UInt8} {cs : List Value} {topic group : List UInt8} {offset : Int} {records : List (List UInt8)} (hb : Bs w v bs) (h : tOp.rd inn w cs ⟨3, topic, group, offset, records⟩) (h0 : opE ⟨3, topic, group, offset, records⟩ = 0)
    (hl : (bs ++ opB ⟨3, topic, group, offset, records⟩).length + 30 ≤ big) :
    Calls Tryz.prog 332 #[v, .agg cs.toArray] w (Fresh w (bs ++ opB ⟨3, topic, group, offset, records⟩)) := by
  have HR := Lib.hid (fun w' (hb : B w w') => tOp.later h hb)
  obtain ⟨v5, rfl, a1, a2, a3, a4, a5⟩ := tOp.parts h
  simp only at a2 a3 a4 a5
  have H5 := Lib.hid a5
  obtain ⟨A5, c5, e5, l5⟩ := tL.slice a5
  injection e5 with e5 _
  subst e5
  have HB := Lib.hid hb
  have HS := Lib.hid (aBlk.new (St.nil w) 80 #[.int .i64 3, .string (bstr topic), .string (bstr group), .int .i64 offset, .slice A5 records.length c5])
  have HT := Lib.hid a2
  have HGr := Lib.hid a3
  have hct := conv_run topic
  have hcg := conv_run group
  have HO0 := Lib.hid (show 0 ≤ offset ∧ offset ≤ 9007199254740992 from (opE0 h0).2.2)
  have HL := Lib.hid hl
  have hwo : IntKind.u64.wrap offset = offset := u64_id (by have := HO0.out; omega)
  have g0 : (opE ⟨3, topic, group, offset, records⟩ != 0) = false := by simp [h0]
  clear h a5 a2 a3 hb h0 hl a1 a4
  go_enter Tryz.func332, Tryz.ntmps332
  go_wp2_with (first
    | (go_at_call 42; (with_reducible refine callsM (St.fresh HS.out.on (clone89 (HB.out.later HS.out.on.b))) ?_); rintro e w1 ⟨v1, rfl, hS⟩; replace HS := Lib.hid hS; clear hS; have KG := (aBlk.get HS.out.swap).cell; have KL := (aBlk.get HS.out.swap).lt)
    | (go_at_call 302; (with_reducible refine callsM (opE_c (HR.out _ HS.out.on.b)) ?_); rintro e w2 ⟨rfl, hb⟩; replace HS := Lib.hid (HS.out.on.later hb); clear hb; replace KG := (aBlk.get HS.out.swap).cell; replace KL := (aBlk.get HS.out.swap).lt)
    | (go_at_call 151; (with_reducible refine callsM (St.fresh HS.out.on (putN_c (HS.out.on.byBs (by have := HL.out; simp [opB, byF] at this ⊢; omega)) _ (by have := HO0.out; omega) (by have := HL.out; simp [opB, byF] at this ⊢; omega))) ?_); rintro e w1 ⟨v1, rfl, hS⟩; replace HS := Lib.hid hS.drop2; clear hS; replace KG := (aBlk.get HS.out.swap).cell; replace KL := (aBlk.get HS.out.swap).lt)
    | (go_at_call 157; (with_reducible refine callsM (St.fresh HS.out.on (putBytes72 (HS.out.on.byBs (by have := HL.out; simp [opB, byF] at this ⊢; omega)) (conv_Bs topic _ HT.out) (by have := HL.out; simp [opB, byF] at this ⊢; omega))) ?_); rintro e w1 ⟨v1, rfl, hS⟩; replace HS := Lib.hid hS.drop2; clear hS; rw [byF_eq] at HS; replace KG := (aBlk.get HS.out.swap).cell; replace KL := (aBlk.get HS.out.swap).lt))
  have hbw2 := fun i => (Lib.bytesWorld_old w1.drew 5 (bstr group) ⟨w.heap.size, i, none⟩ KL).trans (KG i)
  go_region_with (first
    | (go_at_call 157; (with_reducible refine callsM (St.fresh HS.out.on (putBytes72 (HS.out.on.byBs (by have := HL.out; simp [opB, byF] at this ⊢; omega)) (conv_Bs group _ HGr.out) (by have := HL.out; simp [opB, byF] at this ⊢; omega))) ?_); rintro e w1 ⟨v1, rfl, hS⟩; replace HS := Lib.hid hS.drop2; clear hS; rw [byF_eq] at HS; replace KG := (aBlk.get HS.out.swap).cell; replace KL := (aBlk.get HS.out.swap).lt)
    | (go_at_call 151; (with_reducible refine callsM (St.fresh HS.out.on (putN_c (HS.out.on.byBs (by have := HL.out; simp [opB, byF] at this ⊢; omega)) _ (by have := HO0.out; omega) (by have := HL.out; simp [opB, byF] at this ⊢; omega))) ?_); rintro e w1 ⟨v1, rfl, hS⟩; replace HS := Lib.hid hS.drop2; clear hS; replace KG := (aBlk.get HS.out.swap).cell; replace KL := (aBlk.get HS.out.swap).lt))
  all_goals
    go_wp2
    go_ret
    have hS := HS.out.toFresh
    simpa [opB, byF, Int.toNat] using hS
end Go.Proofs.YteaggenihhaajaaGreat

/- op.Put of a publish; op.Put, op.Bytes whole. -/
namespace Go.Proofs.YteaggenihhaajaaGreat
open Go.RowKit Go.Deep
set_option linter.unusedVariables false

set_option maxRecDepth 20000 in
set_option maxHeartbeats 8000000 in
theorem opPut2_c {inn : Nat → Prop} {w : World} {v : Value} {bs : List UInt8} {cs : List Value} {topic group : List UInt8} {offset : Int} {records : List (List UInt8)} (hb : Bs w v bs) (h : tOp.rd inn w cs ⟨2, topic, group, offset, records⟩) (h0 : opE ⟨2, topic, group, offset, records⟩ = 0)
    (hl : (bs ++ opB ⟨2, topic, group, offset, records⟩).length + 30 ≤ big) :
    Calls Tryz.prog 332 #[v, .agg cs.toArray] w (Fresh w (bs ++ opB ⟨2, topic, group, offset, records⟩)) := by
  have HR := Lib.hid (fun w' (hb : B w w') => tOp.later h hb)
  obtain ⟨v5, rfl, a1, a2, a3, a4, a5⟩ := tOp.parts h
  simp only at a2 a3 a4 a5
  have H5 := Lib.hid a5
  obtain ⟨A5, c5, e5, l5⟩ := tL.slice a5
  injection e5 with e5 _
  subst e5
  have HB := Lib.hid hb
  have HS := Lib.hid (aBlk.new (St.nil w) 80 #[.int .i64 2, .string (bstr topic), .string (bstr group), .int .i64 offset, .slice A5 records.length c5])
  have HT := Lib.hid a2
  have HGr := Lib.hid a3
  have hct := conv_run topic
  have hcg := conv_run group
  have HO0 := Lib.hid (show 0 ≤ offset ∧ offset ≤ 9007199254740992 from (opE0 h0).2.2)
  have HL := Lib.hid hl
  have hwn : IntKind.u64.wrap (records.length : Int) = records.length := u64_id (by omega)
  have hwo : IntKind.u64.wrap offset = offset := u64_id (by have := HO0.out; omega)
  have g0 : (opE ⟨2, topic, group, offset, records⟩ != 0) = false := by simp [h0]
  clear h a5 a2 a3 hb h0 hl a1 a4
  go_enter Tryz.func332, Tryz.ntmps332
  go_wp2_with (first
    | (go_at_call 42; (with_reducible refine callsM (St.fresh HS.out.on (clone89 (HB.out.later HS.out.on.b))) ?_); rintro e w1 ⟨v1, rfl, hS⟩; replace HS := Lib.hid hS; clear hS; have KG := (aBlk.get HS.out.swap).cell; have KL := (aBlk.get HS.out.swap).lt)
    | (go_at_call 302; (with_reducible refine callsM (opE_c (HR.out _ HS.out.on.b)) ?_); rintro e w2 ⟨rfl, hb⟩; replace HS := Lib.hid (HS.out.on.later hb); clear hb; replace KG := (aBlk.get HS.out.swap).cell; replace KL := (aBlk.get HS.out.swap).lt)
    | (go_at_call 151; (with_reducible refine callsM (St.fresh HS.out.on (putN_c (HS.out.on.byBs (by have := HL.out; simp [opB, byF] at this ⊢; omega)) _ (by first | omega | (have := HO0.out; omega)) (by have := HL.out; simp [opB, byF] at this ⊢; omega))) ?_); rintro e w1 ⟨v1, rfl, hS⟩; replace HS := Lib.hid hS.drop2; clear hS; replace KG := (aBlk.get HS.out.swap).cell; replace KL := (aBlk.get HS.out.swap).lt)
    | (go_at_call 157; (with_reducible refine callsM (St.fresh HS.out.on (putBytes72 (HS.out.on.byBs (by have := HL.out; simp [opB, byF] at this ⊢; omega)) (conv_Bs topic _ HT.out) (by have := HL.out; simp [opB, byF] at this ⊢; omega))) ?_); rintro e w1 ⟨v1, rfl, hS⟩; replace HS := Lib.hid hS.drop2; clear hS; rw [byF_eq] at HS; replace KG := (aBlk.get HS.out.swap).cell; replace KL := (aBlk.get HS.out.swap).lt))
  have HQ := Lib.hid (show ∀ q, q < records.length → ((records.take q).flatMap byF).length + (byF (records[q]?.getD [])).length ≤ (records.flatMap byF).length from fun q hq => by
    have e := congrArg (fun l => (l.flatMap byF).length) (List.take_append_drop (q + 1) records)
    rw [List.take_succ_eq_append_getElem hq] at e
    simp only [List.flatMap_append, List.length_append, List.flatMap_cons, List.flatMap_nil, List.append_nil] at e
    rw [List.getElem?_eq_getElem hq]
    simp only [Option.getD_some]
    omega)
  go_loopw [5, 40] (fun v i wr => ∃ (q : Nat) (z : List UInt8), q ≤ records.length ∧ i = .int .i64 q ∧ Hid (z = bs ++ enc 2 ++ byF topic ++ enc records.length ++ (records.take q).flatMap byF) ∧ Hid (St w wr [aBy v z, aBlk w.heap.size 80 #[.int .i64 2, .string (bstr topic), .string (bstr group), .int .i64 offset, .slice A5 records.length c5]])) (fun _ i _ => records.length - (intOf i).toNat)
  case atStart =>
    exact ⟨0, bs ++ enc 2 ++ byF topic ++ enc records.length, Nat.zero_le _, rfl, Lib.hid (by simp), Lib.hid (by have hS := HS.out; simpa using hS)⟩
  case round =>
    obtain ⟨q, z, hq, rfl, HZ, HS⟩ := hrel
    by_cases hlt : q < records.length
    · obtain ⟨x, hx⟩ : ∃ x, records[q]? = some x := ⟨_, List.getElem?_eq_getElem hlt⟩
      obtain ⟨_, b, off, ds, rfl, r1, k1⟩ := tL.at H5.out hx
      obtain ⟨u1, rfl⟩ := len1 (tY.len r1)
      have d0 := B.cell HS.out.b (k1 0 _ rfl)
      simp only [show tY.n = 1 from rfl, Nat.mul_one, Nat.add_zero] at d0
      have HX := Lib.hid hx
      have HXB := Lib.hid (fun (w' : World) (hb : B w w') => (tY.bs r1).later hb)
      have hqi : (q : Int) < records.length := by omega
      have HZL := Lib.hid (show z.length + x.length + 20 ≤ big from by
        have h1 := HL.out
        have h2 := HQ.out q hlt
        rw [hx] at h2
        have h3 := congrArg List.length HZ.out
        have e : opB ⟨2, topic, group, offset, records⟩ = enc 2 ++ byF topic ++ (enc records.length ++ records.flatMap byF) := rfl
        have hx2 : (byF x).length = (enc x.length).length + x.length := by simp [byF]
        rw [e] at h1
        simp only [List.length_append, Option.getD_some] at h1 h2 h3
        omega)
      obtain ⟨A6, c6, rfl⟩ := (tY.bs r1).rd.slice
      clear r1 k1 hx
      go_wp2_with (first
        | (go_at_call 157; (with_reducible refine callsM (St.fresh HS.out.on (putBytes72 (HS.out.on.byBs (by have := HZL.out; omega)) (HXB.out _ HS.out.on.b) (by have := HZL.out; simp; omega))) ?_); rintro e w1 ⟨v1, rfl, hS⟩; replace HS := Lib.hid hS.drop2; clear hS; rw [byF_eq] at HS))
      go_roundw
      case rel =>
        refine ⟨q + 1, _, by omega, by go_num, ?_, HS.out⟩
        show z ++ byF x = _
        rw [HZ.out, List.take_add_one, HX.out]
        simp
      case measure => simp [intOf]; omega
    · have hqi : ¬ (q : Int) < records.length := by omega
      have HZ2 := Lib.hid (show z = bs ++ opB ⟨2, topic, group, offset, records⟩ from by
        rw [HZ.out, List.take_of_length_le (by omega)]
        simp [opB, byF])
      clear hlt hq
      go_wp2
      go_ret
      rw [← HZ2.out]
      exact HS.out.toFresh
theorem opPut_c {inn : Nat → Prop} {w : World} {v : Value} {bs : List UInt8} {cs : List Value} {a : OpD} (hb : Bs w v bs) (h : tOp.rd inn w cs a) (hl : (bs ++ opB a).length + 30 ≤ big) :
    Calls Tryz.prog 332 #[v, .agg cs.toArray] w (Fresh w (bs ++ if opE a = 0 then opB a else [])) := by
  by_cases h0 : opE a = 0
  · rw [if_pos h0]
    have hk := (opE0 h0).1
    obtain ⟨kind, topic, group, offset, records⟩ := a
    simp only at hk
    have hc : kind = 0 ∨ kind = 1 ∨ kind = 2 ∨ kind = 3 ∨ kind = 4 := by omega
    rcases hc with rfl | rfl | rfl | rfl | rfl
    · exact opPut0_c hb h h0 hl
    · exact opPut1_c hb h h0 hl
    · exact opPut2_c hb h h0 hl
    · exact opPut3_c hb h h0 hl
    · exact opPut4_c hb h h0 hl
  · rw [if_neg h0, List.append_nil]
    exact opPut_bad hb h h0
end Go.Proofs.YteaggenihhaajaaGreat

/- Requests and signatures: what may be. -/
namespace Go.Proofs.YteaggenihhaajaaGreat
open Go.RowKit Go.Deep
set_option linter.unusedVariables false

set_option maxRecDepth 20000 in
set_option maxHeartbeats 4000000 in
theorem signE_c {w : World} {k d : Int} : Calls Tryz.prog 221 #[.agg #[.int .i64 k, .int .i64 d]] w fun e w' => e = .returned (.int .i64 (signE ⟨k, d⟩)) ∧ B w w' := by
  go_enter Tryz.func221, Tryz.ntmps221
  go_wp2
  all_goals go_ret
  all_goals refine ⟨?_, BB.out⟩
  all_goals
    go_light
    refine congrArg (fun z => Ending.returned (Value.int .i64 z)) (?_ : _ = signE ⟨k, d⟩)
    unfold signE
    simp only
    split <;> first | rfl | (exfalso; omega)
set_option maxRecDepth 20000 in
set_option maxHeartbeats 4000000 in
theorem reqE_c {inn : Nat → Prop} {w : World} {cs : List Value} {a : RequestD} (h : tRequest.rd inn w cs a) :
    Calls Tryz.prog 254 #[.agg cs.toArray] w fun e w' => e = .returned (.int .i64 (reqE a)) ∧ B w w' := by
  obtain ⟨v, rfl, a1, a2, o1, o2, o3, o4, o5⟩ := tRequest.parts h
  have HC := Lib.hid (fun (w' : World) (hb : B w w') => opE_c (tOp.mk (s := a.op) o1 o2 o3 o4 ((tL tY).later o5 hb)))
  obtain ⟨A5, c5, e5, l5⟩ := tL.slice o5
  injection e5 with e5 _
  subst e5
  clear h o5 o2 o3
  go_enter Tryz.func254, Tryz.ntmps254
  go_wp2_with (first
    | (go_at_call 302; (with_reducible refine callsM (HC.out _ BB.out) ?_); rintro e w1 ⟨rfl, hb⟩; have HB := Lib.hid ((BB.out : B w _).trans hb); clear hb))
  all_goals go_ret
  all_goals refine ⟨?_, by first | exact HB.out | exact BB.out⟩
  all_goals
    go_light
    refine congrArg (fun z => Ending.returned (Value.int .i64 z)) (?_ : _ = reqE a)
    unfold reqE
    split <;> first | rfl | (exfalso; omega)
end Go.Proofs.YteaggenihhaajaaGreat

/- Batches: what may be (request.CheckBatch). -/
namespace Go.Proofs.YteaggenihhaajaaGreat
open Go.RowKit Go.Deep
set_option linter.unusedVariables false

def twinP (l : List SignedD) (i k : Nat) : Bool := match l[i]?, l[k]? with | some a, some b => twin a b | _, _ => false
theorem twinsF_eq (l : List SignedD) : twinsF l = (List.range l.length).any fun i => (List.range i).any fun k => twinP l i k := rfl
theorem partsE_snoc (l : List SignedD) (s : SignedD) : partsE (l ++ [s]) = orE (partsE l) (orE (reqE s.request) (signE s.sign)) := by
  induction l with
  | nil => simp only [List.nil_append, partsE, z_orE, orE_z]
  | cons y r ih => simp only [List.cons_append, partsE, ih, orE_assoc]
theorem partsE_app (l r : List SignedD) : partsE (l ++ r) = orE (partsE l) (partsE r) := by
  induction l with
  | nil => simp only [List.nil_append, partsE, z_orE]
  | cons y r ih => simp only [List.cons_append, partsE, ih, orE_assoc]
theorem partsE_at {l : List SignedD} {q : Nat} {x : SignedD} (h : l[q]? = some x) (h0 : partsE (l.take q) = 0) : partsE (l.take (q + 1)) = orE (reqE x.request) (signE x.sign) ∧ ∃ r, partsE l = orE (partsE (l.take (q + 1))) r := by
  have e : l.take (q + 1) = l.take q ++ [x] := by rw [List.take_add_one, h]; rfl
  refine ⟨by rw [e, partsE_snoc, h0, z_orE], partsE (l.drop (q + 1)), ?_⟩
  rw [← partsE_app, List.take_append_drop]
theorem tL.full {α : Type} {T : Ty α} {inn : Nat → Prop} {w : World} {cs : List Value} {xs : List α} (h : (tL T).rd inn w cs xs) : ∃ A cap, cs = [.slice A xs.length cap] ∧ xs.length ≤ cap ∧ cap ≤ maxLen ∧ xs.length ≤ 4194304 := by
  obtain ⟨A, cap, rfl, h1, h2, _, h4, _⟩ := h
  exact ⟨A, cap, rfl, h1, h2, h4⟩
set_option maxRecDepth 20000 in
set_option maxHeartbeats 8000000 in
theorem batchE_c {inn : Nat → Prop} {w : World} {v : Value} {s : List SignedD} (h : (tL tSigned).rd inn w [v] s) :
    Calls Tryz.prog 216 #[v] w fun e w' => e = .returned (.int .i64 (batchE s)) ∧ B w w' := by
  obtain ⟨A, c, e1, hlc, hcm, hs⟩ := tL.full h
  injection e1 with e1 _
  subst e1
  have HR := Lib.hid h
  obtain ⟨l, hl0⟩ : ∃ l, s.length = l := ⟨_, rfl⟩
  have HL0 := Lib.hid hl0
  rw [hl0] at hs hlc ⊢
  have hcm2 : (c : Int) ≤ 9223372036854775807 := by unfold maxLen at hcm; omega
  clear h hl0 hcm
  by_cases h4 : 4 < l
  · have g4 : (4 : Int) < l := by omega
    have E := Lib.hid (show batchE s = 3 from by unfold batchE; rw [if_pos (by have := HL0.out; omega)])
    clear h4
    go_enter Tryz.func216, Tryz.ntmps216
    go_wp2
    go_ret
    exact ⟨by rw [E.out]; rfl, BB.out⟩
  have g4 : ¬ (4 : Int) < l := by omega
  have HE := Lib.hid (show batchE s = orE (partsE s) (if twinsF s then 5 else 0) from by unfold batchE; rw [if_neg (by have := HL0.out; omega)])
  clear h4
  go_enter Tryz.func216, Tryz.ntmps216
  go_wp2
  go_loopw [16] (fun i wr => ∃ q : Nat, q ≤ l ∧ i = .int .i64 q ∧ Hid (partsE (s.take q) = 0) ∧ Hid (B w wr)) (fun i _ => l - (intOf i).toNat)
  case atStart => exact ⟨0, Nat.zero_le _, rfl, by simp [Hid, partsE], Below.refl _ _⟩
  case round =>
    obtain ⟨q, hq, rfl, HP, HW⟩ := hrel
    by_cases hlt : q < l
    · obtain ⟨x, hx⟩ : ∃ x, s[q]? = some x := ⟨_, List.getElem?_eq_getElem (by have := HL0.out; omega)⟩
      obtain ⟨_, b, off, cs, rfl, r1, k1⟩ := tL.at ((tL tSigned).later HR.out HW.out) hx
      obtain ⟨ev1, rfl, a1, a2, o1, o2, o3, o4, o5, a6, a7⟩ := tSigned.parts r1
      have HC := Lib.hid (fun (w' : World) (hb : B wr w') => reqE_c (tRequest.mk (s := x.request) a1 a2 o1 o2 o3 o4 ((tL tY).later o5 hb)))
      obtain ⟨eA, ec, ee, _⟩ := tL.slice o5
      injection ee with ee _
      subst ee
      have c0 := k1 0 _ rfl
      have c1 := k1 1 _ rfl
      have c2 := k1 2 _ rfl
      have c3 := k1 3 _ rfl
      have c4 := k1 4 _ rfl
      have c5 := k1 5 _ rfl
      have c6 := k1 6 _ rfl
      have c7 := k1 7 _ rfl
      have c8 := k1 8 _ rfl
      simp only [show tSigned.n = 9 from rfl, Nat.add_zero] at c0 c1 c2 c3 c4 c5 c6 c7 c8
      have HX := Lib.hid (partsE_at hx HP.out)
      have HS := Lib.hid (aBlk.new (St.nil wr) 84 #[.int .i64 x.request.client, .int .i64 x.request.time, .int .i64 x.request.op.kind, .string (bstr x.request.op.topic), .string (bstr x.request.op.group), .int .i64 x.request.op.offset, .slice eA x.request.op.records.length ec, .int .i64 x.sign.key, .int .i64 x.sign.digest])
      have hqi : (q : Int) < l := by omega
      clear r1 k1 hx o5 o2 o3
      go_wp2_with (first
        | (go_at_call 254; (with_reducible refine callsM (HC.out _ BB.out) ?_); rintro e w1 ⟨rfl, hb⟩; replace HS := Lib.hid (HS.out.on.later hb); have KG := (aBlk.get HS.out).cell; have KL := (aBlk.get HS.out).lt; clear hb c0 c1 c2 c3 c4 c5 c6 c7 c8)
        | (go_at_call 221; (with_reducible refine callsM signE_c ?_); rintro e w1 ⟨rfl, hb⟩; replace HS := Lib.hid (HS.out.on.later hb); replace KG := (aBlk.get HS.out).cell; replace KL := (aBlk.get HS.out).lt; clear hb))
      · go_ret
        refine ⟨?_, HW.out.trans HS.out.b⟩
        obtain ⟨e1, r, e2⟩ := HX.out
        have hne : reqE x.request ≠ 0 := by simpa using ‹(reqE x.request != 0) = true›
        rw [HE.out, e2, e1]
        simp [orE, hne]
      · go_ret
        refine ⟨?_, HW.out.trans HS.out.b⟩
        obtain ⟨e1, r, e2⟩ := HX.out
        have hne : signE x.sign ≠ 0 := by simpa using ‹(signE ⟨x.sign.key, x.sign.digest⟩ != 0) = true›
        have hz : reqE x.request = 0 := by simpa using ‹(reqE x.request != 0) = false›
        rw [HE.out, e2, e1, hz]
        simp [orE, hne]
      · have hz : reqE x.request = 0 := by simpa using ‹(reqE x.request != 0) = false›
        have hs0 : signE x.sign = 0 := by simpa using ‹(signE ⟨x.sign.key, x.sign.digest⟩ != 0) = false›
        refine ⟨⟨q + 1, by omega, by go_num, ?_, HW.out.trans HS.out.b⟩, by simp [intOf]; omega⟩
        show partsE _ = 0
        rw [HX.out.1, hz, hs0]
        rfl
    · have hqi : ¬ (q : Int) < l := by omega
      have HP0 := Lib.hid (show batchE s = if twinsF s then 5 else 0 from by
        have := HP.out
        rw [List.take_of_length_le (by have := HL0.out; omega)] at this
        rw [HE.out, this, z_orE])
      clear hlt hq
      go_wp2
      go_loopw [35] (fun i wr => ∃ q : Nat, q ≤ l ∧ i = .int .i64 q ∧ Hid (∀ j, j < q → ∀ k, k < j → twinP s j k = false) ∧ Hid (B w wr)) (fun i _ => l - (intOf i).toNat)
      case atStart => exact ⟨0, Nat.zero_le _, rfl, fun j hj => by omega, HW.out⟩
      case round =>
        obtain ⟨q2, hq, rfl, HT, HW2⟩ := hrel
        by_cases hlt : q2 < l
        · obtain ⟨x, hx⟩ : ∃ x, s[q2]? = some x := ⟨_, List.getElem?_eq_getElem (by have := HL0.out; omega)⟩
          obtain ⟨_, b, off, cs, rfl, r1, k1⟩ := tL.at ((tL tSigned).later HR.out HW2.out) hx
          obtain ⟨ev1, rfl, a1, a2, o1, o2, o3, o4, o5, a6, a7⟩ := tSigned.parts r1
          obtain ⟨eA, ec, ee, _⟩ := tL.slice o5
          injection ee with ee _
          subst ee
          have c0 := k1 0 _ rfl
          have c1 := k1 1 _ rfl
          have c2 := k1 2 _ rfl
          have c3 := k1 3 _ rfl
          have c4 := k1 4 _ rfl
          have c5 := k1 5 _ rfl
          have c6 := k1 6 _ rfl
          have c7 := k1 7 _ rfl
          have c8 := k1 8 _ rfl
          simp only [show tSigned.n = 9 from rfl, Nat.add_zero] at c0 c1 c2 c3 c4 c5 c6 c7 c8
          have HX := Lib.hid hx
          have HS := Lib.hid (aBlk.new (St.nil wr) 84 #[.int .i64 x.request.client, .int .i64 x.request.time, .int .i64 x.request.op.kind, .string (bstr x.request.op.topic), .string (bstr x.request.op.group), .int .i64 x.request.op.offset, .slice eA x.request.op.records.length ec, .int .i64 x.sign.key, .int .i64 x.sign.digest])
          have hqi : (q2 : Int) < l := by omega
          have hqc : (q2 : Int) ≤ c := by omega
          clear r1 k1 hx o5 o2 o3 a1 a2 o1 o4 a6 a7
          go_wp2
          go_loopw [44] (fun i wz => ∃ r : Nat, r ≤ q2 ∧ i = .int .i64 r ∧ Hid (∀ k, k < r → twinP s q2 k = false) ∧ Hid (St wr wz [aBlk wr.heap.size 84 #[.int .i64 x.request.client, .int .i64 x.request.time, .int .i64 x.request.op.kind, .string (bstr x.request.op.topic), .string (bstr x.request.op.group), .int .i64 x.request.op.offset, .slice eA x.request.op.records.length ec, .int .i64 x.sign.key, .int .i64 x.sign.digest]])) (fun i _ => q2 - (intOf i).toNat)
          case atStart => exact ⟨0, Nat.zero_le _, rfl, fun k hk => by omega, HS.out⟩
          case round =>
            obtain ⟨r, hr, rfl, HK, HZ⟩ := hrel
            have KG := (aBlk.get HZ.out).cell
            have KL := (aBlk.get HZ.out).lt
            by_cases hrt : r < q2
            · obtain ⟨y, hy⟩ : ∃ y, s[r]? = some y := ⟨_, List.getElem?_eq_getElem (by have := HL0.out; omega)⟩
              obtain ⟨_, b', off', ds, eb, r2, k2⟩ := tL.at ((tL tSigned).later HR.out (HW2.out.trans HZ.out.b)) hy
              injection eb with eb
              injection eb with eb1 eb2
              subst eb1 eb2
              obtain ⟨fv1, rfl, _, _, _, _, _, _, p5, _, _⟩ := tSigned.parts r2
              obtain ⟨fA, fc, fe, _⟩ := tL.slice p5
              injection fe with fe _
              subst fe
              have d0 := k2 0 _ rfl
              have d1 := k2 1 _ rfl
              have d2 := k2 2 _ rfl
              have d3 := k2 3 _ rfl
              have d4 := k2 4 _ rfl
              have d5 := k2 5 _ rfl
              have d6 := k2 6 _ rfl
              have d7 := k2 7 _ rfl
              have d8 := k2 8 _ rfl
              simp only [show tSigned.n = 9 from rfl, Nat.add_zero] at d0 d1 d2 d3 d4 d5 d6 d7 d8
              have HY := Lib.hid hy
              have hri : (r : Int) < q2 := by omega
              have HT2 := Lib.hid (show twinP s q2 r = (decide (x.request.client = y.request.client) && decide (x.request.time = y.request.time)) from by unfold twinP; rw [HX.out, HY.out]; rfl)
              clear r2 k2 hy p5 c0 c1 c2 c3 c4 c5 c6 c7 c8
              by_cases ht : twinP s q2 r = true
              · have E := Lib.hid (show batchE s = 5 from by
                  have htt : twinsF s = true := by
                    rw [twinsF_eq, List.any_eq_true]
                    refine ⟨q2, by rw [List.mem_range]; have := HL0.out; omega, ?_⟩
                    rw [List.any_eq_true]
                    exact ⟨r, by rw [List.mem_range]; exact hrt, ht⟩
                  rw [HP0.out, htt]
                  rfl)
                have h2 := HT2.out
                rw [ht] at h2
                have h3 := h2.symm
                clear h2
                simp only [Bool.and_eq_true, decide_eq_true_eq] at h3
                obtain ⟨h21, h22⟩ := h3
                have g1 : (x.request.client == y.request.client) = true := by simpa using h21
                have g2 : (x.request.time == y.request.time) = true := by simpa using h22
                clear h21 h22 ht
                go_wp2
                go_ret
                exact ⟨by rw [E.out]; rfl, HW2.out.trans HZ.out.on.b⟩
              · have HF := Lib.hid (show twinP s q2 r = false from by simpa using ht)
                have h2 := HT2.out
                rw [HF.out] at h2
                have hc : ((x.request.client == y.request.client) = false) ∨ ((x.request.client == y.request.client) = true ∧ (x.request.time == y.request.time) = false) := by
                  by_cases e : x.request.client = y.request.client
                  · right
                    refine ⟨by simpa using e, ?_⟩
                    rw [decide_eq_true e, Bool.true_and] at h2
                    have := h2.symm
                    simpa using this
                  · left; simpa using e
                clear h2 ht
                rcases hc with g1 | ⟨g1, g2⟩
                all_goals
                  go_wp2
                  go_roundw
                  case rel =>
                    refine ⟨r + 1, by omega, by go_num, fun k hk => ?_, HZ.out.on⟩
                    by_cases e : k = r
                    · rw [e]; exact HF.out
                    · exact HK.out k (by omega)
                  case measure => simp [intOf]; omega
            · have hri : ¬ (r : Int) < q2 := by omega
              clear c0 c1 c2 c3 c4 c5 c6 c7 c8
              go_wp2
              go_roundw
              case rel =>
                refine ⟨q2 + 1, by omega, by go_num, fun j hj k hk => ?_, HW2.out.trans HZ.out.b⟩
                by_cases e : j = q2
                · subst e; exact HK.out k (by omega)
                · exact HT.out j (by omega) k hk
              case measure => simp [intOf]; omega
        · have hqi : ¬ (q2 : Int) < l := by omega
          have E := Lib.hid (show batchE s = 0 from by
            have ht : twinsF s = false := by
              rw [twinsF_eq, List.any_eq_false]
              intro j hj
              rw [Bool.not_eq_true, List.any_eq_false]
              intro k hk
              rw [List.mem_range] at hj hk
              rw [HT.out j (by have := HL0.out; omega) k hk]
              simp
            rw [HP0.out, ht]
            rfl)
          go_wp2
          go_ret
          exact ⟨by rw [E.out]; rfl, HW2.out⟩
end Go.Proofs.YteaggenihhaajaaGreat

/- Signatures, requests and batches behind bytes: request.PutSign, Bytes, PutBatch. -/
namespace Go.Proofs.YteaggenihhaajaaGreat
open Go.RowKit Go.Deep
set_option linter.unusedVariables false

theorem St.onto {w0 w w' : World} {A : Asn} {L : List Asn} (h : St w0 w L) (k : St w w' [A]) : St w0 w' (A :: L) := by
  obtain ⟨hb, own, h1, h2, _⟩ := k
  exact h.add hb h2 (fun x e => (h1 x e).1)
theorem signE0 {s : SignD} (h : signE s = 0) : (0 ≤ s.key ∧ s.key < 21) ∧ 1 ≤ s.digest ∧ s.digest ≤ 9007199254740992 := by
  unfold signE at h
  split at h
  · cases h
  · omega
set_option maxRecDepth 20000 in
set_option maxHeartbeats 8000000 in
theorem putSign_c {w : World} {v : Value} {bs : List UInt8} {k d : Int} (hb : Bs w v bs) (hl : bs.length + 60 ≤ big) :
    Calls Tryz.prog 222 #[v, .agg #[.int .i64 k, .int .i64 d]] w (Fresh w (bs ++ signP ⟨k, d⟩)) := by
  have HB := Lib.hid hb
  have HS := Lib.hid (aBlk.new (St.nil w) 59 #[.int .i64 k, .int .i64 d])
  have HL := Lib.hid hl
  have HC := Lib.hid (fun w' => signE_c (w := w') (k := k) (d := d))
  by_cases h0 : signE ⟨k, d⟩ = 0
  · obtain ⟨k1, d1⟩ := signE0 h0
    simp only at k1 d1
    have hwk : IntKind.u64.wrap k = k := u64_id (by omega)
    have hwd : IntKind.u64.wrap d = d := u64_id (by omega)
    have HK := Lib.hid k1
    have HD := Lib.hid d1
    have H0 := Lib.hid (show signP ⟨k, d⟩ = enc k.toNat ++ enc d.toNat from by unfold signP; rw [if_pos h0]; rfl)
    have HE := Lib.hid (enc_10 (show k.toNat < 18446744073709551616 by omega))
    rw [h0] at HC
    clear h0 hb hl k1 d1
    go_enter Tryz.func222, Tryz.ntmps222
    go_wp2_with (first
      | (go_at_call 221; (with_reducible refine callsM (HC.out _) ?_); rintro r wn ⟨rfl, hS⟩; replace HS := Lib.hid (HS.out.on.later hS); clear hS; have KG := (aBlk.get HS.out).cell))
    go_region_held3 (fun w' : World => ∀ i, w'.cell? ⟨w.heap.size, i, none⟩ = (#[.int .i64 k, .int .i64 d] : Array Value)[i]?) (first | exact (aBlk.get (St.on HS.out)).cell | exact (aBlk.get (St.on HS.out).swap).cell) (first
      | (go_at_call 151; (with_reducible refine callsM (St.fresh HS.out.on (putN_c (HB.out.later HS.out.on.b) k (by have := HK.out; omega) (by have := HL.out; omega))) ?_); rintro r wn ⟨v1, rfl, hS⟩; replace HS := Lib.hid hS; clear hS)
      | (go_at_call 151; (with_reducible refine callsM (St.fresh HS.out.on (putN_c (HS.out.on.byBs (by have := HL.out; have := HE.out; simp; omega)) d (by have := HD.out; omega) (by have := HL.out; have := HE.out; simp; omega))) ?_); rintro r wn ⟨v2, rfl, hS⟩; replace HS := Lib.hid hS.drop2; clear hS))
    all_goals
      go_wp2
      go_ret
      have hS := HS.out.toFresh
      rw [H0.out, ← List.append_assoc]
      exact hS
  · have g0 : (signE ⟨k, d⟩ != 0) = true := by simpa using h0
    have H0 := Lib.hid (show signP ⟨k, d⟩ = [] from by unfold signP; rw [if_neg h0])
    clear h0 hb hl
    go_enter Tryz.func222, Tryz.ntmps222
    go_wp2_with (first
      | (go_at_call 221; (with_reducible refine callsM (HC.out _) ?_); rintro r wn ⟨rfl, hS⟩; replace HS := Lib.hid (HS.out.on.later hS); clear hS; have KG := (aBlk.get HS.out).cell)
      | (go_at_call 42; (with_reducible refine callsM (St.fresh HS.out.on (clone89 (HB.out.later HS.out.on.b))) ?_); rintro e w1 ⟨v1, rfl, hS⟩; replace HS := Lib.hid hS; clear hS))
    go_ret
    rw [H0.out, List.append_nil]
    exact HS.out.toFresh
theorem reqE0 {x : RequestD} (h : reqE x = 0) : (0 ≤ x.client ∧ x.client < 8) ∧ (1 ≤ x.time ∧ x.time ≤ 9007199254740992) ∧ opE x.op = 0 := by
  unfold reqE at h
  split at h
  · cases h
  · exact ⟨by omega, by omega, h⟩
set_option maxRecDepth 20000 in
set_option maxHeartbeats 8000000 in
theorem reqBytes_c {inn : Nat → Prop} {w : World} {cs : List Value} {a : RequestD} (h : tRequest.rd inn w cs a) (hl : (reqB a).length + 60 ≤ big) :
    Calls Tryz.prog 303 #[.agg cs.toArray] w fun e w' => ∃ v, e = .returned (.tuple #[v, .int .i64 (reqE a)]) ∧ St w w' [aBy v (if reqE a = 0 then reqB a else [])] := by
  have HR := Lib.hid (fun w' (hb : B w w') => tRequest.later h hb)
  obtain ⟨v, rfl, a1, a2, o1, o2, o3, o4, o5⟩ := tRequest.parts h
  have HO := Lib.hid (fun (w' : World) (hb : B w w') => tOp.mk (s := a.op) o1 o2 o3 o4 ((tL tY).later o5 hb))
  obtain ⟨A5, c5, e5, l5⟩ := tL.slice o5
  injection e5 with e5 _
  subst e5
  have HL := Lib.hid hl
  have HS := Lib.hid (aBlk.new (St.nil w) 82 #[.int .i64 a.client, .int .i64 a.time, .int .i64 a.op.kind, .string (bstr a.op.topic), .string (bstr a.op.group), .int .i64 a.op.offset, .slice A5 a.op.records.length c5])
  by_cases h0 : reqE a = 0
  · obtain ⟨q1, q2, q3⟩ := reqE0 h0
    have hw1 : IntKind.u64.wrap a.client = a.client := u64_id (by omega)
    have hw2 : IntKind.u64.wrap a.time = a.time := u64_id (by omega)
    have H1 := Lib.hid q1
    have H2 := Lib.hid q2
    have H3 := Lib.hid q3
    have HE1 := Lib.hid (enc_10 (show a.client.toNat < 18446744073709551616 by omega))
    have HE2 := Lib.hid (enc_10 (show a.time.toNat < 18446744073709551616 by omega))
    have HC := Lib.hid (fun (w' : World) (hb : B w w') => by have := reqE_c (HR.out w' hb); rw [h0] at this; exact this)
    have H0 := Lib.hid h0
    have HB := Lib.hid (show reqB a = enc a.client.toNat ++ enc a.time.toNat ++ opB a.op from rfl)
    have HBL := Lib.hid (show (enc a.client.toNat).length + (enc a.time.toNat).length + (opB a.op).length + 60 ≤ big from by rw [HB.out] at hl; simp at hl; omega)
    clear h o5 o2 o3 h0 hl q1 q2 q3 a1 a2 o1 o4
    go_enter Tryz.func303, Tryz.ntmps303
    go_wp2_with (first
      | (go_at_call 254; (with_reducible refine callsM (HC.out _ HS.out.on.b) ?_); rintro e w2 ⟨rfl, hb⟩; replace HS := Lib.hid (HS.out.on.later hb); clear hb; have KG := (aBlk.get HS.out).cell))
    go_region_held3 (fun w' : World => ∀ i, w'.cell? ⟨w.heap.size, i, none⟩ = (#[.int .i64 a.client, .int .i64 a.time, .int .i64 a.op.kind, .string (bstr a.op.topic), .string (bstr a.op.group), .int .i64 a.op.offset, .slice A5 a.op.records.length c5] : Array Value)[i]?) (first | exact (aBlk.get (St.on HS.out)).cell | exact (aBlk.get (St.on HS.out).swap).cell) (first
      | (go_at_call 151; (with_reducible refine callsM (St.fresh HS.out.on (putN_c (Bs.nil _) a.client (by have := H1.out; omega) (by simp [big]))) ?_); rintro r wn ⟨v1, rfl, hS⟩; replace HS := Lib.hid hS; clear hS)
      | (go_at_call 151; (with_reducible refine callsM (St.fresh HS.out.on (putN_c (HS.out.on.byBs (by have := HE1.out; simp [big]; omega)) a.time (by have := H2.out; omega) (by have := HE1.out; simp [big]; omega))) ?_); rintro r wn ⟨v2, rfl, hS⟩; replace HS := Lib.hid hS.drop2; clear hS)
      | (go_at_call 332; (with_reducible refine callsM (St.fresh HS.out.on (opPut_c (HS.out.on.byBs (by have := HE1.out; have := HE2.out; simp [big]; omega)) (HO.out _ HS.out.on.b) (by have := HBL.out; simp; omega))) ?_); rintro r wn ⟨v3, rfl, hS⟩; replace HS := Lib.hid hS.drop2; clear hS))
    all_goals
      go_wp2
      go_ret2
      refine ⟨v3, by simp [], ?_⟩
      have hS := HS.out.drop2
      rw [H3.out] at hS
      simpa [H0.out, HB.out] using hS
  · have g0 : (reqE a != 0) = true := by simpa using h0
    have H0 := Lib.hid h0
    clear h o5 o2 o3 h0 hl
    go_enter Tryz.func303, Tryz.ntmps303
    go_wp2_with (first
      | (go_at_call 254; (with_reducible refine callsM (reqE_c (HR.out _ HS.out.on.b)) ?_); rintro e w2 ⟨rfl, hb⟩; replace HS := Lib.hid (HS.out.on.later hb); clear hb; have KG := (aBlk.get HS.out).cell))
    go_ret2
    exact ⟨.slice none 0 0, by simp, by simpa [H0.out] using (aBy.nil HS.out).drop2⟩
theorem batchE0 {l : List SignedD} (h : batchE l = 0) : l.length ≤ 4 ∧ ∀ x ∈ l, reqE x.request = 0 ∧ signE x.sign = 0 := by
  unfold batchE at h
  split at h
  · cases h
  have hp := (orE_zero.1 h).1
  refine ⟨by omega, ?_⟩
  clear h
  rename_i h4
  clear h4
  induction l with
  | nil => intro x hx; cases hx
  | cons y r ih =>
    simp only [partsE, orE_zero] at hp
    intro x hx
    cases hx with
    | head => exact ⟨hp.1, hp.2.1⟩
    | tail _ hm => exact ih hp.2.2 x hm
set_option maxRecDepth 20000 in
set_option maxHeartbeats 8000000 in
theorem partsPut_c {inn : Nat → Prop} {w : World} {u v : Value} {bs : List UInt8} {s : List SignedD} (h : (tL tSigned).rd inn w [u] s) (h0 : batchE s = 0) (hb : Bs w v bs) (hl : (bs ++ batchB s).length + 100 ≤ big) :
    Calls Tryz.prog 255 #[u, v] w (Fresh w (bs ++ batchB s)) := by
  obtain ⟨A, c, e1, hs⟩ := tL.slice h
  injection e1 with e1 _
  subst e1
  have HR := Lib.hid h
  have HB := Lib.hid hb
  have HL := Lib.hid hl
  have HZ := Lib.hid (batchE0 h0).2
  have hn := (batchE0 h0).1
  have hwn : IntKind.u64.wrap (s.length : Int) = s.length := u64_id (by omega)
  have HQ := Lib.hid (show ∀ q x, s[q]? = some x → ((s.take q).flatMap signedB).length + (signedB x).length ≤ (s.flatMap signedB).length from fun q x hx => by
    have hq : q < s.length := by
      rcases Nat.lt_or_ge q s.length with h' | h'
      · exact h'
      · rw [List.getElem?_eq_none h'] at hx; cases hx
    have e := congrArg (fun l => (l.flatMap signedB).length) (List.take_append_drop (q + 1) s)
    rw [List.take_add_one, hx] at e
    simp only [Option.toList_some, List.flatMap_append, List.length_append, List.flatMap_cons, List.flatMap_nil, List.append_nil] at e
    omega)
  have HS := Lib.hid (St.nil w)
  clear h h0 hb hl
  go_enter Tryz.func255, Tryz.ntmps255
  go_wp2_with (first
    | (go_at_call 151; (with_reducible refine callsM (St.fresh HS.out.on (putN_c (HB.out.later HS.out.on.b) (s.length : Int) (by omega) (by have := HL.out; simp [batchB] at this; omega))) ?_); rintro r wn ⟨v1, rfl, hS⟩; replace HS := Lib.hid hS; clear hS))
  go_loopw [1, 16] (fun v i wr => ∃ (q : Nat) (z : List UInt8), q ≤ s.length ∧ i = .int .i64 q ∧ Hid (z = bs ++ enc s.length ++ (s.take q).flatMap signedB) ∧ Hid (St w wr [aBy v z])) (fun _ i _ => s.length - (intOf i).toNat)
  case atStart => exact ⟨0, bs ++ enc s.length, Nat.zero_le _, rfl, Lib.hid (by simp), Lib.hid (by have hS := HS.out; simpa using hS)⟩
  case round =>
    obtain ⟨q, z, hq, rfl, HZ2, HS⟩ := hrel
    by_cases hlt : q < s.length
    · obtain ⟨x, hx⟩ : ∃ x, s[q]? = some x := ⟨_, List.getElem?_eq_getElem hlt⟩
      obtain ⟨_, b, off, ds, rfl, r1, k1⟩ := tL.at HR.out hx
      obtain ⟨ev1, rfl, a1, a2, o1, o2, o3, o4, o5, a6, a7⟩ := tSigned.parts r1
      have HX := Lib.hid hx
      have hz := HZ.out x (List.mem_of_getElem? hx)
      have HE := Lib.hid hz
      have HLX := Lib.hid (show z.length + (signedB x).length + 100 ≤ big from by
        have h1 := HL.out
        have h2 := HQ.out q x hx
        have h3 := congrArg List.length HZ2.out
        have e : batchB s = enc s.length ++ s.flatMap signedB := rfl
        rw [e] at h1
        simp only [List.length_append] at h1 h2 h3
        omega)
      have HSB := Lib.hid (show signedB x = byF (reqB x.request) ++ signB x.sign from rfl)
      have HBY := Lib.hid (show (byF (reqB x.request)).length = (enc (reqB x.request).length).length + (reqB x.request).length from by simp [byF])
      have HRQ := Lib.hid (fun (w' : World) (hb : B w w') => by
        have := reqBytes_c (tRequest.mk (s := x.request) a1 a2 o1 o2 o3 o4 ((tL tY).later o5 hb)) (by have h1 := HLX.out; rw [HSB.out] at h1; simp only [List.length_append] at h1; have := HBY.out; omega)
        rw [hz.1, if_pos rfl] at this
        exact this)
      obtain ⟨eA, ec, ee, _⟩ := tL.slice o5
      injection ee with ee _
      subst ee
      have d0 := B.cell HS.out.b (k1 0 _ rfl)
      have d1 := B.cell HS.out.b (k1 1 _ rfl)
      have d2 := B.cell HS.out.b (k1 2 _ rfl)
      have d3 := B.cell HS.out.b (k1 3 _ rfl)
      have d4 := B.cell HS.out.b (k1 4 _ rfl)
      have d5 := B.cell HS.out.b (k1 5 _ rfl)
      have d6 := B.cell HS.out.b (k1 6 _ rfl)
      have d7 := B.cell HS.out.b (k1 7 _ rfl)
      have d8 := B.cell HS.out.b (k1 8 _ rfl)
      simp only [show tSigned.n = 9 from rfl, Nat.add_zero] at d0 d1 d2 d3 d4 d5 d6 d7 d8
      replace HS := Lib.hid (aBlk.new HS.out 84 #[.int .i64 x.request.client, .int .i64 x.request.time, .int .i64 x.request.op.kind, .string (bstr x.request.op.topic), .string (bstr x.request.op.group), .int .i64 x.request.op.offset, .slice eA x.request.op.records.length ec, .int .i64 x.sign.key, .int .i64 x.sign.digest]).swap
      have hqi : (q : Int) < s.length := by omega
      clear r1 k1 hx o5 o2 o3 hz a1 a2 o1 o4
      go_wp2_with (first
        | (go_at_call 303; (with_reducible refine callsM (HRQ.out _ HS.out.on.b) ?_); rintro r wn ⟨v3, rfl, hS⟩; replace HS := Lib.hid (HS.out.on.onto hS); clear hS; have KG := (aBlk.get HS.out.rot3).cell; have KL := (aBlk.get HS.out.rot3).lt))
      go_region_held3 (fun w' : World => ∀ i, w'.cell? ⟨wr.heap.size, i, none⟩ = (#[.int .i64 x.request.client, .int .i64 x.request.time, .int .i64 x.request.op.kind, .string (bstr x.request.op.topic), .string (bstr x.request.op.group), .int .i64 x.request.op.offset, .slice eA x.request.op.records.length ec, .int .i64 x.sign.key, .int .i64 x.sign.digest] : Array Value)[i]?) (first | exact (aBlk.get (St.on HS.out).rot3).cell | exact (aBlk.get (St.on HS.out).swap).cell) (first
        | (go_at_call 157; (with_reducible refine callsM (St.fresh HS.out.on (putBytes72 (HS.out.on.swap.byBs (by have := HLX.out; omega)) (HS.out.on.byBs (by have := HLX.out; have h2 := HSB.out; have h3 := HBY.out; rw [h2] at this; simp only [List.length_append] at this; omega)) (by have := HLX.out; have h2 := HSB.out; have h3 := HBY.out; rw [h2] at this; simp only [List.length_append] at this ⊢; omega))) ?_); rintro r wn ⟨v4, rfl, hS⟩; replace HS := Lib.hid hS.drop2.drop2; clear hS; rw [byF_eq] at HS)
        | (go_at_call 222; (with_reducible refine callsM (St.fresh HS.out.on (putSign_c (HS.out.on.byBs (by have := HLX.out; have h2 := HSB.out; rw [h2] at this; simp only [List.length_append] at this ⊢; omega)) (by have := HLX.out; have h2 := HSB.out; rw [h2] at this; simp only [List.length_append] at this ⊢; omega))) ?_); rintro r wn ⟨v5, rfl, hS⟩; replace HS := Lib.hid hS.drop2; clear hS))
      all_goals
        go_wp2
        go_roundw
        case rel =>
          refine ⟨q + 1, _, by omega, by go_num, ?_, Lib.hid HS.out.drop2⟩
          show _ = _
          rw [HZ2.out, List.take_add_one, HX.out]
          have hp : signP ⟨x.sign.key, x.sign.digest⟩ = signB x.sign := by unfold signP; rw [if_pos HE.out.2]
          simp [hp, HSB.out]
        case measure => simp [intOf]; omega
    · have hqi : ¬ (q : Int) < s.length := by omega
      have HZ3 := Lib.hid (show z = bs ++ batchB s from by
        rw [HZ2.out, List.take_of_length_le (by omega)]
        simp [batchB])
      clear hlt hq
      go_wp2
      go_ret
      rw [← HZ3.out]
      exact HS.out.toFresh
end Go.Proofs.YteaggenihhaajaaGreat

/- Lists of numbers that a call writes down; slices.Contains over numbers; which messages are signed. -/
namespace Go.Proofs.YteaggenihhaajaaGreat
open Go.RowKit Go.Deep
set_option linter.unusedVariables false

/-- numbers written down in a block read as a list -/
theorem litI {w : World} {g : Nat} {t : TypeId} (ns : List Int) (h : Blk w g t (ns.map (Value.int .i64)).toArray) (hb : ∀ n ∈ ns, -9223372036854775808 ≤ n ∧ n ≤ 9223372036854775807) (hl : ns.length ≤ 4194304) :
    (tL tI).rd (fun _ => True) w [.slice (some ⟨g, 0, none⟩) ns.length ns.length] ns := by
  refine ⟨_, _, rfl, Nat.le_refl _, by unfold maxLen; omega, fun e => (by cases e), hl, fun _ => ⟨g, 0, rfl, h.lt, trivial, fun i x hx => ⟨_, ⟨rfl, hb x (List.mem_of_getElem? hx)⟩, fun j v hj => ?_⟩⟩⟩
  cases j with
  | zero =>
    simp only [List.getElem?_cons_zero, Option.some.injEq] at hj
    subst hj
    rw [h.cell]
    simp [tI, hx]
  | succ j => simp at hj
set_option maxRecDepth 20000 in
set_option maxHeartbeats 2000000 in
theorem idxInt_c {inn : Nat → Prop} {w : World} {v : Value} {s : List Int} {x : Int} (h : (tL tI).rd inn w [v] s) :
    Calls Tryz.prog 316 #[v, .int .i64 x] w fun e w' => ∃ k : Int, e = .returned (.int .i64 k) ∧ (0 ≤ k ↔ x ∈ s) ∧ w = w' := by
  obtain ⟨A, c, e1, hs⟩ := tL.slice h
  injection e1 with e1 _
  subst e1
  have HR := Lib.hid h
  obtain ⟨l, hl0⟩ : ∃ l, s.length = l := ⟨_, rfl⟩
  have HL0 := Lib.hid hl0
  rw [hl0] at hs ⊢
  clear h hl0
  go_enter Tryz.func316, Tryz.ntmps316
  go_wp2_with fail
  go_loop [5, 8] (fun _ i => ∃ q : Nat, q ≤ l ∧ i = .int .i64 q ∧ Hid (∀ j y, j < q → s[j]? = some y → ¬ x = y)) (fun _ i => l - (intOf i).toNat)
  case atStart => exact ⟨0, Nat.zero_le _, rfl, fun j x h => by omega⟩
  case round =>
    obtain ⟨q, hq, rfl, HP⟩ := hrel
    by_cases hlt : q < l
    · obtain ⟨y, hy⟩ : ∃ y, s[q]? = some y := ⟨_, List.getElem?_eq_getElem (by have := HL0.out; omega)⟩
      obtain ⟨_, b, off, cs, rfl, ⟨rfl, _⟩, k1⟩ := tL.at HR.out hy
      have c1 := k1 0 _ rfl
      simp only [show tI.n = 1 from rfl, Nat.mul_one, Nat.add_zero] at c1
      have HS := Lib.hid hy
      have hqi : (q : Int) < l := by omega
      clear k1 hy
      by_cases e1 : x = y
      · have g : (x == y) = true := by simpa using e1
        have g' : (y == x) = true := by simpa using e1.symm
        have E := Lib.hid (show ((0 : Int) ≤ q ↔ x ∈ s) from ⟨fun _ => by rw [e1]; exact List.mem_of_getElem? HS.out, fun _ => by omega⟩)
        clear e1
        go_wp2_with fail
        go_ret
        exact ⟨_, rfl, E.out, rfl⟩
      · have g : (x == y) = false := by simpa using e1
        have g' : (y == x) = false := by simpa using fun e => e1 e.symm
        have E := Lib.hid e1
        clear e1
        go_wp2_with fail
        go_round
        case rel => exact ⟨q + 1, by omega, by go_num, fun j z hj hz => by
          by_cases e : j = q
          · rw [e, HS.out] at hz; injection hz with hz; rw [← hz]; exact E.out
          · exact HP.out j z (by omega) hz⟩
        case measure => simp [intOf]; omega
    · have hqi : ¬ (q : Int) < l := by omega
      have E := Lib.hid (show ((0 : Int) ≤ -1 ↔ x ∈ s) from by
        refine ⟨fun hx => by omega, fun hx => ?_⟩
        exfalso
        obtain ⟨j, hj⟩ := List.getElem?_of_mem hx
        have hjl : j < s.length := by
          rcases Nat.lt_or_ge j s.length with h' | h'
          · exact h'
          · rw [List.getElem?_eq_none h'] at hj; cases hj
        exact HP.out j x (by have := HL0.out; omega) hj rfl)
      go_wp2_with fail
      go_ret
      exact ⟨_, rfl, E.out, rfl⟩
theorem hasInt_c {inn : Nat → Prop} {w : World} {v : Value} {s : List Int} {x : Int} (h : (tL tI).rd inn w [v] s) :
    Calls Tryz.prog 268 #[v, .int .i64 x] w fun e w' => e = .returned (.bool (decide (x ∈ s))) ∧ w = w' := by
  have HI := Lib.hid (idxInt_c (x := x) h)
  clear h
  go_enter Tryz.func268, Tryz.ntmps268
  go_wp2_with (first | (go_at_call 316; (with_reducible refine HI.out.mono ?_); rintro e w1 ⟨k, rfl, hk, rfl⟩; rcases (show (decide (x ∈ s) = true ∧ 0 ≤ k) ∨ (decide (x ∈ s) = false ∧ ¬ 0 ≤ k) from by by_cases hx : x ∈ s <;> simp [hx] <;> simp [hx] at hk <;> omega) with ⟨hz, hk2⟩ | ⟨hz, hk2⟩; all_goals (have HZ := Lib.hid hz; clear hz hk)))
  all_goals
    go_ret
    exact ⟨by rw [HZ.out]; simp <;> omega, rfl⟩
theorem signedK_mem (k : Int) : decide (k ∈ ([2, 3, 4, 5, 6, 8, 9] : List Int)) = signedK k := by
  rw [Bool.eq_iff_iff]
  simp [signedK, or_assoc]
theorem mSigned_c {w : World} {k : Int} : Calls Tryz.prog 228 #[.int .i64 k] w fun e w' => e = .returned (.bool (signedK k)) ∧ B w w' := by
  have HI := Lib.hid (hasInt_c (x := k) (litI (w := w.alloc (.cells #[.int .i64 2, .int .i64 3, .int .i64 4, .int .i64 5, .int .i64 6, .int .i64 8, .int .i64 9] 3)) (g := w.heap.size) (t := 3) [2, 3, 4, 5, 6, 8, 9] (Blk.new w 3 _) (by simp) (by simp)))
  rw [signedK_mem] at HI
  go_enter Tryz.func228, Tryz.ntmps228
  go_wp2_with (first | (go_at_call 268; (with_reducible refine callsM (HI.out) ?_); rintro e w1 ⟨rfl, rfl⟩))
  go_ret
  exact ⟨rfl, BB.out⟩
end Go.Proofs.YteaggenihhaajaaGreat

/- request.PutBatch; the writer of package message: numbers, byte strings, signatures, batches behind its bytes. -/
namespace Go.Proofs.YteaggenihhaajaaGreat
open Go.RowKit Go.Deep
set_option linter.unusedVariables false

set_option maxRecDepth 20000 in
set_option maxHeartbeats 8000000 in
theorem putBatch_c {inn : Nat → Prop} {w : World} {u v : Value} {bs : List UInt8} {s : List SignedD} (h : (tL tSigned).rd inn w [u] s) (hb : Bs w v bs) (hl : (bs ++ batchP s).length + 100 ≤ big) :
    Calls Tryz.prog 217 #[v, u] w (Fresh w (bs ++ batchP s)) := by
  have HB := Lib.hid hb
  have HS := Lib.hid (St.nil w)
  have HC := Lib.hid (fun (w' : World) (hb : B w w') => batchE_c ((tL tSigned).later h hb))
  by_cases h0 : batchE s = 0
  · have HP := Lib.hid (fun (w' : World) (hw : B w w') => partsPut_c ((tL tSigned).later h hw) h0 (hb.later hw) (by unfold batchP at hl; rw [if_pos h0] at hl; exact hl))
    have H0 := Lib.hid (show batchP s = batchB s from by unfold batchP; rw [if_pos h0])
    rw [h0] at HC
    clear h0 hb hl h
    go_enter Tryz.func217, Tryz.ntmps217
    go_wp2_with (first
      | (go_at_call 216; (with_reducible refine callsM (HC.out _ HS.out.on.b) ?_); rintro r wn ⟨rfl, hS⟩; replace HS := Lib.hid (HS.out.on.later hS); clear hS)
      | (go_at_call 255; (with_reducible refine callsM (St.fresh HS.out.on (HP.out _ HS.out.on.b)) ?_); rintro e w1 ⟨v1, rfl, hS⟩; replace HS := Lib.hid hS; clear hS))
    go_ret
    rw [H0.out]
    exact HS.out.toFresh
  · have g0 : (batchE s != 0) = true := by simpa using h0
    have H0 := Lib.hid (show batchP s = [] from by unfold batchP; rw [if_neg h0])
    clear h0 hb hl h
    go_enter Tryz.func217, Tryz.ntmps217
    go_wp2_with (first
      | (go_at_call 216; (with_reducible refine callsM (HC.out _ HS.out.on.b) ?_); rintro r wn ⟨rfl, hS⟩; replace HS := Lib.hid (HS.out.on.later hS); clear hS)
      | (go_at_call 42; (with_reducible refine callsM (St.fresh HS.out.on (clone89 (HB.out.later HS.out.on.b))) ?_); rintro e w1 ⟨v1, rfl, hS⟩; replace HS := Lib.hid hS; clear hS))
    go_ret
    rw [H0.out, List.append_nil]
    exact HS.out.toFresh
section
variable {W w : World} {p : Nat} {v : Value} {bs : List UInt8} {X : List Asn}
end
end Go.Proofs.YteaggenihhaajaaGreat

/- Small words: a box stored whole; a message's cells; what may not be wrong. -/
namespace Go.Proofs.YteaggenihhaajaaGreat
open Go.RowKit Go.Deep
set_option linter.unusedVariables false

theorem rangeE0 {n a b : Int} (h : rangeE n a b = 0) : a ≤ n ∧ n ≤ b := by
  unfold rangeE at h
  split at h
  · cases h
  · omega
theorem checkE_msg {x : MsgD} (h : checkE x = 0) : msgE x = 0 := by
  unfold checkE at h
  split at h
  · cases h
  · exact h
theorem msgE_kind {x : MsgD} (h : msgE x = 0) : kindE x = 0 := by
  exact (orE_zero.1 h).1
/-- what is wrong with a message's bytes -/
noncomputable def bytesE (x : MsgD) : Int := if checkE x = 0 then (if 262144 < (fullB x).length then 3 else 0) else checkE x
end Go.Proofs.YteaggenihhaajaaGreat

/- How long names, and the bytes of messages that may be, can get: plain. -/
namespace Go.Proofs.YteaggenihhaajaaGreat
open Go.RowKit Go.Deep
set_option linter.unusedVariables false

theorem width_le (s : ByteArray) (pos : Nat) : (Utf8.decode s pos).2 ≤ 4 := by
  simp only [Utf8.decode]
  repeat' split
  all_goals simp_all
  all_goals omega
theorem runesGo_len (s : ByteArray) : ∀ k pos n m, s.size ≤ pos + k → runesGo s k pos n = some m → n ≤ m ∧ s.size ≤ pos + 4 * (m - n)
  | 0, pos, n, m, hk, h => by
    simp only [runesGo] at h
    injection h with h
    omega
  | k + 1, pos, n, m, hk, h => by
    simp only [runesGo] at h
    split at h
    · rename_i hp
      split at h
      · cases h
      · have h1 := width_pos s pos hp
        have h4 := width_le s pos
        have := runesGo_len s k _ _ m (by omega) h
        omega
    · injection h with h
      omega
theorem nameF_len {s : List UInt8} (h : nameF s = true) : s.length ≤ 64 := by
  unfold nameF runesF at h
  simp only [decide_eq_true_eq] at h
  split at h
  · omega
  · rename_i n hn
    split at h
    · omega
    · have := runesGo_len (bstr s) _ 0 0 n (by rw [bstr_size]; omega) hn
      rw [bstr_size] at this
      omega
theorem nameE0 {s : List UInt8} (h : nameE s = 0) : s.length ≤ 64 := by
  unfold nameE at h
  split at h
  · rename_i hn; exact nameF_len hn
  · cases h
theorem opB_short {o : OpD} (h : opE o = 0) : (opB o).length ≤ 1000 := by
  have h0 := opE0 h
  unfold opE at h
  repeat' split at h
  all_goals try cases h
  rename_i g1 g2 g3 g4 g5
  have ek := encLe10 o.kind.toNat (by omega)
  have eo := encLe10 o.offset.toNat (by omega)
  have bl : ∀ b : List UInt8, b.length ≤ 64 → (byF b).length ≤ 74 := fun b hb => by
    unfold byF
    have := encLe10 b.length (by omega)
    rw [List.length_append]; omega
  unfold opB
  rw [List.length_append, List.length_append]
  have p1 : (if o.kind = 0 then [] else byF o.topic).length ≤ 74 := by
    split
    · simp
    · rename_i hk
      exact bl _ (nameF_len (by simpa [hk] using g2))
  have p2 : (if o.kind = 2 then enc o.records.length ++ o.records.flatMap byF else if o.kind = 3 then byF o.group ++ enc o.offset.toNat else if o.kind = 4 then enc o.offset.toNat else []).length ≤ 800 := by
    split
    · rename_i k2
      have hr : o.records.length ≤ 4 ∧ longF o = false := by
        simp only [not_and, not_or] at g4
        have := g4 k2
        exact ⟨by omega, by simpa using this.2.2⟩
      have e5 := encLe10 o.records.length (by omega)
      have e6 := flat_len (f := byF) (K := 74) o.records (fun x hx => bl x (by
        have := hr.2
        unfold longF at this
        rw [List.any_eq_false] at this
        have := this x hx
        simp at this
        omega))
      rw [List.length_append]
      have : o.records.length * 74 ≤ 4 * 74 := Nat.mul_le_mul_right _ hr.1
      omega
    · split
      · rename_i k3
        have := bl o.group (nameF_len (by simpa [k3] using g3))
        rw [List.length_append]; omega
      · split
        · omega
        · simp
  omega
theorem encI_l10 (n : Int) : (encI n).length ≤ 10 := by
  unfold encI
  exact encLe10 _ (by omega)
theorem numsB_len (l : List Int) : (numsB l).length ≤ 10 * l.length := by
  unfold numsB
  have := flat_len (f := encI) (K := 10) l (fun x _ => encI_l10 x)
  omega
theorem signB_len {s : SignD} (h : signE s = 0) : (signB s).length ≤ 20 := by
  have h' := signE0 h
  have e1 := encLe10 s.key.toNat (by omega)
  have e2 := encLe10 s.digest.toNat (by omega)
  unfold signB
  rw [List.length_append]; omega
theorem signP_l20 (s : SignD) : (signP s).length ≤ 20 := by
  unfold signP
  split
  · rename_i h; exact signB_len h
  · simp
theorem reqB_short {x : RequestD} (h : reqE x = 0) : (reqB x).length ≤ 1020 := by
  obtain ⟨c, t, o⟩ := reqE0 h
  have e1 := encLe10 x.client.toNat (by omega)
  have e2 := encLe10 x.time.toNat (by omega)
  have e3 := opB_short o
  unfold reqB
  simp only [List.length_append]; omega
theorem batchP_len (l : List SignedD) : (batchP l).length ≤ 4300 := by
  unfold batchP
  split
  · rename_i h
    have h' := batchE0 h
    unfold batchB
    have e := encLe10 l.length (by omega)
    have f := flat_len (f := signedB) (K := 1050) l (fun s hs => by
      obtain ⟨h1, h2⟩ := h'.2 s hs
      have a1 := reqB_short h1
      have a2 := signB_len h2
      have a3 := encLe10 (reqB s.request).length (by omega)
      unfold signedB byF
      simp only [List.length_append]; omega)
    rw [List.length_append]
    have : l.length * 1050 ≤ 4 * 1050 := Nat.mul_le_mul_right _ h'.1
    omega
  · simp
theorem manyE0 {n : Nat} {m : Int} (h : manyE n m = 0) : (n : Int) ≤ m := (rangeE0 h).2
theorem signsB_len {l : List SignD} (h : signsE l = 0) : (signsB l).length ≤ 270 := by
  have h1 := manyE0 (orE_zero.1 h).1
  unfold signsB
  have e := encI_l10 (l.length : Int)
  have f := flat_len (f := signP) (K := 20) l (fun s _ => signP_l20 s)
  rw [List.length_append]
  have : l.length * 20 ≤ 13 * 20 := Nat.mul_le_mul_right _ (by omega)
  omega
theorem certB_len {c : CertD} (h : certE c = 0) : (certB c).length ≤ 300 := by
  unfold certE at h
  have h1 := (orE_zero.1 (orE_zero.1 (orE_zero.1 h).2).2).2
  have e := numsB_len [c.seq, c.digest]
  have f := signsB_len h1
  simp at e
  unfold certB
  rw [List.length_append]; omega
theorem prepB_len {p : PreparedD} (h : prepE p = 0) : (prepB p).length ≤ 5000 := by
  unfold prepE at h
  simp only [orE_zero] at h
  have e := numsB_len [p.view, p.seq, p.digest]
  have f := signsB_len h.2.2.2.2.1
  have g := signP_l20 p.firstS
  have b := batchP_len p.batch
  simp at e
  unfold prepB
  simp only [List.length_append]; omega
theorem bodyC_len {c : ChangeD} (h : chgE c = 0) : (bodyC c).length ≤ 41000 := by
  unfold chgE at h
  simp only [orE_zero] at h
  obtain ⟨_, _, h3, h4, h5, _⟩ := h
  have n := manyE0 h4
  have e := numsB_len [c.view, c.src]
  have f := certB_len h3
  have g := encI_l10 (c.above.length : Int)
  have b := flat_len (f := prepB) (K := 5000) c.above (fun p hp => prepB_len (listE_zero.1 h5 p hp))
  have : c.above.length * 5000 ≤ 8 * 5000 := Nat.mul_le_mul_right _ (by omega)
  simp at e
  unfold bodyC
  simp only [List.length_append]; omega
theorem chgB_len {c : ChangeD} (h : chgE c = 0) : (chgB c).length ≤ 41100 := by
  have a := bodyC_len h
  have b := signP_l20 c.sign
  unfold chgB
  simp only [List.length_append]; omega
theorem entryB_len (x : EntryD) : (entryB x).length ≤ 4400 := by
  have e := numsB_len [x.view, x.seq]
  have a := batchP_len x.batch
  have b := signP_l20 x.sign
  simp at e
  unfold entryB
  simp only [List.length_append]; omega
theorem proofB_len {p : ProofD} (h : proofE p = 0) : (proofB p).length ≤ 5000 := by
  unfold proofE at h
  simp only [orE_zero] at h
  obtain ⟨h1, _, h3, h4, _, _, _, _, h9, _, h11⟩ := h
  have n1 := nameE0 h1
  have n3 := manyE0 h3
  have n4 := manyE0 h4
  have n9 := manyE0 h9
  have a1 := encLe10 p.topic.length (by omega)
  have a2 := encLe10 p.record.length (by omega)
  have e1 := numsB_len [p.offset]
  have e2 := numsB_len [p.index, p.count]
  have f1 := encI_l10 (p.headers.length : Int)
  have f2 := encI_l10 (p.path.length : Int)
  have c := certB_len h11
  have b1 := flat_len (f := headB) (K := 50) p.headers (fun x _ => by have := numsB_len [x.seq, x.prev, x.batch, x.root, x.state]; simp at this; unfold headB; omega)
  have b2 := flat_len (f := encI) (K := 10) p.path (fun x _ => encI_l10 x)
  have : p.headers.length * 50 ≤ 64 * 50 := Nat.mul_le_mul_right _ (by omega)
  have : p.path.length * 10 ≤ 8 * 10 := Nat.mul_le_mul_right _ (by omega)
  simp at e1 e2
  unfold proofB byF
  simp only [List.length_append]; omega
theorem unsB_len {m : MsgD} (h : kindE m = 0) : (unsB m).length ≤ 1000000 := by
  have hk := encI_l10 m.kind
  unfold unsB
  rw [List.length_append]
  suffices (tailB m).length ≤ 900000 by omega
  have ns : ∀ l : List Int, l.length ≤ 4 → (numsB l).length ≤ 40 := fun l hl => by have := numsB_len l; omega
  unfold kindE at h
  unfold tailB
  by_cases k1 : m.kind = 1
  · rw [if_pos k1]; have := batchP_len m.batch; omega
  rw [if_neg k1] at h ⊢
  by_cases k2 : m.kind = 2
  · rw [if_pos k2]; have := batchP_len m.batch; have := ns [m.src, m.view, m.seq, m.digest] (by simp); rw [List.length_append]; omega
  rw [if_neg k2] at h ⊢
  by_cases k3 : m.kind = 3 ∨ m.kind = 4
  · rw [if_pos k3]; have := ns [m.src, m.view, m.seq, m.digest] (by simp); omega
  rw [if_neg k3]
  rw [if_neg (fun e => k3 (.inl e)), if_neg (fun e => k3 (.inr e))] at h
  by_cases k5 : m.kind = 5
  · rw [if_pos k5] at h ⊢
    simp only [orE_zero] at h
    have r1 := rangeE0 h.2.2.2.2.1
    have r2 := rangeE0 h.2.2.2.2.2
    have a1 := encLe10 (max m.result.err 0).toNat (by omega)
    have a2 := encLe10 (max m.result.offset 0).toNat (by omega)
    have := ns [m.src, m.view, m.client, m.time] (by simp)
    unfold resultB
    simp only [List.length_append]; omega
  rw [if_neg k5] at h ⊢
  by_cases k6 : m.kind = 6
  · rw [if_pos k6]; have := ns [m.src, m.seq, m.digest] (by simp); omega
  rw [if_neg k6] at h ⊢
  by_cases k7 : m.kind = 7
  · rw [if_pos k7] at h ⊢
    split
    · rename_i c r hc
      have := listE_zero.1 (orE_zero.1 h).2 c (by rw [hc]; simp)
      unfold viewE at this
      have := bodyC_len (orE_zero.1 this).1
      omega
    · simp
  rw [if_neg k7] at h ⊢
  by_cases k8 : m.kind = 8
  · rw [if_pos k8] at h ⊢
    unfold newE at h
    simp only [orE_zero] at h
    obtain ⟨_, _, h3, h4, h5, _⟩ := h
    have n3 := manyE0 h3
    have n5 := manyE0 h5
    have f1 := encI_l10 (m.changes.length : Int)
    have f2 := encI_l10 (m.entries.length : Int)
    have b1 := flat_len (f := chgB) (K := 41100) m.changes (fun c hc => chgB_len (listE_zero.1 h4 c hc))
    have b2 := flat_len (f := entryB) (K := 4400) m.entries (fun c hc => entryB_len c)
    have : m.changes.length * 41100 ≤ 13 * 41100 := Nat.mul_le_mul_right _ (by omega)
    have : m.entries.length * 4400 ≤ 8 * 4400 := Nat.mul_le_mul_right _ (by omega)
    have := ns [m.src, m.view] (by simp)
    simp only [List.length_append]; omega
  rw [if_neg k8] at h ⊢
  by_cases k9 : m.kind = 9
  · rw [if_pos k9]; have := ns [m.src, m.seq] (by simp); omega
  rw [if_neg k9] at h ⊢
  by_cases k10 : m.kind = 10
  · rw [if_pos k10] at h ⊢
    simp only [orE_zero] at h
    have c := certB_len h.2.1
    have s := manyE0 h.2.2
    have a := encLe10 m.state.length (by omega)
    have := ns [m.src] (by simp)
    unfold byF
    simp only [List.length_append]; omega
  rw [if_neg k10] at h ⊢
  by_cases k11 : m.kind = 11
  · rw [if_pos k11] at h ⊢
    simp only [orE_zero] at h
    have s := nameE0 h.2.1
    have a := encLe10 m.topic.length (by omega)
    have := ns [m.client] (by simp)
    have := ns [m.offset] (by simp)
    unfold byF
    simp only [List.length_append]; omega
  rw [if_neg k11] at h ⊢
  by_cases k12 : m.kind = 12
  · rw [if_pos k12] at h ⊢
    have := proofB_len (orE_zero.1 h).2
    have := ns [m.src] (by simp)
    simp only [List.length_append]; omega
  rw [if_neg k12]
  simp
end Go.Proofs.YteaggenihhaajaaGreat

