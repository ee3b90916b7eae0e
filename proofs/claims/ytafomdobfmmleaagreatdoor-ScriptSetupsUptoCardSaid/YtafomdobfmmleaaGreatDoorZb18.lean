/- Lemmas and contracts, part 18. -/
import Derived.Test.YtafomdobfmmleaaGreatDoorZb17
import Derived.Deep.Light
import Derived.Lib.ConvBytes
import Derived.Deep.RegionHeld3
import Derived.Deep.RegionLaw
/- Operations: op.Check is the plain 'opE'. -/
namespace Go.Proofs.YtafomdobfmmleaaGreatDoor
open Go.RowKit Go.Deep
set_option linter.unusedVariables false

set_option maxRecDepth 20000 in
set_option maxHeartbeats 4000000 in
theorem opE_c {inn : Nat → Prop} {w : World} {cs : List Value} {a : OpD} (h : tOp.rd inn w cs a) :
    Calls Tryz.prog 107 #[.agg cs.toArray] w fun e w' => e = .returned (.int .i64 (opE a)) ∧ B w w' := by
  have HR := Lib.hid (fun w' (hb : B w w') => tOp.later h hb)
  obtain ⟨v5, rfl, a1, a2, a3, a4, a5⟩ := tOp.parts h
  have HE := Lib.hid (show opE a = _ from rfl)
  have HN := Lib.hid (fun w' => name_c w' a.topic a2)
  have HG := Lib.hid (fun w' => name_c w' a.group a3)
  have HC := Lib.hid (fun (w' : World) (hb : B w w') => show Calls Tryz.prog 152 #[v5, .func (.func 151) #[] #[]] w' fun e w'' => e = .returned (.bool (longF a)) ∧ w' = w'' from contains_c ((tL tY).later a5 hb))
  obtain ⟨A5, c5, e5, l5⟩ := tL.slice a5
  injection e5 with e5 _
  subst e5
  have HS := Lib.hid (aBlk.new (St.nil w) 40 #[.int .i64 a.kind, .string (bstr a.topic), .string (bstr a.group), .int .i64 a.offset, .slice A5 a.records.length c5])
  have HK := Lib.hid (show kindOk a = decide (0 ≤ a.kind ∧ a.kind ≤ 4) from rfl)
  obtain ⟨oo, ho⟩ : ∃ oo, onlyF a = oo := ⟨_, rfl⟩
  have HO := Lib.hid (fun (w' : World) (hb : B w w') => show Calls Tryz.prog 150 #[.agg #[.int .i64 a.kind, .string (bstr a.topic), .string (bstr a.group), .int .i64 a.offset, .slice A5 a.records.length c5]] w' fun e w'' => ∃ ds : List Value, e = .returned (.tuple #[.agg ds.toArray, .bool (kindOk a)]) ∧ tOp.rd inn w'' ds oo ∧ B w' w'' from by
    rw [← ho]
    exact only_c (HR.out _ hb))
  clear h a5 a2 a3
  go_enter Tryz.func107, Tryz.ntmps107
  go_wp2_with (first
    | (go_at_call 150; (with_reducible refine callsM (HO.out _ BB.out) ?_); rintro e w1 ⟨ds, rfl, hd, hb⟩; have HD := Lib.hid (fun w' (hb : B w1 w') => tOp.later hd hb); obtain ⟨d5, rfl, _, _, _, _, d5r⟩ := tOp.parts hd; obtain ⟨B5, k5, e5, _⟩ := tL.slice d5r; injection e5 with e5 _; subst e5; replace HS := Lib.hid (HS.out.on.later hb); have KG := (aBlk.get HS.out).cell; have KL := (aBlk.get HS.out).lt; clear hd hb)
    | (go_at_call 53; (with_reducible refine callsM (oSame_c (HR.out _ HS.out.on.b) (HD.out _ BB.out)) ?_); rintro e w2 ⟨rfl, hb⟩; replace HS := Lib.hid (HS.out.on.later hb); replace KG := (aBlk.get HS.out).cell; replace KL := (aBlk.get HS.out).lt; clear hb)
    | (go_at_call 27; (with_reducible refine callsM (HN.out _) ?_); rintro e w3 ⟨rfl, hb⟩; replace HS := Lib.hid (HS.out.on.later hb); replace KG := (aBlk.get HS.out).cell; replace KL := (aBlk.get HS.out).lt; clear hb)
    | (go_at_call 27; (with_reducible refine callsM (HG.out _) ?_); rintro e w3 ⟨rfl, hb⟩; replace HS := Lib.hid (HS.out.on.later hb); replace KG := (aBlk.get HS.out).cell; replace KL := (aBlk.get HS.out).lt; clear hb)
    | (go_at_call 152; (with_reducible refine callsM (HC.out _ HS.out.on.b) ?_); rintro e w3 ⟨rfl, rfl⟩))
  all_goals go_ret
  all_goals refine ⟨?_, HS.out.on.b⟩
  all_goals
    go_light
    clear HN HG HR HC HK HO HD HS KG d5r
    refine congrArg (fun z => Ending.returned (Value.int .i64 z)) (?_ : _ = opE a)
    unfold opE
    rw [ho]
    generalize a.records.length = n at *
    generalize longF a = lf at *
    simp_all
    try (first | omega | (split <;> first | omega | (simp_all; omega)) | (intros; exfalso; simp_all; omega))
end Go.Proofs.YtafomdobfmmleaaGreatDoor

/- Texts turned into bytes; codec.PutNum of a number that is none below; op.Put. -/
namespace Go.Proofs.YtafomdobfmmleaaGreatDoor
open Go.RowKit Go.Deep
set_option linter.unusedVariables false

theorem bytesWorld_B (w : World) (e : TypeId) (s : ByteArray) : B w (Lib.bytesWorld w e s) :=
  ⟨rfl, rfl, rfl, by rw [Lib.bytesWorld_size]; omega, fun j hj => Lib.bytesWorld_at_old w e s j hj⟩
instance BB.bytesW (w w' : World) (e : TypeId) (s : ByteArray) [h : BB w w'] : BB w (Lib.bytesWorld w' e s) := ⟨h.out.trans (bytesWorld_B _ _ _)⟩
/-- a text's bytes -/
theorem conv_run (s : List UInt8) (w : World) : (convert 9 26 (.string (bstr s))).run Tryz.prog w = .ok (.slice (some ⟨w.heap.size, 0, none⟩) s.length (grownCap w s.length 0 5)) (Lib.bytesWorld w 5 (bstr s)) := by
  have hrun := Lib.run_convert_string_bytes (P := Tryz.prog) w 9 26 5 (bstr s) Tryz.underlying9 Tryz.underlying26 Tryz.underlying5
  rw [bstr_size s] at hrun
  exact hrun
theorem conv_Bs (s : List UInt8) (w : World) (hs : s.length ≤ 4194304) : Bs (Lib.bytesWorld w 5 (bstr s)) (.slice (some ⟨w.heap.size, 0, none⟩) s.length (grownCap w s.length 0 5)) s := by
  have hsz := bstr_size s
  refine ⟨⟨_, _, rfl, fun e => (by cases e), grownCap_ge _ _ _ _, grownCap_le_maxLen _ _ _ _ (by unfold maxLen; omega), fun ad had => ?_⟩, by unfold big; omega⟩
  cases had
  refine ⟨fun _ => by rw [Lib.bytesWorld_size]; simp, fun j u hu => ?_⟩
  have hj : j < s.length := by
    rcases Nat.lt_or_ge j s.length with h | h
    · exact h
    · rw [List.getElem?_eq_none (by rw [cellsB_len]; exact h)] at hu; cases hu
  rw [addr_at, Nat.zero_add, Lib.bytesWorld_cell w _ (bstr s) j (by rw [hsz]; exact hj), ← hu, cellsB_get s j hj]
  simp [bstr, hj]
theorem putN_c {w : World} {v : Value} {bs : List UInt8} (h : Bs w v bs) (k : Int) (hk : 0 ≤ k ∧ k < 18446744073709551616) (hl : bs.length + 10 ≤ big) : Calls Tryz.prog 112 #[v, .int .u64 k] w (Fresh w (bs ++ enc k.toNat)) := by
  have := putNum70 h k.toNat (by omega) hl
  rwa [Int.toNat_of_nonneg hk.1] at this
theorem byF_eq (bs x : List UInt8) : putB bs x = bs ++ byF x := by simp [putB, byF]
theorem St.toFresh {W w : World} {v : Value} {bs : List UInt8} {L : List Asn} (h : St W w (aBy v bs :: L)) : Fresh W bs (.returned v) w := by
  obtain ⟨own, hr, ho⟩ := h.get
  refine ⟨v, rfl, ⟨hr.1.1, ?_⟩, h.b⟩
  rcases hr.1.2 with h | ⟨g, cap, cur, hv, hg, r⟩
  · exact .inl h
  · exact .inr ⟨g, cap, cur, hv, (ho g (hr.2 g (by rw [hv]; rfl))).1, r⟩
theorem opE0 {o : OpD} (h : opE o = 0) : (0 ≤ o.kind ∧ o.kind ≤ 4) ∧ o = onlyF o ∧ (0 ≤ o.offset ∧ o.offset ≤ 9007199254740992) := by
  unfold opE at h
  split at h
  · cases h
  rename_i h1
  simp only [not_or, Bool.not_eq_false] at h1
  split at h
  · cases h
  split at h
  · cases h
  split at h
  · cases h
  split at h
  · cases h
  rename_i h5
  exact ⟨by have := h1.1; unfold kindOk at this; simpa using this, sameOp_iff.1 h1.2, by omega⟩
section
set_option maxRecDepth 20000
set_option maxHeartbeats 8000000
/-- op.Put of what may not be: the bytes anew -/
theorem opPut_bad {inn : Nat → Prop} {w : World} {v : Value} {bs : List UInt8} {cs : List Value} {a : OpD} (hb : Bs w v bs) (h : tOp.rd inn w cs a) (hne : opE a ≠ 0) :
    Calls Tryz.prog 108 #[v, .agg cs.toArray] w (Fresh w bs) := by
  have HR := Lib.hid (fun w' (hb : B w w') => tOp.later h hb)
  obtain ⟨v5, rfl, a1, a2, a3, a4, a5⟩ := tOp.parts h
  obtain ⟨A5, c5, e5, l5⟩ := tL.slice a5
  injection e5 with e5 _
  subst e5
  have HB := Lib.hid hb
  have HS := Lib.hid (aBlk.new (St.nil w) 40 #[.int .i64 a.kind, .string (bstr a.topic), .string (bstr a.group), .int .i64 a.offset, .slice A5 a.records.length c5])
  have g0 : (opE a != 0) = true := by simpa using hne
  clear h a5 a2 a3 hb hne
  go_enter Tryz.func108, Tryz.ntmps108
  go_wp2_with (first
    | (go_at_call 153; (with_reducible refine callsM (St.fresh HS.out.on (clone89 (HB.out.later HS.out.on.b))) ?_); rintro e w1 ⟨v1, rfl, hS⟩; replace HS := Lib.hid hS; clear hS; have KG := (aBlk.get HS.out.swap).cell)
    | (go_at_call 107; (with_reducible refine callsM (opE_c (HR.out _ HS.out.on.b)) ?_); rintro e w2 ⟨rfl, hb⟩; replace HS := Lib.hid (HS.out.on.later hb); clear hb; replace KG := (aBlk.get HS.out.swap).cell))
  go_ret
  exact HS.out.toFresh
end
set_option maxRecDepth 20000 in
set_option maxHeartbeats 8000000 in
theorem opPut0_c {inn : Nat → Prop} {w : World} {v : Value} {bs : List UInt8} {cs : List Value} {topic group : List UInt8} {offset : Int} {records : List (List UInt8)} (hb : Bs w v bs) (h : tOp.rd inn w cs ⟨0, topic, group, offset, records⟩) (h0 : opE ⟨0, topic, group, offset, records⟩ = 0)
    (hl : (bs ++ opB ⟨0, topic, group, offset, records⟩).length + 30 ≤ big) :
    Calls Tryz.prog 108 #[v, .agg cs.toArray] w (Fresh w (bs ++ opB ⟨0, topic, group, offset, records⟩)) := by
  have HR := Lib.hid (fun w' (hb : B w w') => tOp.later h hb)
  obtain ⟨v5, rfl, a1, a2, a3, a4, a5⟩ := tOp.parts h
  simp only at a2 a3 a4 a5
  have H5 := Lib.hid a5
  obtain ⟨A5, c5, e5, l5⟩ := tL.slice a5
  injection e5 with e5 _
  subst e5
  have HB := Lib.hid hb
  have HS := Lib.hid (aBlk.new (St.nil w) 40 #[.int .i64 0, .string (bstr topic), .string (bstr group), .int .i64 offset, .slice A5 records.length c5])
  have HT := Lib.hid a2
  have HGr := Lib.hid a3
  have hct := conv_run topic
  have hcg := conv_run group
  have HO0 := Lib.hid (show 0 ≤ offset ∧ offset ≤ 9007199254740992 from (opE0 h0).2.2)
  have HL := Lib.hid hl
  have hwo : IntKind.u64.wrap offset = offset := u64_id (by have := HO0.out; omega)
  have g0 : (opE ⟨0, topic, group, offset, records⟩ != 0) = false := by simp [h0]
  clear h a5 a2 a3 hb h0 hl a1 a4
  go_enter Tryz.func108, Tryz.ntmps108
  go_wp2_with (first
    | (go_at_call 153; (with_reducible refine callsM (St.fresh HS.out.on (clone89 (HB.out.later HS.out.on.b))) ?_); rintro e w1 ⟨v1, rfl, hS⟩; replace HS := Lib.hid hS; clear hS; have KG := (aBlk.get HS.out.swap).cell; have KL := (aBlk.get HS.out.swap).lt)
    | (go_at_call 107; (with_reducible refine callsM (opE_c (HR.out _ HS.out.on.b)) ?_); rintro e w2 ⟨rfl, hb⟩; replace HS := Lib.hid (HS.out.on.later hb); clear hb; replace KG := (aBlk.get HS.out.swap).cell; replace KL := (aBlk.get HS.out.swap).lt)
    | (go_at_call 112; (with_reducible refine callsM (St.fresh HS.out.on (putN_c (HS.out.on.byBs (by have := HL.out; simp [opB] at this ⊢; omega)) _ (by have := HO0.out; omega) (by have := HL.out; simp [opB] at this ⊢; omega))) ?_); rintro e w1 ⟨v1, rfl, hS⟩; replace HS := Lib.hid hS.drop2; clear hS; replace KG := (aBlk.get HS.out.swap).cell; replace KL := (aBlk.get HS.out.swap).lt)
    | (go_at_call 154; (with_reducible refine callsM (St.fresh HS.out.on (putBytes72 (HS.out.on.byBs (by have := HL.out; simp [opB, byF] at this ⊢; omega)) (conv_Bs topic _ HT.out) (by have := HL.out; simp [opB, byF] at this ⊢; omega))) ?_); rintro e w1 ⟨v1, rfl, hS⟩; replace HS := Lib.hid hS.drop2; clear hS; rw [byF_eq] at HS; replace KG := (aBlk.get HS.out.swap).cell; replace KL := (aBlk.get HS.out.swap).lt))
  go_ret
  have hS := HS.out.toFresh
  simpa [opB, byF, Int.toNat] using hS
set_option maxRecDepth 20000 in
set_option maxHeartbeats 8000000 in
theorem opPut1_c {inn : Nat → Prop} {w : World} {v : Value} {bs : List UInt8} {cs : List Value} {topic group : List UInt8} {offset : Int} {records : List (List UInt8)} (hb : Bs w v bs) (h : tOp.rd inn w cs ⟨1, topic, group, offset, records⟩) (h0 : opE ⟨1, topic, group, offset, records⟩ = 0)
    (hl : (bs ++ opB ⟨1, topic, group, offset, records⟩).length + 30 ≤ big) :
    Calls Tryz.prog 108 #[v, .agg cs.toArray] w (Fresh w (bs ++ opB ⟨1, topic, group, offset, records⟩)) := by
  have HR := Lib.hid (fun w' (hb : B w w') => tOp.later h hb)
  obtain ⟨v5, rfl, a1, a2, a3, a4, a5⟩ := tOp.parts h
  simp only at a2 a3 a4 a5
  have H5 := Lib.hid a5
  obtain ⟨A5, c5, e5, l5⟩ := tL.slice a5
  injection e5 with e5 _
  subst e5
  have HB := Lib.hid hb
  have HS := Lib.hid (aBlk.new (St.nil w) 40 #[.int .i64 1, .string (bstr topic), .string (bstr group), .int .i64 offset, .slice A5 records.length c5])
  have HT := Lib.hid a2
  have HGr := Lib.hid a3
  have hct := conv_run topic
  have hcg := conv_run group
  have HO0 := Lib.hid (show 0 ≤ offset ∧ offset ≤ 9007199254740992 from (opE0 h0).2.2)
  have HL := Lib.hid hl
  have hwo : IntKind.u64.wrap offset = offset := u64_id (by have := HO0.out; omega)
  have g0 : (opE ⟨1, topic, group, offset, records⟩ != 0) = false := by simp [h0]
  clear h a5 a2 a3 hb h0 hl a1 a4
  go_enter Tryz.func108, Tryz.ntmps108
  go_wp2_with (first
    | (go_at_call 153; (with_reducible refine callsM (St.fresh HS.out.on (clone89 (HB.out.later HS.out.on.b))) ?_); rintro e w1 ⟨v1, rfl, hS⟩; replace HS := Lib.hid hS; clear hS; have KG := (aBlk.get HS.out.swap).cell; have KL := (aBlk.get HS.out.swap).lt)
    | (go_at_call 107; (with_reducible refine callsM (opE_c (HR.out _ HS.out.on.b)) ?_); rintro e w2 ⟨rfl, hb⟩; replace HS := Lib.hid (HS.out.on.later hb); clear hb; replace KG := (aBlk.get HS.out.swap).cell; replace KL := (aBlk.get HS.out.swap).lt)
    | (go_at_call 112; (with_reducible refine callsM (St.fresh HS.out.on (putN_c (HS.out.on.byBs (by have := HL.out; simp [opB, byF] at this ⊢; omega)) _ (by have := HO0.out; omega) (by have := HL.out; simp [opB, byF] at this ⊢; omega))) ?_); rintro e w1 ⟨v1, rfl, hS⟩; replace HS := Lib.hid hS.drop2; clear hS; replace KG := (aBlk.get HS.out.swap).cell; replace KL := (aBlk.get HS.out.swap).lt)
    | (go_at_call 154; (with_reducible refine callsM (St.fresh HS.out.on (putBytes72 (HS.out.on.byBs (by have := HL.out; simp [opB, byF] at this ⊢; omega)) (conv_Bs topic _ HT.out) (by have := HL.out; simp [opB, byF] at this ⊢; omega))) ?_); rintro e w1 ⟨v1, rfl, hS⟩; replace HS := Lib.hid hS.drop2; clear hS; rw [byF_eq] at HS; replace KG := (aBlk.get HS.out.swap).cell; replace KL := (aBlk.get HS.out.swap).lt))
  go_ret
  have hS := HS.out.toFresh
  simpa [opB, byF, Int.toNat] using hS
set_option maxRecDepth 20000 in
set_option maxHeartbeats 8000000 in
theorem opPut4_c {inn : Nat → Prop} {w : World} {v : Value} {bs : List UInt8} {cs : List Value} {topic group : List UInt8} {offset : Int} {records : List (List UInt8)} (hb : Bs w v bs) (h : tOp.rd inn w cs ⟨4, topic, group, offset, records⟩) (h0 : opE ⟨4, topic, group, offset, records⟩ = 0)
    (hl : (bs ++ opB ⟨4, topic, group, offset, records⟩).length + 30 ≤ big) :
    Calls Tryz.prog 108 #[v, .agg cs.toArray] w (Fresh w (bs ++ opB ⟨4, topic, group, offset, records⟩)) := by
  have HR := Lib.hid (fun w' (hb : B w w') => tOp.later h hb)
  obtain ⟨v5, rfl, a1, a2, a3, a4, a5⟩ := tOp.parts h
  simp only at a2 a3 a4 a5
  have H5 := Lib.hid a5
  obtain ⟨A5, c5, e5, l5⟩ := tL.slice a5
  injection e5 with e5 _
  subst e5
  have HB := Lib.hid hb
  have HS := Lib.hid (aBlk.new (St.nil w) 40 #[.int .i64 4, .string (bstr topic), .string (bstr group), .int .i64 offset, .slice A5 records.length c5])
  have HT := Lib.hid a2
  have HGr := Lib.hid a3
  have hct := conv_run topic
  have hcg := conv_run group
  have HO0 := Lib.hid (show 0 ≤ offset ∧ offset ≤ 9007199254740992 from (opE0 h0).2.2)
  have HL := Lib.hid hl
  have hwo : IntKind.u64.wrap offset = offset := u64_id (by have := HO0.out; omega)
  have g0 : (opE ⟨4, topic, group, offset, records⟩ != 0) = false := by simp [h0]
  clear h a5 a2 a3 hb h0 hl a1 a4
  go_enter Tryz.func108, Tryz.ntmps108
  go_wp2_with (first
    | (go_at_call 153; (with_reducible refine callsM (St.fresh HS.out.on (clone89 (HB.out.later HS.out.on.b))) ?_); rintro e w1 ⟨v1, rfl, hS⟩; replace HS := Lib.hid hS; clear hS; have KG := (aBlk.get HS.out.swap).cell; have KL := (aBlk.get HS.out.swap).lt)
    | (go_at_call 107; (with_reducible refine callsM (opE_c (HR.out _ HS.out.on.b)) ?_); rintro e w2 ⟨rfl, hb⟩; replace HS := Lib.hid (HS.out.on.later hb); clear hb; replace KG := (aBlk.get HS.out.swap).cell; replace KL := (aBlk.get HS.out.swap).lt)
    | (go_at_call 112; (with_reducible refine callsM (St.fresh HS.out.on (putN_c (HS.out.on.byBs (by have := HL.out; simp [opB, byF] at this ⊢; omega)) _ (by have := HO0.out; omega) (by have := HL.out; simp [opB, byF] at this ⊢; omega))) ?_); rintro e w1 ⟨v1, rfl, hS⟩; replace HS := Lib.hid hS.drop2; clear hS; replace KG := (aBlk.get HS.out.swap).cell; replace KL := (aBlk.get HS.out.swap).lt)
    | (go_at_call 154; (with_reducible refine callsM (St.fresh HS.out.on (putBytes72 (HS.out.on.byBs (by have := HL.out; simp [opB, byF] at this ⊢; omega)) (conv_Bs topic _ HT.out) (by have := HL.out; simp [opB, byF] at this ⊢; omega))) ?_); rintro e w1 ⟨v1, rfl, hS⟩; replace HS := Lib.hid hS.drop2; clear hS; rw [byF_eq] at HS; replace KG := (aBlk.get HS.out.swap).cell; replace KL := (aBlk.get HS.out.swap).lt))
  go_ret
  have hS := HS.out.toFresh
  simpa [opB, byF, Int.toNat] using hS
set_option maxRecDepth 20000 in
set_option maxHeartbeats 8000000 in
theorem opPut3_c {inn : Nat → Prop} {w : World} {v : Value} {bs : List UInt8} {cs : List Value} {topic group : List UInt8} {offset : Int} {records : List (List UInt8)} (hb : Bs w v bs) (h : tOp.rd inn w cs ⟨3, topic, group, offset, records⟩) (h0 : opE ⟨3, topic, group, offset, records⟩ = 0)
    (hl : (bs ++ opB ⟨3, topic, group, offset, records⟩).length + 30 ≤ big) :
    Calls Tryz.prog 108 #[v, .agg cs.toArray] w (Fresh w (bs ++ opB ⟨3, topic, group, offset, records⟩)) := by
  have HR := Lib.hid (fun w' (hb : B w w') => tOp.later h hb)
  obtain ⟨v5, rfl, a1, a2, a3, a4, a5⟩ := tOp.parts h
  simp only at a2 a3 a4 a5
  have H5 := Lib.hid a5
  obtain ⟨A5, c5, e5, l5⟩ := tL.slice a5
  injection e5 with e5 _
  subst e5
  have HB := Lib.hid hb
  have HS := Lib.hid (aBlk.new (St.nil w) 40 #[.int .i64 3, .string (bstr topic), .string (bstr group), .int .i64 offset, .slice A5 records.length c5])
  have HT := Lib.hid a2
  have HGr := Lib.hid a3
  have hct := conv_run topic
  have hcg := conv_run group
  have HO0 := Lib.hid (show 0 ≤ offset ∧ offset ≤ 9007199254740992 from (opE0 h0).2.2)
  have HL := Lib.hid hl
  have hwo : IntKind.u64.wrap offset = offset := u64_id (by have := HO0.out; omega)
  have g0 : (opE ⟨3, topic, group, offset, records⟩ != 0) = false := by simp [h0]
  clear h a5 a2 a3 hb h0 hl a1 a4
  go_enter Tryz.func108, Tryz.ntmps108
  go_wp2_with (first
    | (go_at_call 153; (with_reducible refine callsM (St.fresh HS.out.on (clone89 (HB.out.later HS.out.on.b))) ?_); rintro e w1 ⟨v1, rfl, hS⟩; replace HS := Lib.hid hS; clear hS; have KG := (aBlk.get HS.out.swap).cell; have KL := (aBlk.get HS.out.swap).lt)
    | (go_at_call 107; (with_reducible refine callsM (opE_c (HR.out _ HS.out.on.b)) ?_); rintro e w2 ⟨rfl, hb⟩; replace HS := Lib.hid (HS.out.on.later hb); clear hb; replace KG := (aBlk.get HS.out.swap).cell; replace KL := (aBlk.get HS.out.swap).lt)
    | (go_at_call 112; (with_reducible refine callsM (St.fresh HS.out.on (putN_c (HS.out.on.byBs (by have := HL.out; simp [opB, byF] at this ⊢; omega)) _ (by have := HO0.out; omega) (by have := HL.out; simp [opB, byF] at this ⊢; omega))) ?_); rintro e w1 ⟨v1, rfl, hS⟩; replace HS := Lib.hid hS.drop2; clear hS; replace KG := (aBlk.get HS.out.swap).cell; replace KL := (aBlk.get HS.out.swap).lt)
    | (go_at_call 154; (with_reducible refine callsM (St.fresh HS.out.on (putBytes72 (HS.out.on.byBs (by have := HL.out; simp [opB, byF] at this ⊢; omega)) (conv_Bs topic _ HT.out) (by have := HL.out; simp [opB, byF] at this ⊢; omega))) ?_); rintro e w1 ⟨v1, rfl, hS⟩; replace HS := Lib.hid hS.drop2; clear hS; rw [byF_eq] at HS; replace KG := (aBlk.get HS.out.swap).cell; replace KL := (aBlk.get HS.out.swap).lt))
  have hbw2 := fun i => (Lib.bytesWorld_old w1.drew 5 (bstr group) ⟨w.heap.size, i, none⟩ KL).trans (KG i)
  go_region_with (first
    | (go_at_call 154; (with_reducible refine callsM (St.fresh HS.out.on (putBytes72 (HS.out.on.byBs (by have := HL.out; simp [opB, byF] at this ⊢; omega)) (conv_Bs group _ HGr.out) (by have := HL.out; simp [opB, byF] at this ⊢; omega))) ?_); rintro e w1 ⟨v1, rfl, hS⟩; replace HS := Lib.hid hS.drop2; clear hS; rw [byF_eq] at HS; replace KG := (aBlk.get HS.out.swap).cell; replace KL := (aBlk.get HS.out.swap).lt)
    | (go_at_call 112; (with_reducible refine callsM (St.fresh HS.out.on (putN_c (HS.out.on.byBs (by have := HL.out; simp [opB, byF] at this ⊢; omega)) _ (by have := HO0.out; omega) (by have := HL.out; simp [opB, byF] at this ⊢; omega))) ?_); rintro e w1 ⟨v1, rfl, hS⟩; replace HS := Lib.hid hS.drop2; clear hS; replace KG := (aBlk.get HS.out.swap).cell; replace KL := (aBlk.get HS.out.swap).lt))
  all_goals
    go_wp2
    go_ret
    have hS := HS.out.toFresh
    simpa [opB, byF, Int.toNat] using hS
end Go.Proofs.YtafomdobfmmleaaGreatDoor

/- op.Put of a publish; op.Put, op.Bytes whole. -/
namespace Go.Proofs.YtafomdobfmmleaaGreatDoor
open Go.RowKit Go.Deep
set_option linter.unusedVariables false

set_option maxRecDepth 20000 in
set_option maxHeartbeats 8000000 in
theorem opPut2_c {inn : Nat → Prop} {w : World} {v : Value} {bs : List UInt8} {cs : List Value} {topic group : List UInt8} {offset : Int} {records : List (List UInt8)} (hb : Bs w v bs) (h : tOp.rd inn w cs ⟨2, topic, group, offset, records⟩) (h0 : opE ⟨2, topic, group, offset, records⟩ = 0)
    (hl : (bs ++ opB ⟨2, topic, group, offset, records⟩).length + 30 ≤ big) :
    Calls Tryz.prog 108 #[v, .agg cs.toArray] w (Fresh w (bs ++ opB ⟨2, topic, group, offset, records⟩)) := by
  have HR := Lib.hid (fun w' (hb : B w w') => tOp.later h hb)
  obtain ⟨v5, rfl, a1, a2, a3, a4, a5⟩ := tOp.parts h
  simp only at a2 a3 a4 a5
  have H5 := Lib.hid a5
  obtain ⟨A5, c5, e5, l5⟩ := tL.slice a5
  injection e5 with e5 _
  subst e5
  have HB := Lib.hid hb
  have HS := Lib.hid (aBlk.new (St.nil w) 40 #[.int .i64 2, .string (bstr topic), .string (bstr group), .int .i64 offset, .slice A5 records.length c5])
  have HT := Lib.hid a2
  have HGr := Lib.hid a3
  have hct := conv_run topic
  have hcg := conv_run group
  have HO0 := Lib.hid (show 0 ≤ offset ∧ offset ≤ 9007199254740992 from (opE0 h0).2.2)
  have HL := Lib.hid hl
  have hwn : IntKind.u64.wrap (records.length : Int) = records.length := u64_id (by omega)
  have hwo : IntKind.u64.wrap offset = offset := u64_id (by have := HO0.out; omega)
  have g0 : (opE ⟨2, topic, group, offset, records⟩ != 0) = false := by simp [h0]
  clear h a5 a2 a3 hb h0 hl a1 a4
  go_enter Tryz.func108, Tryz.ntmps108
  go_wp2_with (first
    | (go_at_call 153; (with_reducible refine callsM (St.fresh HS.out.on (clone89 (HB.out.later HS.out.on.b))) ?_); rintro e w1 ⟨v1, rfl, hS⟩; replace HS := Lib.hid hS; clear hS; have KG := (aBlk.get HS.out.swap).cell; have KL := (aBlk.get HS.out.swap).lt)
    | (go_at_call 107; (with_reducible refine callsM (opE_c (HR.out _ HS.out.on.b)) ?_); rintro e w2 ⟨rfl, hb⟩; replace HS := Lib.hid (HS.out.on.later hb); clear hb; replace KG := (aBlk.get HS.out.swap).cell; replace KL := (aBlk.get HS.out.swap).lt)
    | (go_at_call 112; (with_reducible refine callsM (St.fresh HS.out.on (putN_c (HS.out.on.byBs (by have := HL.out; simp [opB, byF] at this ⊢; omega)) _ (by first | omega | (have := HO0.out; omega)) (by have := HL.out; simp [opB, byF] at this ⊢; omega))) ?_); rintro e w1 ⟨v1, rfl, hS⟩; replace HS := Lib.hid hS.drop2; clear hS; replace KG := (aBlk.get HS.out.swap).cell; replace KL := (aBlk.get HS.out.swap).lt)
    | (go_at_call 154; (with_reducible refine callsM (St.fresh HS.out.on (putBytes72 (HS.out.on.byBs (by have := HL.out; simp [opB, byF] at this ⊢; omega)) (conv_Bs topic _ HT.out) (by have := HL.out; simp [opB, byF] at this ⊢; omega))) ?_); rintro e w1 ⟨v1, rfl, hS⟩; replace HS := Lib.hid hS.drop2; clear hS; rw [byF_eq] at HS; replace KG := (aBlk.get HS.out.swap).cell; replace KL := (aBlk.get HS.out.swap).lt))
  have HQ := Lib.hid (show ∀ q, q < records.length → ((records.take q).flatMap byF).length + (byF (records[q]?.getD [])).length ≤ (records.flatMap byF).length from fun q hq => by
    have e := congrArg (fun l => (l.flatMap byF).length) (List.take_append_drop (q + 1) records)
    rw [List.take_succ_eq_append_getElem hq] at e
    simp only [List.flatMap_append, List.length_append, List.flatMap_cons, List.flatMap_nil, List.append_nil] at e
    rw [List.getElem?_eq_getElem hq]
    simp only [Option.getD_some]
    omega)
  go_loopw [5, 40] (fun v i wr => ∃ (q : Nat) (z : List UInt8), q ≤ records.length ∧ i = .int .i64 q ∧ Hid (z = bs ++ enc 2 ++ byF topic ++ enc records.length ++ (records.take q).flatMap byF) ∧ Hid (St w wr [aBy v z, aBlk w.heap.size 40 #[.int .i64 2, .string (bstr topic), .string (bstr group), .int .i64 offset, .slice A5 records.length c5]])) (fun _ i _ => records.length - (intOf i).toNat)
  case atStart =>
    exact ⟨0, bs ++ enc 2 ++ byF topic ++ enc records.length, Nat.zero_le _, rfl, Lib.hid (by simp), Lib.hid (by have hS := HS.out; simpa using hS)⟩
  case round =>
    obtain ⟨q, z, hq, rfl, HZ, HS⟩ := hrel
    by_cases hlt : q < records.length
    · obtain ⟨x, hx⟩ : ∃ x, records[q]? = some x := ⟨_, List.getElem?_eq_getElem hlt⟩
      obtain ⟨_, b, off, ds, rfl, r1, k1⟩ := tL.at H5.out hx
      obtain ⟨u1, rfl⟩ := len1 (tY.len r1)
      have d0 := B.cell HS.out.b (k1 0 _ rfl)
      simp only [show tY.n = 1 from rfl, Nat.mul_one, Nat.add_zero] at d0
      have HX := Lib.hid hx
      have HXB := Lib.hid (fun (w' : World) (hb : B w w') => (tY.bs r1).later hb)
      have hqi : (q : Int) < records.length := by omega
      have HZL := Lib.hid (show z.length + x.length + 20 ≤ big from by
        have h1 := HL.out
        have h2 := HQ.out q hlt
        rw [hx] at h2
        have h3 := congrArg List.length HZ.out
        have e : opB ⟨2, topic, group, offset, records⟩ = enc 2 ++ byF topic ++ (enc records.length ++ records.flatMap byF) := rfl
        have hx2 : (byF x).length = (enc x.length).length + x.length := by simp [byF]
        rw [e] at h1
        simp only [List.length_append, Option.getD_some] at h1 h2 h3
        omega)
      obtain ⟨A6, c6, rfl⟩ := (tY.bs r1).rd.slice
      clear r1 k1 hx
      go_wp2_with (first
        | (go_at_call 154; (with_reducible refine callsM (St.fresh HS.out.on (putBytes72 (HS.out.on.byBs (by have := HZL.out; omega)) (HXB.out _ HS.out.on.b) (by have := HZL.out; simp; omega))) ?_); rintro e w1 ⟨v1, rfl, hS⟩; replace HS := Lib.hid hS.drop2; clear hS; rw [byF_eq] at HS))
      go_roundw
      case rel =>
        refine ⟨q + 1, _, by omega, by go_num, ?_, HS.out⟩
        show z ++ byF x = _
        rw [HZ.out, List.take_add_one, HX.out]
        simp
      case measure => simp [intOf]; omega
    · have hqi : ¬ (q : Int) < records.length := by omega
      have HZ2 := Lib.hid (show z = bs ++ opB ⟨2, topic, group, offset, records⟩ from by
        rw [HZ.out, List.take_of_length_le (by omega)]
        simp [opB, byF])
      clear hlt hq
      go_wp2
      go_ret
      rw [← HZ2.out]
      exact HS.out.toFresh
theorem opPut_c {inn : Nat → Prop} {w : World} {v : Value} {bs : List UInt8} {cs : List Value} {a : OpD} (hb : Bs w v bs) (h : tOp.rd inn w cs a) (hl : (bs ++ opB a).length + 30 ≤ big) :
    Calls Tryz.prog 108 #[v, .agg cs.toArray] w (Fresh w (bs ++ if opE a = 0 then opB a else [])) := by
  by_cases h0 : opE a = 0
  · rw [if_pos h0]
    have hk := (opE0 h0).1
    obtain ⟨kind, topic, group, offset, records⟩ := a
    simp only at hk
    have hc : kind = 0 ∨ kind = 1 ∨ kind = 2 ∨ kind = 3 ∨ kind = 4 := by omega
    rcases hc with rfl | rfl | rfl | rfl | rfl
    · exact opPut0_c hb h h0 hl
    · exact opPut1_c hb h h0 hl
    · exact opPut2_c hb h h0 hl
    · exact opPut3_c hb h h0 hl
    · exact opPut4_c hb h h0 hl
  · rw [if_neg h0, List.append_nil]
    exact opPut_bad hb h h0
/-- op.Bytes -/
theorem opBytes_c {inn : Nat → Prop} {w : World} {cs : List Value} {a : OpD} (h : tOp.rd inn w cs a) (hl : (opB a).length + 30 ≤ big) :
    Calls Tryz.prog 66 #[.agg cs.toArray] w fun e w' => ∃ v, e = .returned (.tuple #[v, .int .i64 (opE a)]) ∧ St w w' [aBy v (if opE a = 0 then opB a else [])] := by
  have HR := Lib.hid (fun w' (hb : B w w') => tOp.later h hb)
  obtain ⟨v5, rfl, a1, a2, a3, a4, a5⟩ := tOp.parts h
  obtain ⟨A5, c5, e5, l5⟩ := tL.slice a5
  injection e5 with e5 _
  subst e5
  have HL := Lib.hid hl
  have HS := Lib.hid (aBlk.new (St.nil w) 40 #[.int .i64 a.kind, .string (bstr a.topic), .string (bstr a.group), .int .i64 a.offset, .slice A5 a.records.length c5])
  by_cases h0 : opE a = 0
  · have HP := Lib.hid (fun (w' : World) (hb : B w w') => by have := opPut_c (Bs.nil w') (HR.out w' hb) hl; rw [if_pos h0, List.nil_append] at this; exact this)
    have HC := Lib.hid (fun (w' : World) (hb : B w w') => by have := opE_c (HR.out w' hb); rw [h0] at this; exact this)
    have H0 := Lib.hid h0
    clear h a5 a2 a3 h0 hl
    go_enter Tryz.func66, Tryz.ntmps66
    go_wp2_with (first
      | (go_at_call 107; (with_reducible refine callsM (HC.out _ HS.out.on.b) ?_); rintro e w2 ⟨rfl, hb⟩; replace HS := Lib.hid (HS.out.on.later hb); clear hb; have KG := (aBlk.get HS.out).cell)
      | (go_at_call 108; (with_reducible refine callsM (St.fresh HS.out.on (HP.out _ HS.out.on.b)) ?_); rintro e w1 ⟨v1, rfl, hS⟩; replace HS := Lib.hid hS; clear hS))
    go_ret2
    exact ⟨v1, by simp [], by simpa [H0.out] using HS.out.drop2⟩
  · have g0 : (opE a != 0) = true := by simpa using h0
    have H0 := Lib.hid h0
    clear h a5 a2 a3 h0 hl
    go_enter Tryz.func66, Tryz.ntmps66
    go_wp2_with (first
      | (go_at_call 107; (with_reducible refine callsM (opE_c (HR.out _ HS.out.on.b)) ?_); rintro e w2 ⟨rfl, hb⟩; replace HS := Lib.hid (HS.out.on.later hb); clear hb; have KG := (aBlk.get HS.out).cell))
    go_ret2
    exact ⟨.slice none 0 0, by simp, by simpa [H0.out] using (aBy.nil HS.out).drop2⟩
end Go.Proofs.YtafomdobfmmleaaGreatDoor

/- Requests and signatures: what may be. -/
namespace Go.Proofs.YtafomdobfmmleaaGreatDoor
open Go.RowKit Go.Deep
set_option linter.unusedVariables false

set_option maxRecDepth 20000 in
set_option maxHeartbeats 4000000 in
theorem signE_c {w : World} {k d : Int} : Calls Tryz.prog 307 #[.agg #[.int .i64 k, .int .i64 d]] w fun e w' => e = .returned (.int .i64 (signE ⟨k, d⟩)) ∧ B w w' := by
  go_enter Tryz.func307, Tryz.ntmps307
  go_wp2
  all_goals go_ret
  all_goals refine ⟨?_, BB.out⟩
  all_goals
    go_light
    refine congrArg (fun z => Ending.returned (Value.int .i64 z)) (?_ : _ = signE ⟨k, d⟩)
    unfold signE
    simp only
    split <;> first | rfl | (exfalso; omega)
set_option maxRecDepth 20000 in
set_option maxHeartbeats 4000000 in
theorem reqE_c {inn : Nat → Prop} {w : World} {cs : List Value} {a : RequestD} (h : tRequest.rd inn w cs a) :
    Calls Tryz.prog 316 #[.agg cs.toArray] w fun e w' => e = .returned (.int .i64 (reqE a)) ∧ B w w' := by
  obtain ⟨v, rfl, a1, a2, o1, o2, o3, o4, o5⟩ := tRequest.parts h
  have HC := Lib.hid (fun (w' : World) (hb : B w w') => opE_c (tOp.mk (s := a.op) o1 o2 o3 o4 ((tL tY).later o5 hb)))
  obtain ⟨A5, c5, e5, l5⟩ := tL.slice o5
  injection e5 with e5 _
  subst e5
  clear h o5 o2 o3
  go_enter Tryz.func316, Tryz.ntmps316
  go_wp2_with (first
    | (go_at_call 107; (with_reducible refine callsM (HC.out _ BB.out) ?_); rintro e w1 ⟨rfl, hb⟩; have HB := Lib.hid ((BB.out : B w _).trans hb); clear hb))
  all_goals go_ret
  all_goals refine ⟨?_, by first | exact HB.out | exact BB.out⟩
  all_goals
    go_light
    refine congrArg (fun z => Ending.returned (Value.int .i64 z)) (?_ : _ = reqE a)
    unfold reqE
    split <;> first | rfl | (exfalso; omega)
end Go.Proofs.YtafomdobfmmleaaGreatDoor

/- Batches: what may be (request.CheckBatch). -/
namespace Go.Proofs.YtafomdobfmmleaaGreatDoor
open Go.RowKit Go.Deep
set_option linter.unusedVariables false

def twinP (l : List SignedD) (i k : Nat) : Bool := match l[i]?, l[k]? with | some a, some b => twin a b | _, _ => false
theorem twinsF_eq (l : List SignedD) : twinsF l = (List.range l.length).any fun i => (List.range i).any fun k => twinP l i k := rfl
theorem partsE_snoc (l : List SignedD) (s : SignedD) : partsE (l ++ [s]) = orE (partsE l) (orE (reqE s.request) (signE s.sign)) := by
  induction l with
  | nil => simp only [List.nil_append, partsE, z_orE, orE_z]
  | cons y r ih => simp only [List.cons_append, partsE, ih, orE_assoc]
theorem partsE_app (l r : List SignedD) : partsE (l ++ r) = orE (partsE l) (partsE r) := by
  induction l with
  | nil => simp only [List.nil_append, partsE, z_orE]
  | cons y r ih => simp only [List.cons_append, partsE, ih, orE_assoc]
theorem partsE_at {l : List SignedD} {q : Nat} {x : SignedD} (h : l[q]? = some x) (h0 : partsE (l.take q) = 0) : partsE (l.take (q + 1)) = orE (reqE x.request) (signE x.sign) ∧ ∃ r, partsE l = orE (partsE (l.take (q + 1))) r := by
  have e : l.take (q + 1) = l.take q ++ [x] := by rw [List.take_add_one, h]; rfl
  refine ⟨by rw [e, partsE_snoc, h0, z_orE], partsE (l.drop (q + 1)), ?_⟩
  rw [← partsE_app, List.take_append_drop]
theorem tL.full {α : Type} {T : Ty α} {inn : Nat → Prop} {w : World} {cs : List Value} {xs : List α} (h : (tL T).rd inn w cs xs) : ∃ A cap, cs = [.slice A xs.length cap] ∧ xs.length ≤ cap ∧ cap ≤ maxLen ∧ xs.length ≤ 4194304 := by
  obtain ⟨A, cap, rfl, h1, h2, _, h4, _⟩ := h
  exact ⟨A, cap, rfl, h1, h2, h4⟩
set_option maxRecDepth 20000 in
set_option maxHeartbeats 8000000 in
theorem batchE_c {inn : Nat → Prop} {w : World} {v : Value} {s : List SignedD} (h : (tL tSigned).rd inn w [v] s) :
    Calls Tryz.prog 296 #[v] w fun e w' => e = .returned (.int .i64 (batchE s)) ∧ B w w' := by
  obtain ⟨A, c, e1, hlc, hcm, hs⟩ := tL.full h
  injection e1 with e1 _
  subst e1
  have HR := Lib.hid h
  obtain ⟨l, hl0⟩ : ∃ l, s.length = l := ⟨_, rfl⟩
  have HL0 := Lib.hid hl0
  rw [hl0] at hs hlc ⊢
  have hcm2 : (c : Int) ≤ 9223372036854775807 := by unfold maxLen at hcm; omega
  clear h hl0 hcm
  by_cases h4 : 4 < l
  · have g4 : (4 : Int) < l := by omega
    have E := Lib.hid (show batchE s = 3 from by unfold batchE; rw [if_pos (by have := HL0.out; omega)])
    clear h4
    go_enter Tryz.func296, Tryz.ntmps296
    go_wp2
    go_ret
    exact ⟨by rw [E.out]; rfl, BB.out⟩
  have g4 : ¬ (4 : Int) < l := by omega
  have HE := Lib.hid (show batchE s = orE (partsE s) (if twinsF s then 5 else 0) from by unfold batchE; rw [if_neg (by have := HL0.out; omega)])
  clear h4
  go_enter Tryz.func296, Tryz.ntmps296
  go_wp2
  go_loopw [16] (fun i wr => ∃ q : Nat, q ≤ l ∧ i = .int .i64 q ∧ Hid (partsE (s.take q) = 0) ∧ Hid (B w wr)) (fun i _ => l - (intOf i).toNat)
  case atStart => exact ⟨0, Nat.zero_le _, rfl, by simp [Hid, partsE], Below.refl _ _⟩
  case round =>
    obtain ⟨q, hq, rfl, HP, HW⟩ := hrel
    by_cases hlt : q < l
    · obtain ⟨x, hx⟩ : ∃ x, s[q]? = some x := ⟨_, List.getElem?_eq_getElem (by have := HL0.out; omega)⟩
      obtain ⟨_, b, off, cs, rfl, r1, k1⟩ := tL.at ((tL tSigned).later HR.out HW.out) hx
      obtain ⟨ev1, rfl, a1, a2, o1, o2, o3, o4, o5, a6, a7⟩ := tSigned.parts r1
      have HC := Lib.hid (fun (w' : World) (hb : B wr w') => reqE_c (tRequest.mk (s := x.request) a1 a2 o1 o2 o3 o4 ((tL tY).later o5 hb)))
      obtain ⟨eA, ec, ee, _⟩ := tL.slice o5
      injection ee with ee _
      subst ee
      have c0 := k1 0 _ rfl
      have c1 := k1 1 _ rfl
      have c2 := k1 2 _ rfl
      have c3 := k1 3 _ rfl
      have c4 := k1 4 _ rfl
      have c5 := k1 5 _ rfl
      have c6 := k1 6 _ rfl
      have c7 := k1 7 _ rfl
      have c8 := k1 8 _ rfl
      simp only [show tSigned.n = 9 from rfl, Nat.add_zero] at c0 c1 c2 c3 c4 c5 c6 c7 c8
      have HX := Lib.hid (partsE_at hx HP.out)
      have HS := Lib.hid (aBlk.new (St.nil wr) 183 #[.int .i64 x.request.client, .int .i64 x.request.time, .int .i64 x.request.op.kind, .string (bstr x.request.op.topic), .string (bstr x.request.op.group), .int .i64 x.request.op.offset, .slice eA x.request.op.records.length ec, .int .i64 x.sign.key, .int .i64 x.sign.digest])
      have hqi : (q : Int) < l := by omega
      clear r1 k1 hx o5 o2 o3
      go_wp2_with (first
        | (go_at_call 316; (with_reducible refine callsM (HC.out _ BB.out) ?_); rintro e w1 ⟨rfl, hb⟩; replace HS := Lib.hid (HS.out.on.later hb); have KG := (aBlk.get HS.out).cell; have KL := (aBlk.get HS.out).lt; clear hb c0 c1 c2 c3 c4 c5 c6 c7 c8)
        | (go_at_call 307; (with_reducible refine callsM signE_c ?_); rintro e w1 ⟨rfl, hb⟩; replace HS := Lib.hid (HS.out.on.later hb); replace KG := (aBlk.get HS.out).cell; replace KL := (aBlk.get HS.out).lt; clear hb))
      · go_ret
        refine ⟨?_, HW.out.trans HS.out.b⟩
        obtain ⟨e1, r, e2⟩ := HX.out
        have hne : reqE x.request ≠ 0 := by simpa using ‹(reqE x.request != 0) = true›
        rw [HE.out, e2, e1]
        simp [orE, hne]
      · go_ret
        refine ⟨?_, HW.out.trans HS.out.b⟩
        obtain ⟨e1, r, e2⟩ := HX.out
        have hne : signE x.sign ≠ 0 := by simpa using ‹(signE ⟨x.sign.key, x.sign.digest⟩ != 0) = true›
        have hz : reqE x.request = 0 := by simpa using ‹(reqE x.request != 0) = false›
        rw [HE.out, e2, e1, hz]
        simp [orE, hne]
      · have hz : reqE x.request = 0 := by simpa using ‹(reqE x.request != 0) = false›
        have hs0 : signE x.sign = 0 := by simpa using ‹(signE ⟨x.sign.key, x.sign.digest⟩ != 0) = false›
        refine ⟨⟨q + 1, by omega, by go_num, ?_, HW.out.trans HS.out.b⟩, by simp [intOf]; omega⟩
        show partsE _ = 0
        rw [HX.out.1, hz, hs0]
        rfl
    · have hqi : ¬ (q : Int) < l := by omega
      have HP0 := Lib.hid (show batchE s = if twinsF s then 5 else 0 from by
        have := HP.out
        rw [List.take_of_length_le (by have := HL0.out; omega)] at this
        rw [HE.out, this, z_orE])
      clear hlt hq
      go_wp2
      go_loopw [35] (fun i wr => ∃ q : Nat, q ≤ l ∧ i = .int .i64 q ∧ Hid (∀ j, j < q → ∀ k, k < j → twinP s j k = false) ∧ Hid (B w wr)) (fun i _ => l - (intOf i).toNat)
      case atStart => exact ⟨0, Nat.zero_le _, rfl, fun j hj => by omega, HW.out⟩
      case round =>
        obtain ⟨q2, hq, rfl, HT, HW2⟩ := hrel
        by_cases hlt : q2 < l
        · obtain ⟨x, hx⟩ : ∃ x, s[q2]? = some x := ⟨_, List.getElem?_eq_getElem (by have := HL0.out; omega)⟩
          obtain ⟨_, b, off, cs, rfl, r1, k1⟩ := tL.at ((tL tSigned).later HR.out HW2.out) hx
          obtain ⟨ev1, rfl, a1, a2, o1, o2, o3, o4, o5, a6, a7⟩ := tSigned.parts r1
          obtain ⟨eA, ec, ee, _⟩ := tL.slice o5
          injection ee with ee _
          subst ee
          have c0 := k1 0 _ rfl
          have c1 := k1 1 _ rfl
          have c2 := k1 2 _ rfl
          have c3 := k1 3 _ rfl
          have c4 := k1 4 _ rfl
          have c5 := k1 5 _ rfl
          have c6 := k1 6 _ rfl
          have c7 := k1 7 _ rfl
          have c8 := k1 8 _ rfl
          simp only [show tSigned.n = 9 from rfl, Nat.add_zero] at c0 c1 c2 c3 c4 c5 c6 c7 c8
          have HX := Lib.hid hx
          have HS := Lib.hid (aBlk.new (St.nil wr) 183 #[.int .i64 x.request.client, .int .i64 x.request.time, .int .i64 x.request.op.kind, .string (bstr x.request.op.topic), .string (bstr x.request.op.group), .int .i64 x.request.op.offset, .slice eA x.request.op.records.length ec, .int .i64 x.sign.key, .int .i64 x.sign.digest])
          have hqi : (q2 : Int) < l := by omega
          have hqc : (q2 : Int) ≤ c := by omega
          clear r1 k1 hx o5 o2 o3 a1 a2 o1 o4 a6 a7
          go_wp2
          go_loopw [44] (fun i wz => ∃ r : Nat, r ≤ q2 ∧ i = .int .i64 r ∧ Hid (∀ k, k < r → twinP s q2 k = false) ∧ Hid (St wr wz [aBlk wr.heap.size 183 #[.int .i64 x.request.client, .int .i64 x.request.time, .int .i64 x.request.op.kind, .string (bstr x.request.op.topic), .string (bstr x.request.op.group), .int .i64 x.request.op.offset, .slice eA x.request.op.records.length ec, .int .i64 x.sign.key, .int .i64 x.sign.digest]])) (fun i _ => q2 - (intOf i).toNat)
          case atStart => exact ⟨0, Nat.zero_le _, rfl, fun k hk => by omega, HS.out⟩
          case round =>
            obtain ⟨r, hr, rfl, HK, HZ⟩ := hrel
            have KG := (aBlk.get HZ.out).cell
            have KL := (aBlk.get HZ.out).lt
            by_cases hrt : r < q2
            · obtain ⟨y, hy⟩ : ∃ y, s[r]? = some y := ⟨_, List.getElem?_eq_getElem (by have := HL0.out; omega)⟩
              obtain ⟨_, b', off', ds, eb, r2, k2⟩ := tL.at ((tL tSigned).later HR.out (HW2.out.trans HZ.out.b)) hy
              injection eb with eb
              injection eb with eb1 eb2
              subst eb1 eb2
              obtain ⟨fv1, rfl, _, _, _, _, _, _, p5, _, _⟩ := tSigned.parts r2
              obtain ⟨fA, fc, fe, _⟩ := tL.slice p5
              injection fe with fe _
              subst fe
              have d0 := k2 0 _ rfl
              have d1 := k2 1 _ rfl
              have d2 := k2 2 _ rfl
              have d3 := k2 3 _ rfl
              have d4 := k2 4 _ rfl
              have d5 := k2 5 _ rfl
              have d6 := k2 6 _ rfl
              have d7 := k2 7 _ rfl
              have d8 := k2 8 _ rfl
              simp only [show tSigned.n = 9 from rfl, Nat.add_zero] at d0 d1 d2 d3 d4 d5 d6 d7 d8
              have HY := Lib.hid hy
              have hri : (r : Int) < q2 := by omega
              have HT2 := Lib.hid (show twinP s q2 r = (decide (x.request.client = y.request.client) && decide (x.request.time = y.request.time)) from by unfold twinP; rw [HX.out, HY.out]; rfl)
              clear r2 k2 hy p5 c0 c1 c2 c3 c4 c5 c6 c7 c8
              by_cases ht : twinP s q2 r = true
              · have E := Lib.hid (show batchE s = 5 from by
                  have htt : twinsF s = true := by
                    rw [twinsF_eq, List.any_eq_true]
                    refine ⟨q2, by rw [List.mem_range]; have := HL0.out; omega, ?_⟩
                    rw [List.any_eq_true]
                    exact ⟨r, by rw [List.mem_range]; exact hrt, ht⟩
                  rw [HP0.out, htt]
                  rfl)
                have h2 := HT2.out
                rw [ht] at h2
                have h3 := h2.symm
                clear h2
                simp only [Bool.and_eq_true, decide_eq_true_eq] at h3
                obtain ⟨h21, h22⟩ := h3
                have g1 : (x.request.client == y.request.client) = true := by simpa using h21
                have g2 : (x.request.time == y.request.time) = true := by simpa using h22
                clear h21 h22 ht
                go_wp2
                go_ret
                exact ⟨by rw [E.out]; rfl, HW2.out.trans HZ.out.on.b⟩
              · have HF := Lib.hid (show twinP s q2 r = false from by simpa using ht)
                have h2 := HT2.out
                rw [HF.out] at h2
                have hc : ((x.request.client == y.request.client) = false) ∨ ((x.request.client == y.request.client) = true ∧ (x.request.time == y.request.time) = false) := by
                  by_cases e : x.request.client = y.request.client
                  · right
                    refine ⟨by simpa using e, ?_⟩
                    rw [decide_eq_true e, Bool.true_and] at h2
                    have := h2.symm
                    simpa using this
                  · left; simpa using e
                clear h2 ht
                rcases hc with g1 | ⟨g1, g2⟩
                all_goals
                  go_wp2
                  go_roundw
                  case rel =>
                    refine ⟨r + 1, by omega, by go_num, fun k hk => ?_, HZ.out.on⟩
                    by_cases e : k = r
                    · rw [e]; exact HF.out
                    · exact HK.out k (by omega)
                  case measure => simp [intOf]; omega
            · have hri : ¬ (r : Int) < q2 := by omega
              clear c0 c1 c2 c3 c4 c5 c6 c7 c8
              go_wp2
              go_roundw
              case rel =>
                refine ⟨q2 + 1, by omega, by go_num, fun j hj k hk => ?_, HW2.out.trans HZ.out.b⟩
                by_cases e : j = q2
                · subst e; exact HK.out k (by omega)
                · exact HT.out j (by omega) k hk
              case measure => simp [intOf]; omega
        · have hqi : ¬ (q2 : Int) < l := by omega
          have E := Lib.hid (show batchE s = 0 from by
            have ht : twinsF s = false := by
              rw [twinsF_eq, List.any_eq_false]
              intro j hj
              rw [Bool.not_eq_true, List.any_eq_false]
              intro k hk
              rw [List.mem_range] at hj hk
              rw [HT.out j (by have := HL0.out; omega) k hk]
              simp
            rw [HP0.out, ht]
            rfl)
          go_wp2
          go_ret
          exact ⟨by rw [E.out]; rfl, HW2.out⟩
end Go.Proofs.YtafomdobfmmleaaGreatDoor

/- Signatures, requests and batches behind bytes: request.PutSign, Bytes, PutBatch. -/
namespace Go.Proofs.YtafomdobfmmleaaGreatDoor
open Go.RowKit Go.Deep
set_option linter.unusedVariables false

theorem St.onto {w0 w w' : World} {A : Asn} {L : List Asn} (h : St w0 w L) (k : St w w' [A]) : St w0 w' (A :: L) := by
  obtain ⟨hb, own, h1, h2, _⟩ := k
  exact h.add hb h2 (fun x e => (h1 x e).1)
theorem signE0 {s : SignD} (h : signE s = 0) : (0 ≤ s.key ∧ s.key < 21) ∧ 1 ≤ s.digest ∧ s.digest ≤ 9007199254740992 := by
  unfold signE at h
  split at h
  · cases h
  · omega
set_option maxRecDepth 20000 in
set_option maxHeartbeats 8000000 in
theorem putSign_c {w : World} {v : Value} {bs : List UInt8} {k d : Int} (hb : Bs w v bs) (hl : bs.length + 60 ≤ big) :
    Calls Tryz.prog 263 #[v, .agg #[.int .i64 k, .int .i64 d]] w (Fresh w (bs ++ signP ⟨k, d⟩)) := by
  have HB := Lib.hid hb
  have HS := Lib.hid (aBlk.new (St.nil w) 57 #[.int .i64 k, .int .i64 d])
  have HL := Lib.hid hl
  have HC := Lib.hid (fun w' => signE_c (w := w') (k := k) (d := d))
  by_cases h0 : signE ⟨k, d⟩ = 0
  · obtain ⟨k1, d1⟩ := signE0 h0
    simp only at k1 d1
    have hwk : IntKind.u64.wrap k = k := u64_id (by omega)
    have hwd : IntKind.u64.wrap d = d := u64_id (by omega)
    have HK := Lib.hid k1
    have HD := Lib.hid d1
    have H0 := Lib.hid (show signP ⟨k, d⟩ = enc k.toNat ++ enc d.toNat from by unfold signP; rw [if_pos h0]; rfl)
    have HE := Lib.hid (enc_10 (show k.toNat < 18446744073709551616 by omega))
    rw [h0] at HC
    clear h0 hb hl k1 d1
    go_enter Tryz.func263, Tryz.ntmps263
    go_wp2_with (first
      | (go_at_call 307; (with_reducible refine callsM (HC.out _) ?_); rintro r wn ⟨rfl, hS⟩; replace HS := Lib.hid (HS.out.on.later hS); clear hS; have KG := (aBlk.get HS.out).cell))
    go_region_held3 (fun w' : World => ∀ i, w'.cell? ⟨w.heap.size, i, none⟩ = (#[.int .i64 k, .int .i64 d] : Array Value)[i]?) (first | exact (aBlk.get (St.on HS.out)).cell | exact (aBlk.get (St.on HS.out).swap).cell) (first
      | (go_at_call 112; (with_reducible refine callsM (St.fresh HS.out.on (putN_c (HB.out.later HS.out.on.b) k (by have := HK.out; omega) (by have := HL.out; omega))) ?_); rintro r wn ⟨v1, rfl, hS⟩; replace HS := Lib.hid hS; clear hS)
      | (go_at_call 112; (with_reducible refine callsM (St.fresh HS.out.on (putN_c (HS.out.on.byBs (by have := HL.out; have := HE.out; simp; omega)) d (by have := HD.out; omega) (by have := HL.out; have := HE.out; simp; omega))) ?_); rintro r wn ⟨v2, rfl, hS⟩; replace HS := Lib.hid hS.drop2; clear hS))
    all_goals
      go_wp2
      go_ret
      have hS := HS.out.toFresh
      rw [H0.out, ← List.append_assoc]
      exact hS
  · have g0 : (signE ⟨k, d⟩ != 0) = true := by simpa using h0
    have H0 := Lib.hid (show signP ⟨k, d⟩ = [] from by unfold signP; rw [if_neg h0])
    clear h0 hb hl
    go_enter Tryz.func263, Tryz.ntmps263
    go_wp2_with (first
      | (go_at_call 307; (with_reducible refine callsM (HC.out _) ?_); rintro r wn ⟨rfl, hS⟩; replace HS := Lib.hid (HS.out.on.later hS); clear hS; have KG := (aBlk.get HS.out).cell)
      | (go_at_call 153; (with_reducible refine callsM (St.fresh HS.out.on (clone89 (HB.out.later HS.out.on.b))) ?_); rintro e w1 ⟨v1, rfl, hS⟩; replace HS := Lib.hid hS; clear hS))
    go_ret
    rw [H0.out, List.append_nil]
    exact HS.out.toFresh
theorem reqE0 {x : RequestD} (h : reqE x = 0) : (0 ≤ x.client ∧ x.client < 8) ∧ (1 ≤ x.time ∧ x.time ≤ 9007199254740992) ∧ opE x.op = 0 := by
  unfold reqE at h
  split at h
  · cases h
  · exact ⟨by omega, by omega, h⟩
set_option maxRecDepth 20000 in
set_option maxHeartbeats 8000000 in
theorem reqBytes_c {inn : Nat → Prop} {w : World} {cs : List Value} {a : RequestD} (h : tRequest.rd inn w cs a) (hl : (reqB a).length + 60 ≤ big) :
    Calls Tryz.prog 319 #[.agg cs.toArray] w fun e w' => ∃ v, e = .returned (.tuple #[v, .int .i64 (reqE a)]) ∧ St w w' [aBy v (if reqE a = 0 then reqB a else [])] := by
  have HR := Lib.hid (fun w' (hb : B w w') => tRequest.later h hb)
  obtain ⟨v, rfl, a1, a2, o1, o2, o3, o4, o5⟩ := tRequest.parts h
  have HO := Lib.hid (fun (w' : World) (hb : B w w') => tOp.mk (s := a.op) o1 o2 o3 o4 ((tL tY).later o5 hb))
  obtain ⟨A5, c5, e5, l5⟩ := tL.slice o5
  injection e5 with e5 _
  subst e5
  have HL := Lib.hid hl
  have HS := Lib.hid (aBlk.new (St.nil w) 181 #[.int .i64 a.client, .int .i64 a.time, .int .i64 a.op.kind, .string (bstr a.op.topic), .string (bstr a.op.group), .int .i64 a.op.offset, .slice A5 a.op.records.length c5])
  by_cases h0 : reqE a = 0
  · obtain ⟨q1, q2, q3⟩ := reqE0 h0
    have hw1 : IntKind.u64.wrap a.client = a.client := u64_id (by omega)
    have hw2 : IntKind.u64.wrap a.time = a.time := u64_id (by omega)
    have H1 := Lib.hid q1
    have H2 := Lib.hid q2
    have H3 := Lib.hid q3
    have HE1 := Lib.hid (enc_10 (show a.client.toNat < 18446744073709551616 by omega))
    have HE2 := Lib.hid (enc_10 (show a.time.toNat < 18446744073709551616 by omega))
    have HC := Lib.hid (fun (w' : World) (hb : B w w') => by have := reqE_c (HR.out w' hb); rw [h0] at this; exact this)
    have H0 := Lib.hid h0
    have HB := Lib.hid (show reqB a = enc a.client.toNat ++ enc a.time.toNat ++ opB a.op from rfl)
    have HBL := Lib.hid (show (enc a.client.toNat).length + (enc a.time.toNat).length + (opB a.op).length + 60 ≤ big from by rw [HB.out] at hl; simp at hl; omega)
    clear h o5 o2 o3 h0 hl q1 q2 q3 a1 a2 o1 o4
    go_enter Tryz.func319, Tryz.ntmps319
    go_wp2_with (first
      | (go_at_call 316; (with_reducible refine callsM (HC.out _ HS.out.on.b) ?_); rintro e w2 ⟨rfl, hb⟩; replace HS := Lib.hid (HS.out.on.later hb); clear hb; have KG := (aBlk.get HS.out).cell))
    go_region_held3 (fun w' : World => ∀ i, w'.cell? ⟨w.heap.size, i, none⟩ = (#[.int .i64 a.client, .int .i64 a.time, .int .i64 a.op.kind, .string (bstr a.op.topic), .string (bstr a.op.group), .int .i64 a.op.offset, .slice A5 a.op.records.length c5] : Array Value)[i]?) (first | exact (aBlk.get (St.on HS.out)).cell | exact (aBlk.get (St.on HS.out).swap).cell) (first
      | (go_at_call 112; (with_reducible refine callsM (St.fresh HS.out.on (putN_c (Bs.nil _) a.client (by have := H1.out; omega) (by simp [big]))) ?_); rintro r wn ⟨v1, rfl, hS⟩; replace HS := Lib.hid hS; clear hS)
      | (go_at_call 112; (with_reducible refine callsM (St.fresh HS.out.on (putN_c (HS.out.on.byBs (by have := HE1.out; simp [big]; omega)) a.time (by have := H2.out; omega) (by have := HE1.out; simp [big]; omega))) ?_); rintro r wn ⟨v2, rfl, hS⟩; replace HS := Lib.hid hS.drop2; clear hS)
      | (go_at_call 108; (with_reducible refine callsM (St.fresh HS.out.on (opPut_c (HS.out.on.byBs (by have := HE1.out; have := HE2.out; simp [big]; omega)) (HO.out _ HS.out.on.b) (by have := HBL.out; simp; omega))) ?_); rintro r wn ⟨v3, rfl, hS⟩; replace HS := Lib.hid hS.drop2; clear hS))
    all_goals
      go_wp2
      go_ret2
      refine ⟨v3, by simp [], ?_⟩
      have hS := HS.out.drop2
      rw [H3.out] at hS
      simpa [H0.out, HB.out] using hS
  · have g0 : (reqE a != 0) = true := by simpa using h0
    have H0 := Lib.hid h0
    clear h o5 o2 o3 h0 hl
    go_enter Tryz.func319, Tryz.ntmps319
    go_wp2_with (first
      | (go_at_call 316; (with_reducible refine callsM (reqE_c (HR.out _ HS.out.on.b)) ?_); rintro e w2 ⟨rfl, hb⟩; replace HS := Lib.hid (HS.out.on.later hb); clear hb; have KG := (aBlk.get HS.out).cell))
    go_ret2
    exact ⟨.slice none 0 0, by simp, by simpa [H0.out] using (aBy.nil HS.out).drop2⟩
theorem batchE0 {l : List SignedD} (h : batchE l = 0) : l.length ≤ 4 ∧ ∀ x ∈ l, reqE x.request = 0 ∧ signE x.sign = 0 := by
  unfold batchE at h
  split at h
  · cases h
  have hp := (orE_zero.1 h).1
  refine ⟨by omega, ?_⟩
  clear h
  rename_i h4
  clear h4
  induction l with
  | nil => intro x hx; cases hx
  | cons y r ih =>
    simp only [partsE, orE_zero] at hp
    intro x hx
    cases hx with
    | head => exact ⟨hp.1, hp.2.1⟩
    | tail _ hm => exact ih hp.2.2 x hm
set_option maxRecDepth 20000 in
set_option maxHeartbeats 8000000 in
theorem partsPut_c {inn : Nat → Prop} {w : World} {u v : Value} {bs : List UInt8} {s : List SignedD} (h : (tL tSigned).rd inn w [u] s) (h0 : batchE s = 0) (hb : Bs w v bs) (hl : (bs ++ batchB s).length + 100 ≤ big) :
    Calls Tryz.prog 308 #[u, v] w (Fresh w (bs ++ batchB s)) := by
  obtain ⟨A, c, e1, hs⟩ := tL.slice h
  injection e1 with e1 _
  subst e1
  have HR := Lib.hid h
  have HB := Lib.hid hb
  have HL := Lib.hid hl
  have HZ := Lib.hid (batchE0 h0).2
  have hn := (batchE0 h0).1
  have hwn : IntKind.u64.wrap (s.length : Int) = s.length := u64_id (by omega)
  have HQ := Lib.hid (show ∀ q x, s[q]? = some x → ((s.take q).flatMap signedB).length + (signedB x).length ≤ (s.flatMap signedB).length from fun q x hx => by
    have hq : q < s.length := by
      rcases Nat.lt_or_ge q s.length with h' | h'
      · exact h'
      · rw [List.getElem?_eq_none h'] at hx; cases hx
    have e := congrArg (fun l => (l.flatMap signedB).length) (List.take_append_drop (q + 1) s)
    rw [List.take_add_one, hx] at e
    simp only [Option.toList_some, List.flatMap_append, List.length_append, List.flatMap_cons, List.flatMap_nil, List.append_nil] at e
    omega)
  have HS := Lib.hid (St.nil w)
  clear h h0 hb hl
  go_enter Tryz.func308, Tryz.ntmps308
  go_wp2_with (first
    | (go_at_call 112; (with_reducible refine callsM (St.fresh HS.out.on (putN_c (HB.out.later HS.out.on.b) (s.length : Int) (by omega) (by have := HL.out; simp [batchB] at this; omega))) ?_); rintro r wn ⟨v1, rfl, hS⟩; replace HS := Lib.hid hS; clear hS))
  go_loopw [1, 16] (fun v i wr => ∃ (q : Nat) (z : List UInt8), q ≤ s.length ∧ i = .int .i64 q ∧ Hid (z = bs ++ enc s.length ++ (s.take q).flatMap signedB) ∧ Hid (St w wr [aBy v z])) (fun _ i _ => s.length - (intOf i).toNat)
  case atStart => exact ⟨0, bs ++ enc s.length, Nat.zero_le _, rfl, Lib.hid (by simp), Lib.hid (by have hS := HS.out; simpa using hS)⟩
  case round =>
    obtain ⟨q, z, hq, rfl, HZ2, HS⟩ := hrel
    by_cases hlt : q < s.length
    · obtain ⟨x, hx⟩ : ∃ x, s[q]? = some x := ⟨_, List.getElem?_eq_getElem hlt⟩
      obtain ⟨_, b, off, ds, rfl, r1, k1⟩ := tL.at HR.out hx
      obtain ⟨ev1, rfl, a1, a2, o1, o2, o3, o4, o5, a6, a7⟩ := tSigned.parts r1
      have HX := Lib.hid hx
      have hz := HZ.out x (List.mem_of_getElem? hx)
      have HE := Lib.hid hz
      have HLX := Lib.hid (show z.length + (signedB x).length + 100 ≤ big from by
        have h1 := HL.out
        have h2 := HQ.out q x hx
        have h3 := congrArg List.length HZ2.out
        have e : batchB s = enc s.length ++ s.flatMap signedB := rfl
        rw [e] at h1
        simp only [List.length_append] at h1 h2 h3
        omega)
      have HSB := Lib.hid (show signedB x = byF (reqB x.request) ++ signB x.sign from rfl)
      have HBY := Lib.hid (show (byF (reqB x.request)).length = (enc (reqB x.request).length).length + (reqB x.request).length from by simp [byF])
      have HRQ := Lib.hid (fun (w' : World) (hb : B w w') => by
        have := reqBytes_c (tRequest.mk (s := x.request) a1 a2 o1 o2 o3 o4 ((tL tY).later o5 hb)) (by have h1 := HLX.out; rw [HSB.out] at h1; simp only [List.length_append] at h1; have := HBY.out; omega)
        rw [hz.1, if_pos rfl] at this
        exact this)
      obtain ⟨eA, ec, ee, _⟩ := tL.slice o5
      injection ee with ee _
      subst ee
      have d0 := B.cell HS.out.b (k1 0 _ rfl)
      have d1 := B.cell HS.out.b (k1 1 _ rfl)
      have d2 := B.cell HS.out.b (k1 2 _ rfl)
      have d3 := B.cell HS.out.b (k1 3 _ rfl)
      have d4 := B.cell HS.out.b (k1 4 _ rfl)
      have d5 := B.cell HS.out.b (k1 5 _ rfl)
      have d6 := B.cell HS.out.b (k1 6 _ rfl)
      have d7 := B.cell HS.out.b (k1 7 _ rfl)
      have d8 := B.cell HS.out.b (k1 8 _ rfl)
      simp only [show tSigned.n = 9 from rfl, Nat.add_zero] at d0 d1 d2 d3 d4 d5 d6 d7 d8
      replace HS := Lib.hid (aBlk.new HS.out 183 #[.int .i64 x.request.client, .int .i64 x.request.time, .int .i64 x.request.op.kind, .string (bstr x.request.op.topic), .string (bstr x.request.op.group), .int .i64 x.request.op.offset, .slice eA x.request.op.records.length ec, .int .i64 x.sign.key, .int .i64 x.sign.digest]).swap
      have hqi : (q : Int) < s.length := by omega
      clear r1 k1 hx o5 o2 o3 hz a1 a2 o1 o4
      go_wp2_with (first
        | (go_at_call 319; (with_reducible refine callsM (HRQ.out _ HS.out.on.b) ?_); rintro r wn ⟨v3, rfl, hS⟩; replace HS := Lib.hid (HS.out.on.onto hS); clear hS; have KG := (aBlk.get HS.out.rot3).cell; have KL := (aBlk.get HS.out.rot3).lt))
      go_region_held3 (fun w' : World => ∀ i, w'.cell? ⟨wr.heap.size, i, none⟩ = (#[.int .i64 x.request.client, .int .i64 x.request.time, .int .i64 x.request.op.kind, .string (bstr x.request.op.topic), .string (bstr x.request.op.group), .int .i64 x.request.op.offset, .slice eA x.request.op.records.length ec, .int .i64 x.sign.key, .int .i64 x.sign.digest] : Array Value)[i]?) (first | exact (aBlk.get (St.on HS.out).rot3).cell | exact (aBlk.get (St.on HS.out).swap).cell) (first
        | (go_at_call 154; (with_reducible refine callsM (St.fresh HS.out.on (putBytes72 (HS.out.on.swap.byBs (by have := HLX.out; omega)) (HS.out.on.byBs (by have := HLX.out; have h2 := HSB.out; have h3 := HBY.out; rw [h2] at this; simp only [List.length_append] at this; omega)) (by have := HLX.out; have h2 := HSB.out; have h3 := HBY.out; rw [h2] at this; simp only [List.length_append] at this ⊢; omega))) ?_); rintro r wn ⟨v4, rfl, hS⟩; replace HS := Lib.hid hS.drop2.drop2; clear hS; rw [byF_eq] at HS)
        | (go_at_call 263; (with_reducible refine callsM (St.fresh HS.out.on (putSign_c (HS.out.on.byBs (by have := HLX.out; have h2 := HSB.out; rw [h2] at this; simp only [List.length_append] at this ⊢; omega)) (by have := HLX.out; have h2 := HSB.out; rw [h2] at this; simp only [List.length_append] at this ⊢; omega))) ?_); rintro r wn ⟨v5, rfl, hS⟩; replace HS := Lib.hid hS.drop2; clear hS))
      all_goals
        go_wp2
        go_roundw
        case rel =>
          refine ⟨q + 1, _, by omega, by go_num, ?_, Lib.hid HS.out.drop2⟩
          show _ = _
          rw [HZ2.out, List.take_add_one, HX.out]
          have hp : signP ⟨x.sign.key, x.sign.digest⟩ = signB x.sign := by unfold signP; rw [if_pos HE.out.2]
          simp [hp, HSB.out]
        case measure => simp [intOf]; omega
    · have hqi : ¬ (q : Int) < s.length := by omega
      have HZ3 := Lib.hid (show z = bs ++ batchB s from by
        rw [HZ2.out, List.take_of_length_le (by omega)]
        simp [batchB])
      clear hlt hq
      go_wp2
      go_ret
      rw [← HZ3.out]
      exact HS.out.toFresh
end Go.Proofs.YtafomdobfmmleaaGreatDoor

/- strconv.Itoa's table, numbers as words; rows of strings; strings.Join. -/
namespace Go.Proofs.YtafomdobfmmleaaGreatDoor
open Go.RowKit Go.Deep
set_option linter.unusedVariables false

/-- the library's table of powers, here and later -/
def TabW (w : World) : Prop := ∀ w', B w w' → Lib.TabIs Tryz.prog w' "internal/strconv.uint64pow10" .u64 Lib.pow10Tab
theorem TabW.later {w w' : World} (h : TabW w) (hb : B w w') : TabW w' := fun w2 h2 => h w2 (hb.trans h2)
theorem grow_B (w : World) (k : Nat) (os : Array Obj) : B w (Sort.grow (w.drewN k) os) :=
  ⟨rfl, rfl, rfl, by show w.heap.size ≤ (w.heap ++ os).size; rw [Array.size_append]; omega, fun j hj => by show (w.heap ++ os)[j]? = w.heap[j]?; exact Array.getElem?_append_left hj⟩
theorem num_c {w : World} {n : Int} (h : TabW w) (hn : -9223372036854775808 ≤ n ∧ n ≤ 9223372036854775807) : Calls Tryz.prog 29 #[.int .i64 n] w fun e w' => e = .returned (.string (bstr (Lib.itoa n))) ∧ B w w' := by
  have HC := Lib.hid (Tryz.strconv_Itoa n hn.1 hn.2 w (h w (Below.refl _ _)))
  go_enter Tryz.func29, Tryz.ntmps29
  go_wp2_with (first
    | (go_at_call 61; (with_reducible refine callsM HC.out ?_); rintro e wn ⟨rfl, k, os, rfl⟩))
  go_ret
  exact ⟨rfl, grow_B _ _ _⟩
/-- strings in a row of its own -/
def strC (l : List (List UInt8)) : List Value := l.map fun x => .string (bstr x)
def aStrs (v : Value) (l : List (List UInt8)) : Asn := aRow 9 1 v l.length (strC l)
section
variable {W w : World} {L : List Asn} {v : Value} {l : List (List UInt8)}
theorem strC_len (l : List (List UInt8)) : (strC l).length = l.length := by simp [strC]
theorem strC_one (l : List (List UInt8)) : ∀ x ∈ strC l, x.oneCell' = true := by
  intro x hx
  unfold strC at hx
  obtain ⟨y, _, rfl⟩ := List.mem_map.1 hx
  rfl
theorem strC_take (l : List (List UInt8)) : (strC l).toArray.toList.take (l.length * 1) = strC l := by
  rw [show (strC l).toArray.toList = strC l from by simp]
  exact List.take_of_length_le (by rw [strC_len]; omega)
theorem aStrs.new (h : St W w L) (l : List (List UInt8)) (hl : l.length ≤ maxLen) {cs : Array Value} (hc : cs = (strC l).toArray) {n : Nat} (hn : n = l.length) : St W (w.alloc (.cells cs 9)) (aStrs (.slice (some ⟨w.heap.size, 0, none⟩) n n) l :: L) := by
  subst hc hn
  exact h.add (B.alloc' _ _) (A := aStrs (.slice (some ⟨w.heap.size, 0, none⟩) l.length l.length) l) (own := fun x => x = w.heap.size)
    ⟨⟨by rw [strC_len]; omega, .inr ⟨_, l.length, (strC l).toArray, rfl, Nat.zero_le _, heap_alloc_new w _, Nat.le_refl _, hl, by simp [strC_len], strC_take l⟩⟩, fun g hg => by simpa [Value.ownBlock] using hg.symm⟩ (fun x e => by omega)
/-- what such a row says, cell by cell -/
theorem aStrs.cells (h : St W w (aStrs v l :: L)) : ∃ A c, v = .slice A l.length c ∧ l.length ≤ c ∧ (0 < l.length → ∃ g, A = some ⟨g, 0, none⟩ ∧ g < w.heap.size ∧ ∀ j x, l[j]? = some x → w.cell? ⟨g, 0 + j, none⟩ = some (.string (bstr x))) := by
  obtain ⟨own, hr, ho⟩ := h.get
  obtain ⟨⟨hlen, hr1⟩, hr2⟩ := hr
  rcases hr1 with ⟨rfl, hn⟩ | ⟨g, cap, cur, rfl, _, hg, hcap, _, hsz, htk⟩
  · exact ⟨none, 0, by rw [hn], by omega, fun h0 => by omega⟩
  · refine ⟨_, _, rfl, hcap, fun _ => ⟨g, rfl, (Array.getElem?_eq_some_iff.1 hg).1, fun j x hj => ?_⟩⟩
    rw [Nat.zero_add, cell_of_row w g j cur _ _ hg]
    have hx : (strC l)[j]? = some (.string (bstr x)) := by simp [strC, hj]
    rw [← htk] at hx
    rw [List.getElem?_take] at hx
    split at hx
    · simpa using hx
    · cases hx
end
theorem join_eq : ∀ l : List (List UInt8), Lib.join l [32] = joinF l
  | [] => rfl
  | [x] => by rw [Lib.join_one]; rfl
  | x :: y :: r => by
    have := join_eq (y :: r)
    unfold Lib.join at this ⊢
    rw [show joinF (x :: y :: r) = x ++ 32 :: joinF (y :: r) from rfl, ← this]
    simp [List.intercalate]
theorem join_c {W w : World} {L : List Asn} {v : Value} {l : List (List UInt8)} (h : St W w (aStrs v l :: L)) (hl : (joinF l).length ≤ 140737488355328) (hn : l.length ≤ 140737488355328) {s : ByteArray} (hs : s = bstr [32]) :
    Calls Tryz.prog 28 #[v, .string s] w fun e w' => e = .returned (.string (bstr (joinF l))) ∧ B w w' := by
  subst hs
  obtain ⟨A, c, rfl, hc, hr⟩ := aStrs.cells h
  by_cases h0 : 0 < l.length
  · obtain ⟨g, rfl, hg, hcl⟩ := hr h0
    have hj : (l.map bstr).map (fun x => x.data.toList) = l := by
      rw [List.map_map]
      conv => rhs; rw [← List.map_id l]
      refine List.map_congr_left fun x _ => ?_
      simp [bstr]
    have := Tryz.strings_Join g 0 c (l.map bstr) (bstr [32]) w (fun j x hx => by
      rw [List.getElem?_map] at hx
      obtain ⟨y, hy, rfl⟩ := Option.map_eq_some_iff.1 hx
      exact hcl j y hy) hg (by simpa using hn) (by simpa using hc) (by rw [hj]; rw [show (bstr [32]).data.toList = [32] from rfl, join_eq]; exact hl)
    rw [hj, show (bstr [32]).data.toList = [32] from rfl, join_eq] at this
    simpa [bstr] using this
  · have hz : l = [] := List.eq_nil_of_length_eq_zero (by omega)
    subst hz
    refine (Tryz.strings_Join_none A c (bstr [32]) w).mono ?_
    rintro e w' ⟨rfl, rfl⟩
    exact ⟨rfl, Below.refl _ _⟩
end Go.Proofs.YtafomdobfmmleaaGreatDoor
