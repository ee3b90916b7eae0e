/- Lemmas and contracts, part 16.2. -/
import Derived.Test.YtbbcepmhkocgbaaGreatDoorZb16
import Derived.Deep.Light
import Derived.Lib.ConvBytes
import Derived.Deep.RegionHeld3
import Derived.Deep.RegionLaw
/- Signatures, requests and batches behind bytes: request.PutSign, Bytes, PutBatch. -/
namespace Go.Proofs.YtbbcepmhkocgbaaGreatDoor
open Go.RowKit Go.Deep
set_option linter.unusedVariables false

theorem St.onto {w0 w w' : World} {A : Asn} {L : List Asn} (h : St w0 w L) (k : St w w' [A]) : St w0 w' (A :: L) := by
  obtain ⟨hb, own, h1, h2, _⟩ := k
  exact h.add hb h2 (fun x e => (h1 x e).1)
theorem signE0 {s : SignD} (h : signE s = 0) : (0 ≤ s.key ∧ s.key < 21) ∧ 1 ≤ s.digest ∧ s.digest ≤ 9007199254740992 := by
  unfold signE at h
  split at h
  · cases h
  · omega
set_option maxRecDepth 20000 in
set_option maxHeartbeats 8000000 in
theorem putSign_c {w : World} {v : Value} {bs : List UInt8} {k d : Int} (hb : Bs w v bs) (hl : bs.length + 60 ≤ big) :
    Calls Tryz.prog 138 #[v, .agg #[.int .i64 k, .int .i64 d]] w (Fresh w (bs ++ signP ⟨k, d⟩)) := by
  have HB := Lib.hid hb
  have HS := Lib.hid (aBlk.new (St.nil w) 54 #[.int .i64 k, .int .i64 d])
  have HL := Lib.hid hl
  have HC := Lib.hid (fun w' => signE_c (w := w') (k := k) (d := d))
  by_cases h0 : signE ⟨k, d⟩ = 0
  · obtain ⟨k1, d1⟩ := signE0 h0
    simp only at k1 d1
    have hwk : IntKind.u64.wrap k = k := u64_id (by omega)
    have hwd : IntKind.u64.wrap d = d := u64_id (by omega)
    have HK := Lib.hid k1
    have HD := Lib.hid d1
    have H0 := Lib.hid (show signP ⟨k, d⟩ = enc k.toNat ++ enc d.toNat from by unfold signP; rw [if_pos h0]; rfl)
    have HE := Lib.hid (enc_10 (show k.toNat < 18446744073709551616 by omega))
    rw [h0] at HC
    clear h0 hb hl k1 d1
    go_enter Tryz.func138, Tryz.ntmps138
    go_wp2_with (first
      | (go_at_call 171; (with_reducible refine callsM (HC.out _) ?_); rintro r wn ⟨rfl, hS⟩; replace HS := Lib.hid (HS.out.on.later hS); clear hS; have KG := (aBlk.get HS.out).cell))
    go_region_held3 (fun w' : World => ∀ i, w'.cell? ⟨w.heap.size, i, none⟩ = (#[.int .i64 k, .int .i64 d] : Array Value)[i]?) (first | exact (aBlk.get (St.on HS.out)).cell | exact (aBlk.get (St.on HS.out).swap).cell) (first
      | (go_at_call 61; (with_reducible refine callsM (St.fresh HS.out.on (putN_c (HB.out.later HS.out.on.b) k (by have := HK.out; omega) (by have := HL.out; omega))) ?_); rintro r wn ⟨v1, rfl, hS⟩; replace HS := Lib.hid hS; clear hS)
      | (go_at_call 61; (with_reducible refine callsM (St.fresh HS.out.on (putN_c (HS.out.on.byBs (by have := HL.out; have := HE.out; simp; omega)) d (by have := HD.out; omega) (by have := HL.out; have := HE.out; simp; omega))) ?_); rintro r wn ⟨v2, rfl, hS⟩; replace HS := Lib.hid hS.drop2; clear hS))
    all_goals
      go_wp2
      go_ret
      have hS := HS.out.toFresh
      rw [H0.out, ← List.append_assoc]
      exact hS
  · have g0 : (signE ⟨k, d⟩ != 0) = true := by simpa using h0
    have H0 := Lib.hid (show signP ⟨k, d⟩ = [] from by unfold signP; rw [if_neg h0])
    clear h0 hb hl
    go_enter Tryz.func138, Tryz.ntmps138
    go_wp2_with (first
      | (go_at_call 171; (with_reducible refine callsM (HC.out _) ?_); rintro r wn ⟨rfl, hS⟩; replace HS := Lib.hid (HS.out.on.later hS); clear hS; have KG := (aBlk.get HS.out).cell)
      | (go_at_call 83; (with_reducible refine callsM (St.fresh HS.out.on (clone89 (HB.out.later HS.out.on.b))) ?_); rintro e w1 ⟨v1, rfl, hS⟩; replace HS := Lib.hid hS; clear hS))
    go_ret
    rw [H0.out, List.append_nil]
    exact HS.out.toFresh
theorem reqE0 {x : RequestD} (h : reqE x = 0) : (0 ≤ x.client ∧ x.client < 8) ∧ (1 ≤ x.time ∧ x.time ≤ 9007199254740992) ∧ opE x.op = 0 := by
  unfold reqE at h
  split at h
  · cases h
  · exact ⟨by omega, by omega, h⟩
set_option maxRecDepth 20000 in
set_option maxHeartbeats 8000000 in
theorem reqBytes_c {inn : Nat → Prop} {w : World} {cs : List Value} {a : RequestD} (h : tRequest.rd inn w cs a) (hl : (reqB a).length + 60 ≤ big) :
    Calls Tryz.prog 183 #[.agg cs.toArray] w fun e w' => ∃ v, e = .returned (.tuple #[v, .int .i64 (reqE a)]) ∧ St w w' [aBy v (if reqE a = 0 then reqB a else [])] := by
  have HR := Lib.hid (fun w' (hb : B w w') => tRequest.later h hb)
  obtain ⟨v, rfl, a1, a2, o1, o2, o3, o4, o5⟩ := tRequest.parts h
  have HO := Lib.hid (fun (w' : World) (hb : B w w') => tOp.mk (s := a.op) o1 o2 o3 o4 ((tL tY).later o5 hb))
  obtain ⟨A5, c5, e5, l5⟩ := tL.slice o5
  injection e5 with e5 _
  subst e5
  have HL := Lib.hid hl
  have HS := Lib.hid (aBlk.new (St.nil w) 103 #[.int .i64 a.client, .int .i64 a.time, .int .i64 a.op.kind, .string (bstr a.op.topic), .string (bstr a.op.group), .int .i64 a.op.offset, .slice A5 a.op.records.length c5])
  by_cases h0 : reqE a = 0
  · obtain ⟨q1, q2, q3⟩ := reqE0 h0
    have hw1 : IntKind.u64.wrap a.client = a.client := u64_id (by omega)
    have hw2 : IntKind.u64.wrap a.time = a.time := u64_id (by omega)
    have H1 := Lib.hid q1
    have H2 := Lib.hid q2
    have H3 := Lib.hid q3
    have HE1 := Lib.hid (enc_10 (show a.client.toNat < 18446744073709551616 by omega))
    have HE2 := Lib.hid (enc_10 (show a.time.toNat < 18446744073709551616 by omega))
    have HC := Lib.hid (fun (w' : World) (hb : B w w') => by have := reqE_c (HR.out w' hb); rw [h0] at this; exact this)
    have H0 := Lib.hid h0
    have HB := Lib.hid (show reqB a = enc a.client.toNat ++ enc a.time.toNat ++ opB a.op from rfl)
    have HBL := Lib.hid (show (enc a.client.toNat).length + (enc a.time.toNat).length + (opB a.op).length + 60 ≤ big from by rw [HB.out] at hl; simp at hl; omega)
    clear h o5 o2 o3 h0 hl q1 q2 q3 a1 a2 o1 o4
    go_enter Tryz.func183, Tryz.ntmps183
    go_wp2_with (first
      | (go_at_call 180; (with_reducible refine callsM (HC.out _ HS.out.on.b) ?_); rintro e w2 ⟨rfl, hb⟩; replace HS := Lib.hid (HS.out.on.later hb); clear hb; have KG := (aBlk.get HS.out).cell))
    go_region_held3 (fun w' : World => ∀ i, w'.cell? ⟨w.heap.size, i, none⟩ = (#[.int .i64 a.client, .int .i64 a.time, .int .i64 a.op.kind, .string (bstr a.op.topic), .string (bstr a.op.group), .int .i64 a.op.offset, .slice A5 a.op.records.length c5] : Array Value)[i]?) (first | exact (aBlk.get (St.on HS.out)).cell | exact (aBlk.get (St.on HS.out).swap).cell) (first
      | (go_at_call 61; (with_reducible refine callsM (St.fresh HS.out.on (putN_c (Bs.nil _) a.client (by have := H1.out; omega) (by simp [big]))) ?_); rintro r wn ⟨v1, rfl, hS⟩; replace HS := Lib.hid hS; clear hS)
      | (go_at_call 61; (with_reducible refine callsM (St.fresh HS.out.on (putN_c (HS.out.on.byBs (by have := HE1.out; simp [big]; omega)) a.time (by have := H2.out; omega) (by have := HE1.out; simp [big]; omega))) ?_); rintro r wn ⟨v2, rfl, hS⟩; replace HS := Lib.hid hS.drop2; clear hS)
      | (go_at_call 57; (with_reducible refine callsM (St.fresh HS.out.on (opPut_c (HS.out.on.byBs (by have := HE1.out; have := HE2.out; simp [big]; omega)) (HO.out _ HS.out.on.b) (by have := HBL.out; simp; omega))) ?_); rintro r wn ⟨v3, rfl, hS⟩; replace HS := Lib.hid hS.drop2; clear hS))
    all_goals
      go_wp2
      go_ret2
      refine ⟨v3, by simp [H0.out], ?_⟩
      have hS := HS.out.drop2
      rw [H3.out] at hS
      simpa [H0.out, HB.out] using hS
  · have g0 : (reqE a != 0) = true := by simpa using h0
    have H0 := Lib.hid h0
    clear h o5 o2 o3 h0 hl
    go_enter Tryz.func183, Tryz.ntmps183
    go_wp2_with (first
      | (go_at_call 180; (with_reducible refine callsM (reqE_c (HR.out _ HS.out.on.b)) ?_); rintro e w2 ⟨rfl, hb⟩; replace HS := Lib.hid (HS.out.on.later hb); clear hb; have KG := (aBlk.get HS.out).cell))
    go_ret2
    exact ⟨.slice none 0 0, by simp, by simpa [H0.out] using (aBy.nil HS.out).drop2⟩
theorem batchE0 {l : List SignedD} (h : batchE l = 0) : l.length ≤ 4 ∧ ∀ x ∈ l, reqE x.request = 0 ∧ signE x.sign = 0 := by
  unfold batchE at h
  split at h
  · cases h
  have hp := (orE_zero.1 h).1
  refine ⟨by omega, ?_⟩
  clear h
  rename_i h4
  clear h4
  induction l with
  | nil => intro x hx; cases hx
  | cons y r ih =>
    simp only [partsE, orE_zero] at hp
    intro x hx
    cases hx with
    | head => exact ⟨hp.1, hp.2.1⟩
    | tail _ hm => exact ih hp.2.2 x hm
set_option maxRecDepth 20000 in
set_option maxHeartbeats 8000000 in
theorem partsPut_c {inn : Nat → Prop} {w : World} {u v : Value} {bs : List UInt8} {s : List SignedD} (h : (tL tSigned).rd inn w [u] s) (h0 : batchE s = 0) (hb : Bs w v bs) (hl : (bs ++ batchB s).length + 100 ≤ big) :
    Calls Tryz.prog 172 #[u, v] w (Fresh w (bs ++ batchB s)) := by
  obtain ⟨A, c, e1, hs⟩ := tL.slice h
  injection e1 with e1 _
  subst e1
  have HR := Lib.hid h
  have HB := Lib.hid hb
  have HL := Lib.hid hl
  have HZ := Lib.hid (batchE0 h0).2
  have hn := (batchE0 h0).1
  have hwn : IntKind.u64.wrap (s.length : Int) = s.length := u64_id (by omega)
  have HQ := Lib.hid (show ∀ q x, s[q]? = some x → ((s.take q).flatMap signedB).length + (signedB x).length ≤ (s.flatMap signedB).length from fun q x hx => by
    have hq : q < s.length := by
      rcases Nat.lt_or_ge q s.length with h' | h'
      · exact h'
      · rw [List.getElem?_eq_none h'] at hx; cases hx
    have e := congrArg (fun l => (l.flatMap signedB).length) (List.take_append_drop (q + 1) s)
    rw [List.take_add_one, hx] at e
    simp only [Option.toList_some, List.flatMap_append, List.length_append, List.flatMap_cons, List.flatMap_nil, List.append_nil] at e
    omega)
  have HS := Lib.hid (St.nil w)
  clear h h0 hb hl
  go_enter Tryz.func172, Tryz.ntmps172
  go_wp2_with (first
    | (go_at_call 61; (with_reducible refine callsM (St.fresh HS.out.on (putN_c (HB.out.later HS.out.on.b) (s.length : Int) (by omega) (by have := HL.out; simp [batchB] at this; omega))) ?_); rintro r wn ⟨v1, rfl, hS⟩; replace HS := Lib.hid hS; clear hS))
  go_loopw [1, 16] (fun v i wr => ∃ (q : Nat) (z : List UInt8), q ≤ s.length ∧ i = .int .i64 q ∧ Hid (z = bs ++ enc s.length ++ (s.take q).flatMap signedB) ∧ Hid (St w wr [aBy v z])) (fun _ i _ => s.length - (intOf i).toNat)
  case atStart => exact ⟨0, bs ++ enc s.length, Nat.zero_le _, rfl, Lib.hid (by simp), Lib.hid (by have hS := HS.out; simpa using hS)⟩
  case round =>
    obtain ⟨q, z, hq, rfl, HZ2, HS⟩ := hrel
    by_cases hlt : q < s.length
    · obtain ⟨x, hx⟩ : ∃ x, s[q]? = some x := ⟨_, List.getElem?_eq_getElem hlt⟩
      obtain ⟨_, b, off, ds, rfl, r1, k1⟩ := tL.at HR.out hx
      obtain ⟨ev1, rfl, a1, a2, o1, o2, o3, o4, o5, a6, a7⟩ := tSigned.parts r1
      have HX := Lib.hid hx
      have hz := HZ.out x (List.mem_of_getElem? hx)
      have HE := Lib.hid hz
      have HLX := Lib.hid (show z.length + (signedB x).length + 100 ≤ big from by
        have h1 := HL.out
        have h2 := HQ.out q x hx
        have h3 := congrArg List.length HZ2.out
        have e : batchB s = enc s.length ++ s.flatMap signedB := rfl
        rw [e] at h1
        simp only [List.length_append] at h1 h2 h3
        omega)
      have HSB := Lib.hid (show signedB x = byF (reqB x.request) ++ signB x.sign from rfl)
      have HBY := Lib.hid (show (byF (reqB x.request)).length = (enc (reqB x.request).length).length + (reqB x.request).length from by simp [byF])
      have HRQ := Lib.hid (fun (w' : World) (hb : B w w') => by
        have := reqBytes_c (tRequest.mk (s := x.request) a1 a2 o1 o2 o3 o4 ((tL tY).later o5 hb)) (by have h1 := HLX.out; rw [HSB.out] at h1; simp only [List.length_append] at h1; have := HBY.out; omega)
        rw [hz.1, if_pos rfl] at this
        exact this)
      obtain ⟨eA, ec, ee, _⟩ := tL.slice o5
      injection ee with ee _
      subst ee
      have d0 := B.cell HS.out.b (k1 0 _ rfl)
      have d1 := B.cell HS.out.b (k1 1 _ rfl)
      have d2 := B.cell HS.out.b (k1 2 _ rfl)
      have d3 := B.cell HS.out.b (k1 3 _ rfl)
      have d4 := B.cell HS.out.b (k1 4 _ rfl)
      have d5 := B.cell HS.out.b (k1 5 _ rfl)
      have d6 := B.cell HS.out.b (k1 6 _ rfl)
      have d7 := B.cell HS.out.b (k1 7 _ rfl)
      have d8 := B.cell HS.out.b (k1 8 _ rfl)
      simp only [show tSigned.n = 9 from rfl, Nat.add_zero] at d0 d1 d2 d3 d4 d5 d6 d7 d8
      replace HS := Lib.hid (aBlk.new HS.out 105 #[.int .i64 x.request.client, .int .i64 x.request.time, .int .i64 x.request.op.kind, .string (bstr x.request.op.topic), .string (bstr x.request.op.group), .int .i64 x.request.op.offset, .slice eA x.request.op.records.length ec, .int .i64 x.sign.key, .int .i64 x.sign.digest]).swap
      have hqi : (q : Int) < s.length := by omega
      clear r1 k1 hx o5 o2 o3 hz a1 a2 o1 o4
      go_wp2_with (first
        | (go_at_call 183; (with_reducible refine callsM (HRQ.out _ HS.out.on.b) ?_); rintro r wn ⟨v3, rfl, hS⟩; replace HS := Lib.hid (HS.out.on.onto hS); clear hS; have KG := (aBlk.get HS.out.rot3).cell; have KL := (aBlk.get HS.out.rot3).lt))
      go_region_held3 (fun w' : World => ∀ i, w'.cell? ⟨wr.heap.size, i, none⟩ = (#[.int .i64 x.request.client, .int .i64 x.request.time, .int .i64 x.request.op.kind, .string (bstr x.request.op.topic), .string (bstr x.request.op.group), .int .i64 x.request.op.offset, .slice eA x.request.op.records.length ec, .int .i64 x.sign.key, .int .i64 x.sign.digest] : Array Value)[i]?) (first | exact (aBlk.get (St.on HS.out).rot3).cell | exact (aBlk.get (St.on HS.out).swap).cell) (first
        | (go_at_call 84; (with_reducible refine callsM (St.fresh HS.out.on (putBytes72 (HS.out.on.swap.byBs (by have := HLX.out; omega)) (HS.out.on.byBs (by have := HLX.out; have h2 := HSB.out; have h3 := HBY.out; rw [h2] at this; simp only [List.length_append] at this; omega)) (by have := HLX.out; have h2 := HSB.out; have h3 := HBY.out; rw [h2] at this; simp only [List.length_append] at this ⊢; omega))) ?_); rintro r wn ⟨v4, rfl, hS⟩; replace HS := Lib.hid hS.drop2.drop2; clear hS; rw [byF_eq] at HS)
        | (go_at_call 138; (with_reducible refine callsM (St.fresh HS.out.on (putSign_c (HS.out.on.byBs (by have := HLX.out; have h2 := HSB.out; rw [h2] at this; simp only [List.length_append] at this ⊢; omega)) (by have := HLX.out; have h2 := HSB.out; rw [h2] at this; simp only [List.length_append] at this ⊢; omega))) ?_); rintro r wn ⟨v5, rfl, hS⟩; replace HS := Lib.hid hS.drop2; clear hS))
      all_goals
        go_wp2
        go_roundw
        case rel =>
          refine ⟨q + 1, _, by omega, by go_num, ?_, Lib.hid HS.out.drop2⟩
          show _ = _
          rw [HZ2.out, List.take_add_one, HX.out]
          have hp : signP ⟨x.sign.key, x.sign.digest⟩ = signB x.sign := by unfold signP; rw [if_pos HE.out.2]
          simp [hp, HSB.out]
        case measure => simp [intOf]; omega
    · have hqi : ¬ (q : Int) < s.length := by omega
      have HZ3 := Lib.hid (show z = bs ++ batchB s from by
        rw [HZ2.out, List.take_of_length_le (by omega)]
        simp [batchB])
      clear hlt hq
      go_wp2
      go_ret
      rw [← HZ3.out]
      exact HS.out.toFresh
end Go.Proofs.YtbbcepmhkocgbaaGreatDoor

/- strconv.Itoa's table, numbers as words; rows of strings; strings.Join. -/
namespace Go.Proofs.YtbbcepmhkocgbaaGreatDoor
open Go.RowKit Go.Deep
set_option linter.unusedVariables false

/-- the library's table of powers, here and later -/
def TabW (w : World) : Prop := ∀ w', B w w' → Lib.TabIs Tryz.prog w' "internal/strconv.uint64pow10" .u64 Lib.pow10Tab
theorem TabW.later {w w' : World} (h : TabW w) (hb : B w w') : TabW w' := fun w2 h2 => h w2 (hb.trans h2)
theorem grow_B (w : World) (k : Nat) (os : Array Obj) : B w (Sort.grow (w.drewN k) os) :=
  ⟨rfl, rfl, rfl, by show w.heap.size ≤ (w.heap ++ os).size; rw [Array.size_append]; omega, fun j hj => by show (w.heap ++ os)[j]? = w.heap[j]?; exact Array.getElem?_append_left hj⟩
theorem num_c {w : World} {n : Int} (h : TabW w) (hn : -9223372036854775808 ≤ n ∧ n ≤ 9223372036854775807) : Calls Tryz.prog 30 #[.int .i64 n] w fun e w' => e = .returned (.string (bstr (Lib.itoa n))) ∧ B w w' := by
  have HC := Lib.hid (Tryz.strconv_Itoa n hn.1 hn.2 w (h w (Below.refl _ _)))
  go_enter Tryz.func30, Tryz.ntmps30
  go_wp2_with (first
    | (go_at_call 47; (with_reducible refine callsM HC.out ?_); rintro e wn ⟨rfl, k, os, rfl⟩))
  go_ret
  exact ⟨rfl, grow_B _ _ _⟩
/-- strings in a row of its own -/
def strC (l : List (List UInt8)) : List Value := l.map fun x => .string (bstr x)
def aStrs (v : Value) (l : List (List UInt8)) : Asn := aRow 9 1 v l.length (strC l)
section
variable {W w : World} {L : List Asn} {v : Value} {l : List (List UInt8)}
theorem strC_len (l : List (List UInt8)) : (strC l).length = l.length := by simp [strC]
theorem strC_one (l : List (List UInt8)) : ∀ x ∈ strC l, x.oneCell' = true := by
  intro x hx
  unfold strC at hx
  obtain ⟨y, _, rfl⟩ := List.mem_map.1 hx
  rfl
theorem strC_take (l : List (List UInt8)) : (strC l).toArray.toList.take (l.length * 1) = strC l := by
  rw [show (strC l).toArray.toList = strC l from by simp]
  exact List.take_of_length_le (by rw [strC_len]; omega)
theorem aStrs.new (h : St W w L) (l : List (List UInt8)) (hl : l.length ≤ maxLen) {cs : Array Value} (hc : cs = (strC l).toArray) {n : Nat} (hn : n = l.length) : St W (w.alloc (.cells cs 9)) (aStrs (.slice (some ⟨w.heap.size, 0, none⟩) n n) l :: L) := by
  subst hc hn
  exact h.add (B.alloc' _ _) (A := aStrs (.slice (some ⟨w.heap.size, 0, none⟩) l.length l.length) l) (own := fun x => x = w.heap.size)
    ⟨⟨by rw [strC_len]; omega, .inr ⟨_, l.length, (strC l).toArray, rfl, Nat.zero_le _, heap_alloc_new w _, Nat.le_refl _, hl, by simp [strC_len], strC_take l⟩⟩, fun g hg => by simpa [Value.ownBlock] using hg.symm⟩ (fun x e => by omega)
/-- what such a row says, cell by cell -/
theorem aStrs.cells (h : St W w (aStrs v l :: L)) : ∃ A c, v = .slice A l.length c ∧ l.length ≤ c ∧ (0 < l.length → ∃ g, A = some ⟨g, 0, none⟩ ∧ g < w.heap.size ∧ ∀ j x, l[j]? = some x → w.cell? ⟨g, 0 + j, none⟩ = some (.string (bstr x))) := by
  obtain ⟨own, hr, ho⟩ := h.get
  obtain ⟨⟨hlen, hr1⟩, hr2⟩ := hr
  rcases hr1 with ⟨rfl, hn⟩ | ⟨g, cap, cur, rfl, _, hg, hcap, _, hsz, htk⟩
  · exact ⟨none, 0, by rw [hn], by omega, fun h0 => by omega⟩
  · refine ⟨_, _, rfl, hcap, fun _ => ⟨g, rfl, (Array.getElem?_eq_some_iff.1 hg).1, fun j x hj => ?_⟩⟩
    rw [Nat.zero_add, cell_of_row w g j cur _ _ hg]
    have hx : (strC l)[j]? = some (.string (bstr x)) := by simp [strC, hj]
    rw [← htk] at hx
    rw [List.getElem?_take] at hx
    split at hx
    · simpa using hx
    · cases hx
end
theorem join_eq : ∀ l : List (List UInt8), Lib.join l [32] = joinF l
  | [] => rfl
  | [x] => by rw [Lib.join_one]; rfl
  | x :: y :: r => by
    have := join_eq (y :: r)
    unfold Lib.join at this ⊢
    rw [show joinF (x :: y :: r) = x ++ 32 :: joinF (y :: r) from rfl, ← this]
    simp [List.intercalate]
theorem join_c {W w : World} {L : List Asn} {v : Value} {l : List (List UInt8)} (h : St W w (aStrs v l :: L)) (hl : (joinF l).length ≤ 140737488355328) (hn : l.length ≤ 140737488355328) {s : ByteArray} (hs : s = bstr [32]) :
    Calls Tryz.prog 21 #[v, .string s] w fun e w' => e = .returned (.string (bstr (joinF l))) ∧ B w w' := by
  subst hs
  obtain ⟨A, c, rfl, hc, hr⟩ := aStrs.cells h
  by_cases h0 : 0 < l.length
  · obtain ⟨g, rfl, hg, hcl⟩ := hr h0
    have hj : (l.map bstr).map (fun x => x.data.toList) = l := by
      rw [List.map_map]
      conv => rhs; rw [← List.map_id l]
      refine List.map_congr_left fun x _ => ?_
      simp [bstr]
    have := Tryz.strings_Join g 0 c (l.map bstr) (bstr [32]) w (fun j x hx => by
      rw [List.getElem?_map] at hx
      obtain ⟨y, hy, rfl⟩ := Option.map_eq_some_iff.1 hx
      exact hcl j y hy) hg (by simpa using hn) (by simpa using hc) (by rw [hj]; rw [show (bstr [32]).data.toList = [32] from rfl, join_eq]; exact hl)
    rw [hj, show (bstr [32]).data.toList = [32] from rfl, join_eq] at this
    simpa [bstr] using this
  · have hz : l = [] := List.eq_nil_of_length_eq_zero (by omega)
    subst hz
    refine (Tryz.strings_Join_none A c (bstr [32]) w).mono ?_
    rintro e w' ⟨rfl, rfl⟩
    exact ⟨rfl, Below.refl _ _⟩
end Go.Proofs.YtbbcepmhkocgbaaGreatDoor

/- Lists of numbers that a call writes down; slices.Contains over numbers; which messages are signed. -/
namespace Go.Proofs.YtbbcepmhkocgbaaGreatDoor
open Go.RowKit Go.Deep
set_option linter.unusedVariables false

/-- numbers written down in a block read as a list -/
theorem litI {w : World} {g : Nat} {t : TypeId} (ns : List Int) (h : Blk w g t (ns.map (Value.int .i64)).toArray) (hb : ∀ n ∈ ns, -9223372036854775808 ≤ n ∧ n ≤ 9223372036854775807) (hl : ns.length ≤ 4194304) :
    (tL tI).rd (fun _ => True) w [.slice (some ⟨g, 0, none⟩) ns.length ns.length] ns := by
  refine ⟨_, _, rfl, Nat.le_refl _, by unfold maxLen; omega, fun e => (by cases e), hl, fun _ => ⟨g, 0, rfl, h.lt, trivial, fun i x hx => ⟨_, ⟨rfl, hb x (List.mem_of_getElem? hx)⟩, fun j v hj => ?_⟩⟩⟩
  cases j with
  | zero =>
    simp only [List.getElem?_cons_zero, Option.some.injEq] at hj
    subst hj
    rw [h.cell]
    simp [tI, hx]
  | succ j => simp at hj
set_option maxRecDepth 20000 in
set_option maxHeartbeats 2000000 in
theorem idxInt_c {inn : Nat → Prop} {w : World} {v : Value} {s : List Int} {x : Int} (h : (tL tI).rd inn w [v] s) :
    Calls Tryz.prog 135 #[v, .int .i64 x] w fun e w' => ∃ k : Int, e = .returned (.int .i64 k) ∧ (0 ≤ k ↔ x ∈ s) ∧ w = w' := by
  obtain ⟨A, c, e1, hs⟩ := tL.slice h
  injection e1 with e1 _
  subst e1
  have HR := Lib.hid h
  obtain ⟨l, hl0⟩ : ∃ l, s.length = l := ⟨_, rfl⟩
  have HL0 := Lib.hid hl0
  rw [hl0] at hs ⊢
  clear h hl0
  go_enter Tryz.func135, Tryz.ntmps135
  go_wp2_with fail
  go_loop [5, 8] (fun _ i => ∃ q : Nat, q ≤ l ∧ i = .int .i64 q ∧ Hid (∀ j y, j < q → s[j]? = some y → ¬ x = y)) (fun _ i => l - (intOf i).toNat)
  case atStart => exact ⟨0, Nat.zero_le _, rfl, fun j x h => by omega⟩
  case round =>
    obtain ⟨q, hq, rfl, HP⟩ := hrel
    by_cases hlt : q < l
    · obtain ⟨y, hy⟩ : ∃ y, s[q]? = some y := ⟨_, List.getElem?_eq_getElem (by have := HL0.out; omega)⟩
      obtain ⟨_, b, off, cs, rfl, ⟨rfl, _⟩, k1⟩ := tL.at HR.out hy
      have c1 := k1 0 _ rfl
      simp only [show tI.n = 1 from rfl, Nat.mul_one, Nat.add_zero] at c1
      have HS := Lib.hid hy
      have hqi : (q : Int) < l := by omega
      clear k1 hy
      by_cases e1 : x = y
      · have g : (x == y) = true := by simpa using e1
        have g' : (y == x) = true := by simpa using e1.symm
        have E := Lib.hid (show ((0 : Int) ≤ q ↔ x ∈ s) from ⟨fun _ => by rw [e1]; exact List.mem_of_getElem? HS.out, fun _ => by omega⟩)
        clear e1
        go_wp2_with fail
        go_ret
        exact ⟨_, rfl, E.out, rfl⟩
      · have g : (x == y) = false := by simpa using e1
        have g' : (y == x) = false := by simpa using fun e => e1 e.symm
        have E := Lib.hid e1
        clear e1
        go_wp2_with fail
        go_round
        case rel => exact ⟨q + 1, by omega, by go_num, fun j z hj hz => by
          by_cases e : j = q
          · rw [e, HS.out] at hz; injection hz with hz; rw [← hz]; exact E.out
          · exact HP.out j z (by omega) hz⟩
        case measure => simp [intOf]; omega
    · have hqi : ¬ (q : Int) < l := by omega
      have E := Lib.hid (show ((0 : Int) ≤ -1 ↔ x ∈ s) from by
        refine ⟨fun hx => by omega, fun hx => ?_⟩
        exfalso
        obtain ⟨j, hj⟩ := List.getElem?_of_mem hx
        have hjl : j < s.length := by
          rcases Nat.lt_or_ge j s.length with h' | h'
          · exact h'
          · rw [List.getElem?_eq_none h'] at hj; cases hj
        exact HP.out j x (by have := HL0.out; omega) hj rfl)
      go_wp2_with fail
      go_ret
      exact ⟨_, rfl, E.out, rfl⟩
theorem hasInt_c {inn : Nat → Prop} {w : World} {v : Value} {s : List Int} {x : Int} (h : (tL tI).rd inn w [v] s) :
    Calls Tryz.prog 112 #[v, .int .i64 x] w fun e w' => e = .returned (.bool (decide (x ∈ s))) ∧ w = w' := by
  have HI := Lib.hid (idxInt_c (x := x) h)
  clear h
  go_enter Tryz.func112, Tryz.ntmps112
  go_wp2_with (first | (go_at_call 135; (with_reducible refine HI.out.mono ?_); rintro e w1 ⟨k, rfl, hk, rfl⟩; rcases (show (decide (x ∈ s) = true ∧ 0 ≤ k) ∨ (decide (x ∈ s) = false ∧ ¬ 0 ≤ k) from by by_cases hx : x ∈ s <;> simp [hx] <;> simp [hx] at hk <;> omega) with ⟨hz, hk2⟩ | ⟨hz, hk2⟩; all_goals (have HZ := Lib.hid hz; clear hz hk)))
  all_goals
    go_ret
    exact ⟨by rw [HZ.out]; simp <;> omega, rfl⟩
theorem signedK_mem (k : Int) : decide (k ∈ ([2, 3, 4, 5, 6, 8, 9] : List Int)) = signedK k := by
  rw [Bool.eq_iff_iff]
  simp [signedK, or_assoc]
theorem mSigned_c {w : World} {k : Int} : Calls Tryz.prog 86 #[.int .i64 k] w fun e w' => e = .returned (.bool (signedK k)) ∧ B w w' := by
  have HI := Lib.hid (hasInt_c (x := k) (litI (w := w.alloc (.cells #[.int .i64 2, .int .i64 3, .int .i64 4, .int .i64 5, .int .i64 6, .int .i64 8, .int .i64 9] 3)) (g := w.heap.size) (t := 3) [2, 3, 4, 5, 6, 8, 9] (Blk.new w 3 _) (by simp) (by simp)))
  rw [signedK_mem] at HI
  go_enter Tryz.func86, Tryz.ntmps86
  go_wp2_with (first | (go_at_call 112; (with_reducible refine callsM (HI.out) ?_); rintro e w1 ⟨rfl, rfl⟩))
  go_ret
  exact ⟨rfl, BB.out⟩
end Go.Proofs.YtbbcepmhkocgbaaGreatDoor

/- request.PutBatch; the writer of package message: numbers, byte strings, signatures, batches behind its bytes. -/
namespace Go.Proofs.YtbbcepmhkocgbaaGreatDoor
open Go.RowKit Go.Deep
set_option linter.unusedVariables false

set_option maxRecDepth 20000 in
set_option maxHeartbeats 8000000 in
theorem putBatch_c {inn : Nat → Prop} {w : World} {u v : Value} {bs : List UInt8} {s : List SignedD} (h : (tL tSigned).rd inn w [u] s) (hb : Bs w v bs) (hl : (bs ++ batchP s).length + 100 ≤ big) :
    Calls Tryz.prog 139 #[v, u] w (Fresh w (bs ++ batchP s)) := by
  have HB := Lib.hid hb
  have HS := Lib.hid (St.nil w)
  have HC := Lib.hid (fun (w' : World) (hb : B w w') => batchE_c ((tL tSigned).later h hb))
  by_cases h0 : batchE s = 0
  · have HP := Lib.hid (fun (w' : World) (hw : B w w') => partsPut_c ((tL tSigned).later h hw) h0 (hb.later hw) (by unfold batchP at hl; rw [if_pos h0] at hl; exact hl))
    have H0 := Lib.hid (show batchP s = batchB s from by unfold batchP; rw [if_pos h0])
    rw [h0] at HC
    clear h0 hb hl h
    go_enter Tryz.func139, Tryz.ntmps139
    go_wp2_with (first
      | (go_at_call 160; (with_reducible refine callsM (HC.out _ HS.out.on.b) ?_); rintro r wn ⟨rfl, hS⟩; replace HS := Lib.hid (HS.out.on.later hS); clear hS)
      | (go_at_call 172; (with_reducible refine callsM (St.fresh HS.out.on (HP.out _ HS.out.on.b)) ?_); rintro e w1 ⟨v1, rfl, hS⟩; replace HS := Lib.hid hS; clear hS))
    go_ret
    rw [H0.out]
    exact HS.out.toFresh
  · have g0 : (batchE s != 0) = true := by simpa using h0
    have H0 := Lib.hid (show batchP s = [] from by unfold batchP; rw [if_neg h0])
    clear h0 hb hl h
    go_enter Tryz.func139, Tryz.ntmps139
    go_wp2_with (first
      | (go_at_call 160; (with_reducible refine callsM (HC.out _ HS.out.on.b) ?_); rintro r wn ⟨rfl, hS⟩; replace HS := Lib.hid (HS.out.on.later hS); clear hS)
      | (go_at_call 83; (with_reducible refine callsM (St.fresh HS.out.on (clone89 (HB.out.later HS.out.on.b))) ?_); rintro e w1 ⟨v1, rfl, hS⟩; replace HS := Lib.hid hS; clear hS))
    go_ret
    rw [H0.out, List.append_nil]
    exact HS.out.toFresh
section
variable {W w : World} {p : Nat} {v : Value} {bs : List UInt8} {X : List Asn}
/-- numbers that were written down in a block of their own -/
theorem litO {w : World} {g : Nat} {t : TypeId} (ns : List Int) (h : Blk w g t (ns.map (Value.int .i64)).toArray) (hb : ∀ n ∈ ns, -9223372036854775808 ≤ n ∧ n ≤ 9223372036854775807) (hl : ns.length ≤ 4194304) :
    (tL tI).rd (fun x => x = g) w [.slice (some ⟨g, 0, none⟩) ns.length ns.length] ns := by
  refine ⟨_, _, rfl, Nat.le_refl _, by unfold maxLen; omega, fun e => (by cases e), hl, fun _ => ⟨g, 0, rfl, h.lt, rfl, fun i x hx => ⟨_, ⟨rfl, hb x (List.mem_of_getElem? hx)⟩, fun j v hj => ?_⟩⟩⟩
  cases j with
  | zero =>
    simp only [List.getElem?_cons_zero, Option.some.injEq] at hj
    subst hj
    rw [h.cell]
    simp [tI, hx]
  | succ j => simp at hj
theorem litA (h : St W w X) (t : TypeId) (ns : List Int) (hb : ∀ n ∈ ns, -9223372036854775808 ≤ n ∧ n ≤ 9223372036854775807) (hl : ns.length ≤ 4194304) : St W (w.alloc (.cells (ns.map (Value.int .i64)).toArray t)) (aRd2 (tL tI) [.slice (some ⟨w.heap.size, 0, none⟩) ns.length ns.length] ns :: X) :=
  h.add (B.alloc' _ _) (A := aRd2 (tL tI) [.slice (some ⟨w.heap.size, 0, none⟩) ns.length ns.length] ns) (own := fun x => x = w.heap.size) (litO ns (Blk.new w t _) hb hl) (fun x e => by omega)
abbrev I64 (n : Int) : Prop := -9223372036854775808 ≤ n ∧ n ≤ 9223372036854775807
theorem litA1 (h : St W w X) (t : TypeId) (a : Int) (ha : I64 a) : St W (w.alloc (.cells #[.int .i64 a] t)) (aRd2 (tL tI) [.slice (some ⟨w.heap.size, 0, none⟩) 1 1] [a] :: X) := litA h t [a] (by simp; exact ha) (by simp)
theorem litA2 (h : St W w X) (t : TypeId) (a b : Int) (ha : I64 a) (hb : I64 b) : St W (w.alloc (.cells #[.int .i64 a, .int .i64 b] t)) (aRd2 (tL tI) [.slice (some ⟨w.heap.size, 0, none⟩) 2 2] [a, b] :: X) := litA h t [a, b] (by simp; exact ⟨ha, hb⟩) (by simp)
theorem litA3 (h : St W w X) (t : TypeId) (a b c : Int) (ha : I64 a) (hb : I64 b) (hc : I64 c) : St W (w.alloc (.cells #[.int .i64 a, .int .i64 b, .int .i64 c] t)) (aRd2 (tL tI) [.slice (some ⟨w.heap.size, 0, none⟩) 3 3] [a, b, c] :: X) := litA h t [a, b, c] (by simp; exact ⟨ha, hb, hc⟩) (by simp)
theorem litA4 (h : St W w X) (t : TypeId) (a b c d : Int) (ha : I64 a) (hb : I64 b) (hc : I64 c) (hd : I64 d) : St W (w.alloc (.cells #[.int .i64 a, .int .i64 b, .int .i64 c, .int .i64 d] t)) (aRd2 (tL tI) [.slice (some ⟨w.heap.size, 0, none⟩) 4 4] [a, b, c, d] :: X) := litA h t [a, b, c, d] (by simp; exact ⟨ha, hb, hc, hd⟩) (by simp)
theorem litA5 (h : St W w X) (t : TypeId) (a b c d e : Int) (ha : I64 a) (hb : I64 b) (hc : I64 c) (hd : I64 d) (he : I64 e) : St W (w.alloc (.cells #[.int .i64 a, .int .i64 b, .int .i64 c, .int .i64 d, .int .i64 e] t)) (aRd2 (tL tI) [.slice (some ⟨w.heap.size, 0, none⟩) 5 5] [a, b, c, d, e] :: X) := litA h t [a, b, c, d, e] (by simp; exact ⟨ha, hb, hc, hd, he⟩) (by simp)
theorem encI_wrap (n : Int) : enc (IntKind.u64.wrap n).toNat = encI n := by unfold encI; rw [IntKind.wrap_u64]
theorem wrap_ok (n : Int) : 0 ≤ IntKind.u64.wrap n ∧ IntKind.u64.wrap n < 18446744073709551616 := by rw [IntKind.wrap_u64]; omega
theorem numsB_cons (n : Int) (r : List Int) : numsB (n :: r) = encI n ++ numsB r := by simp [numsB]
theorem numsB_app (a b : List Int) : numsB (a ++ b) = numsB a ++ numsB b := by simp [numsB]
/-- the writer, with its bytes -/
theorem St.wset {v' : Value} {bs' : List UInt8} (h : St W w (aBy v' bs' :: aBlk p 149 #[v] :: aBy v bs :: X)) : St W (w.setCell ⟨p, 0, none⟩ v') (aBlk p 149 #[v'] :: aBy v' bs' :: X) :=
  (aBlk.set h.swap 0 v').rot3.drop
set_option maxRecDepth 20000 in
set_option maxHeartbeats 8000000 in
theorem wNum_c {u : Value} {ns : List Int} (h : St W w (aBlk p 149 #[v] :: aBy v bs :: aRd2 (tL tI) [u] ns :: X)) (hl : (bs ++ numsB ns).length + 30 ≤ big) :
    Calls Tryz.prog 116 #[.pointer (some ⟨p, 0, none⟩), u] w fun r w' => r = .returned (.tuple #[]) ∧ ∃ v', St W w' (aBlk p 149 #[v'] :: aBy v' (bs ++ numsB ns) :: aRd2 (tL tI) [u] ns :: X) := by
  obtain ⟨A, c, e1, hs⟩ := tL.slice (h.rot3.get.choose_spec.1 : (tL tI).rd _ w [u] ns)
  injection e1 with e1 _
  subst e1
  have HS := Lib.hid h
  have HL := Lib.hid hl
  have HQ := Lib.hid (show ∀ q x, ns[q]? = some x → numsB (ns.take (q + 1)) = numsB (ns.take q) ++ encI x ∧ (numsB (ns.take q)).length ≤ (numsB ns).length from fun q x hx => by
    refine ⟨by rw [List.take_add_one, hx, numsB_app]; simp [numsB], ?_⟩
    have e := congrArg (fun l => (numsB l).length) (List.take_append_drop q ns)
    simp only [numsB_app, List.length_append] at e
    omega)
  clear h hl
  go_enter Tryz.func116, Tryz.ntmps116
  go_wp2_with fail
  go_loopw [8] (fun i wr => ∃ (q : Nat) (v1 : Value) (z : List UInt8), q ≤ ns.length ∧ i = .int .i64 q ∧ Hid (z = bs ++ numsB (ns.take q)) ∧ Hid (St W wr (aBlk p 149 #[v1] :: aBy v1 z :: aRd2 (tL tI) [.slice A ns.length c] ns :: X))) (fun i _ => ns.length - (intOf i).toNat)
  case atStart => exact ⟨0, v, bs, Nat.zero_le _, rfl, Lib.hid (by simp [numsB]), HS.out⟩
  case round =>
    obtain ⟨q, v1, z, hq, rfl, HZ, HS⟩ := hrel
    by_cases hlt : q < ns.length
    · obtain ⟨x, hx⟩ : ∃ x, ns[q]? = some x := ⟨_, List.getElem?_eq_getElem hlt⟩
      obtain ⟨_, b, off, ds, rfl, ⟨rfl, _⟩, k1⟩ := tL.at (HS.out.rot3.get.choose_spec.1 : (tL tI).rd _ wr [.slice A ns.length c] ns) hx
      have d0 := k1 0 _ rfl
      simp only [show tI.n = 1 from rfl, Nat.mul_one, Nat.add_zero] at d0
      have HX := Lib.hid (HQ.out q x hx)
      have HLZ := Lib.hid (show z.length + 30 ≤ big from by have h1 := HL.out; have h2 := HX.out.2; have h3 := congrArg List.length HZ.out; simp only [List.length_append] at h1 h3; omega)
      have hqi : (q : Int) < ns.length := by omega
      obtain ⟨A1, c1, rfl⟩ := HS.out.swap.bySlice
      have KP := (aBlk.get HS.out).cell 0
      simp at KP
      clear k1 hx
      go_wp2_with (first
        | (go_at_call 61; (with_reducible refine callsM (St.fresh HS.out.on (putN_c (HS.out.swap.byBs (by have := HLZ.out; omega)) _ (wrap_ok x) (by have := HLZ.out; omega))) ?_); rintro r wn ⟨v2, rfl, hS⟩; obtain ⟨z2, hz2⟩ : ∃ z2, z2 = z ++ enc (IntKind.u64.wrap x).toNat := ⟨_, rfl⟩; rw [← hz2] at hS; have HZ2 := Lib.hid hz2; clear hz2; obtain ⟨A2, c2, rfl⟩ := hS.bySlice; have KQ := (aBlk.get hS.swap).cell 0; have FQ := (aBlk.get hS.swap).frozen 0; simp at KQ; replace HS := Lib.hid hS.wset; clear hS))
      go_roundw
      case rel =>
        refine ⟨q + 1, _, z2, by omega, by go_num, ?_, HS.out⟩
        show z2 = _
        rw [HZ2.out, HZ.out, encI_wrap, List.append_assoc, ← HX.out.1]
      case measure => simp [intOf]; omega
    · have hqi : ¬ (q : Int) < ns.length := by omega
      replace HS := Lib.hid (show St W _ (aBlk p 149 #[v1] :: aBy v1 (bs ++ numsB ns) :: aRd2 (tL tI) [.slice A ns.length c] ns :: X) from by have h1 := HS.out; rw [HZ.out, List.take_of_length_le (by omega)] at h1; exact h1)
      clear hlt hq
      go_wp2_with fail
      go_end0
      exact ⟨rfl, v1, HS.out⟩
end
end Go.Proofs.YtbbcepmhkocgbaaGreatDoor

/- What yields new bytes, as data; the writer of package message: numbers, byte strings, signatures, batches. -/
namespace Go.Proofs.YtbbcepmhkocgbaaGreatDoor
open Go.RowKit
set_option linter.unusedVariables false
set_option maxRecDepth 20000

theorem fresh_s {P : Program} {f : FuncId} {ar : List D} {bs : List UInt8} (hl : bs.length ≤ big) (hcal : calleeOk P f = true) (h : ∀ w I vs, Drs I w vs ar → Calls P f vs.toArray w (Fresh w bs)) (hp : pureD.pl ar = true) : FnP P f ar (.list 1 (bs.map cByte)) := by
  refine ⟨hcal, fun w I g vs hd ha => (h w I vs (pureL_ok ha hp)).mono ?_⟩
  rintro e w' ⟨v, rfl, hr, hb⟩
  have hg : g = [] := List.eq_nil_of_length_eq_zero hd.len
  subst hg
  have hn : ∀ b, ¬ Owned [] [] b := fun b ⟨o, ao, p, h, _⟩ => by simp at h
  refine ⟨v, fun b => I b ∨ (w.heap.size ≤ b ∧ b < w'.heap.size), [], _, [], rfl, ⟨rfl, rfl⟩, (hd.later hb).inns (fun _ h => .inl h) (fun b hb' => ?_) (fun b _ => hn b), .rd ((Bs.of_own hr hl).dr (fun g hg _ => .inr ⟨row_ge hr hg, row_lt hr hg⟩)), Ext.of_B hb, fun _ h => .inl h, fun b hb' => ?_, fun b h => .inl h, fun o p t cs _ h => by simp at h⟩
  · rcases hb' with k | k
    · have := hd.inn b k
      have := hb.size
      omega
    · exact k.2
  · rcases hb' with k | k
    · exact .inl k
    · exact .inr (.inr k.1)
theorem Drs.two_inv {I : Nat → Prop} {w : World} {cs : List Value} {d e : D} (h : Drs I w cs [d, e]) : ∃ v u, cs = [v, u] ∧ Dr I w v d ∧ Dr I w u e := by
  obtain ⟨hl, h⟩ := h
  match cs, hl with
  | [v, u], _ => exact ⟨v, u, rfl, h 0 v d rfl rfl, h 1 u e rfl rfl⟩
theorem u64_range (n : Int) : 0 ≤ IntKind.u64.wrap n ∧ IntKind.u64.wrap n < 18446744073709551616 := by
  simp only [IntKind.wrap, IntKind.signed, IntKind.bits]
  simp
  omega
theorem u64_enc (n : Int) : enc (IntKind.u64.wrap n).toNat = encI n := by
  unfold encI
  congr 2
theorem putNum_s (bs : List UInt8) (n : Int) (hl : bs.length + 100 ≤ big) : FnP Tryz.prog 61 [.list 1 (bs.map cByte), .int .u64 (IntKind.u64.wrap n)] (.list 1 ((bs ++ encI n).map cByte)) :=
  fresh_s (by have := enc_10 (show (n % 18446744073709551616).toNat < 18446744073709551616 by omega); unfold encI; rw [List.length_append]; omega) (by kernel_rfl) (fun w I vs hv => by
    obtain ⟨v, u, rfl, h1, h2⟩ := hv.two_inv
    cases h2
    rw [← u64_enc]
    exact putN_c (h1.bs (by omega)) _ (u64_range n) (by omega)) rfl
theorem putBytes_s (bs xs : List UInt8) (hx : xs.length ≤ 4194304) (hl : (bs ++ xs).length + 100 ≤ big) : FnP Tryz.prog 84 [.list 1 (bs.map cByte), .list 1 (xs.map cByte)] (.list 1 ((bs ++ byF xs).map cByte)) :=
  fresh_s (by have := enc_10 (show xs.length < 18446744073709551616 by omega); unfold byF; simp at hl ⊢; omega) (by kernel_rfl) (fun w I vs hv => by
    obtain ⟨v, u, rfl, h1, h2⟩ := hv.two_inv
    rw [← byF_eq]
    exact putBytes72 (h1.bs (by simp at hl; omega)) (h2.bs (by simp at hl; omega)) (by omega)) rfl
theorem signP_l (s : SignD) : (signP s).length ≤ 20 := by
  unfold signP
  split
  · rename_i h
    obtain ⟨h1, h2⟩ := signE0 h
    have e1 := enc_10 (show s.key.toNat < 18446744073709551616 by omega)
    have e2 := enc_10 (show s.digest.toNat < 18446744073709551616 by omega)
    unfold signB
    rw [List.length_append]
    omega
  · simp
theorem putSign_s (bs : List UInt8) (x : SignD) (hl : bs.length + 100 ≤ big) : FnP Tryz.prog 138 [.list 1 (bs.map cByte), .agg (cSign x)] (.list 1 ((bs ++ signP x).map cByte)) :=
  fresh_s (by have := signP_l x; rw [List.length_append]; omega) (by kernel_rfl) (fun w I vs hv => by
    obtain ⟨v, u, rfl, h1, h2⟩ := hv.two_inv
    obtain ⟨us, rfl, k1, k2⟩ := (Vr.rd (g := []) h2).agg_inv
    obtain ⟨a, b, rfl, e1, e2⟩ := (pureL_ok k1 (by rfl)).two_inv
    cases e1
    cases e2
    exact putSign_c (h1.bs (by omega)) (by omega)) rfl
theorem putBatch_s (bs : List UInt8) (x : List SignedD) (hx : (dL dSigned).ok x) (hl : (bs ++ batchP x).length + 100 ≤ big) : FnP Tryz.prog 139 [.list 1 (bs.map cByte), .list 9 (x.map cSigned)] (.list 1 ((bs ++ batchP x).map cByte)) :=
  fresh_s (by omega) (by kernel_rfl) (fun w I vs hv => by
    obtain ⟨v, u, rfl, h1, h2⟩ := hv.two_inv
    exact putBatch_c ((LkL LkSigned).of (.one h2) hx) (h1.bs (by simp at hl; omega)) (by omega)) rfl
/-! the writer -/
abbrev oW (bs : List UInt8) : List AO := [.cells 149 [.list 1 (bs.map cByte)]]
/-- it puts bytes behind what the writer has -/
abbrev FnW (f : FuncId) (ar : List D) (add : List UInt8) : Prop := ∀ bs : List UInt8, (bs ++ add).length + 200 ≤ big → FnS Tryz.prog f (.ptr 0 0 :: ar) (oW bs) (fun r h => r = .tup [] ∧ h = oW (bs ++ add))
section
variable {Q : Exit → S → Prop}
theorem okWr {f : FuncId} {ar ar' : List D} {add bs : List UInt8} {hb : List AO} {c : D → List AO → T} (hF : FnW f ar add) (hl : (bs ++ add).length + 200 ≤ big) (hv : vwP hb [0] [0] (oW bs)) (hc : Cos ar' (D.ren.rl [0] (.ptr 0 0 :: ar))) (hM : ([0].all fun o => (foot hb ar').elem o) = true) (k : (c (.tup []) (upH hb [0] (oW bs) (oW (bs ++ add)))).ok Tryz.prog Q) : (T.call f ar' hb c).ok Tryz.prog Q :=
  okCall [0] (hF bs hl) (.mk' rfl hv) hc hM k
theorem endWr {tb : TT} {rs : List ResultVar} {ex : Exit} {s : S} {bs bs' : List UInt8} {ds : List D} (he : ex = .normal ∨ ex = .ret) (hr : resD tb s rs = some ds) (hv : vwP s.h [0] [0] (oW bs')) (hco : Co (resV ds) (.tup [])) {add : List UInt8} (hx : bs' = bs ++ add) : (T.leaf ex s).ok Tryz.prog (Lf tb rs (oW bs) (fun r h => r = .tup [] ∧ h = oW (bs ++ add))) := by
  subst hx
  exact endObj [0] he hr rfl hv ⟨⟨rfl, rfl⟩, trivial⟩ hco
end
theorem okLt' {P : Program} {Q : Exit → S → Prop} {a b : Nat} {t f : T} (h1 : a < b → t.ok P Q) (h2 : b ≤ a → f.ok P Q) : (T.br (decide ((a : Int) < (b : Int))) t f).ok P Q :=
  ⟨fun h => h1 (by simpa using h), fun h => h2 (by simpa using h)⟩
theorem wStr_s (x : List UInt8) (hx : x.length ≤ 4194304) : FnW 123 [.list 1 (x.map cByte)] (byF x) := by
  intro bs hl
  refine mkS 13 [] Tryz.func123 rfl (by kernel_rfl) ?_
  repeat'
    (conv => arg 2; whnf)
    first
    | refine okAsk (by kernel_rfl) ?_
    | refine okFn (putBytes_s bs x hx (by unfold byF at hl; simp at hl ⊢; omega)) rfl (Cos.refl _) ?_
    | exact endWr (.inl rfl) rfl ⟨⟨rfl, rfl⟩, trivial⟩ (.refl _) rfl
theorem wSign_s (x : SignD) : FnW 114 [.agg (cSign x)] (signP x) := by
  intro bs hl
  refine mkS 15 [(1, ⟨[(0, false), (1, false), (2, false), (3, false), (4, false), (6, false), (5, true), (7, true), (8, false), (9, false), (10, false), (11, true)], [0]⟩)] Tryz.func114 rfl (by kernel_rfl) ?_
  repeat'
    (conv => arg 2; whnf)
    first
    | refine okAsk (by kernel_rfl) ?_
    | refine okFn (putSign_s bs x (by simp at hl; omega)) rfl (Cos.refl _) ?_
    | exact endWr (.inl rfl) rfl ⟨⟨rfl, rfl⟩, trivial⟩ (.refl _) rfl
theorem wBatch_s (x : List SignedD) (hx : (dL dSigned).ok x) : FnW 117 [.list 9 (x.map cSigned)] (batchP x) := by
  intro bs hl
  refine mkS 15 [] Tryz.func117 rfl (by kernel_rfl) ?_
  repeat'
    (conv => arg 2; whnf)
    first
    | refine okAsk (by kernel_rfl) ?_
    | refine okFn (putBatch_s bs x hx (by omega)) rfl (Cos.refl _) ?_
    | exact endWr (.inl rfl) rfl ⟨⟨rfl, rfl⟩, trivial⟩ (.refl _) rfl
theorem wNum_s (l : List Int) (hl : l.length ≤ 4194304) : FnW 116 [.list 1 (l.map cNum)] (numsB l) := by
  intro bs hb
  refine mkS 23 [] Tryz.func116 rfl (by kernel_rfl) ?_
  conv => arg 2; whnf
  refine okLoop (α := Nat) (fun q => ⟨[(8, .int .i64 q), (7, .int .i64 (l.map cNum).length), (6, .list 1 (l.map cNum)), (0, .ptr 0 0)], oW (bs ++ numsB (l.take q))⟩) (fun q => q ≤ l.length) (fun q => l.length - q) 0 (Nat.zero_le _) (Sv.mk' [0] rfl ⟨⟨rfl, by simp [numsB]; rfl⟩, trivial⟩ ⟨rfl, rfl, rfl, rfl, trivial⟩) ?_
  intro q hq
  have hb' : (bs ++ numsB (l.take q)).length + 200 ≤ big := by
    have : (numsB (l.take q)).length ≤ (numsB l).length := by
      conv => rhs; rw [← List.take_append_drop q l]
      simp only [numsB, List.flatMap_append, List.length_append]; omega
    simp only [List.length_append] at hb ⊢; omega
  repeat'
    (conv => arg 2; whnf)
    first
    | refine okBrT ?_
    | refine okBrF ?_
    | refine okBr (fun h => ?_) (fun h => ?_)
    | refine okNthMap (by simpa using h) (fun x hx => ?_)
    | refine okFn (putNum_s (bs ++ numsB (l.take q)) x (by omega)) rfl (Cos.refl _) ?_
    | refine okWrap (w64 (by simp at h; omega) (by simp at h; omega)) ?_
    | refine okRaw ?_
    | refine okAgain (q + 1) (Sv.mk' [0] rfl ⟨⟨rfl, by rw [List.take_add_one, hx]; simp [numsB]; rfl⟩, trivial⟩ ⟨rfl, rfl, rfl, rfl, trivial⟩) ?_ ?_
    | refine okOut ?_
    | refine endWr (.inl rfl) rfl ⟨⟨rfl, rfl⟩, trivial⟩ (.refl _) ?_
  · simp at h; omega
  · simp at h; omega
  · rw [show l.take q = l from List.take_of_length_le (by simp at h; omega)]
theorem wMany_s (n : Int) : FnW 120 [.int .i64 n] (encI n) := by
  intro bs hb
  have h1 : numsB [n] = encI n := by simp [numsB]
  refine mkS 8 [] Tryz.func120 rfl (by kernel_rfl) ?_
  repeat'
    (conv => arg 2; whnf)
    first
    | refine okAsk (by kernel_rfl) ?_
    | refine okWr (wNum_s [n] (by simp)) (by rw [h1]; omega) ⟨⟨rfl, rfl⟩, trivial⟩ (Cos.refl _) rfl ?_
    | refine endWr (.inl rfl) rfl ⟨⟨rfl, rfl⟩, trivial⟩ (.refl _) ?_
  rw [h1]
theorem wSigns_s (l : List SignD) (hl : l.length ≤ 4194304) : FnW 140 [.list 2 (l.map cSign)] (signsB l) := by
  intro bs hb
  have hm : ∀ q, ((bs ++ encI (l.length : Int)) ++ (l.take q).flatMap signP).length + 200 ≤ big := fun q => by
    have : ((l.take q).flatMap signP).length ≤ (l.flatMap signP).length := by
      conv => rhs; rw [← List.take_append_drop q l]
      simp only [List.flatMap_append, List.length_append]; omega
    simp only [signsB, List.length_append] at hb ⊢; omega
  have h0 := hm 0
  refine mkS 22 [] Tryz.func140 rfl (by kernel_rfl) ?_
  repeat'
    (conv => arg 2; whnf)
    first
    | refine okAsk (by kernel_rfl) ?_
    | refine okWr (wMany_s _) (by simpa using h0) ⟨⟨rfl, rfl⟩, trivial⟩ (Cos.refl _) rfl ?_
  conv => arg 2; whnf
  refine okLoop (α := Nat) (fun q => ⟨[(14, .int .i64 q), (13, .int .i64 (l.map cSign).length), (12, .list 2 (l.map cSign)), (0, .ptr 0 0)], oW ((bs ++ encI ((l.map cSign).length : Nat)) ++ (l.take q).flatMap signP)⟩) (fun q => q ≤ l.length) (fun q => l.length - q) 0 (Nat.zero_le _) (Sv.mk' [0] rfl ⟨⟨rfl, by simp; rfl⟩, trivial⟩ ⟨rfl, rfl, rfl, rfl, trivial⟩) ?_
  intro q hq
  repeat'
    (conv => arg 2; whnf)
    first
    | refine okAsk (by kernel_rfl) ?_
    | refine okBrT ?_
    | refine okBrF ?_
    | refine okLt' (fun hlt => ?_) (fun hge => ?_)
    | refine okNthMap (by simpa using hlt) (fun x hx => ?_)
    | refine okWr (wSign_s x) (by have := hm (q + 1); rw [List.take_add_one, hx] at this; simpa using this) ⟨⟨rfl, rfl⟩, trivial⟩ (Cos.refl _) rfl ?_
    | refine okWrap (w64 (by simp at hlt; omega) (by simp at hlt; omega)) ?_
    | refine okAgain (q + 1) (Sv.mk' [0] rfl ⟨⟨rfl, by rw [List.take_add_one, hx]; simp; rfl⟩, trivial⟩ ⟨rfl, rfl, rfl, rfl, trivial⟩) ?_ ?_
    | refine okOut ?_
    | refine endWr (.inl rfl) rfl ⟨⟨rfl, rfl⟩, trivial⟩ (.refl _) ?_
  · simp at hlt; omega
  · simp at hlt; omega
  · rw [show l.take q = l from List.take_of_length_le (by simpa using hge)]
    simp [signsB]
theorem wCert_s (c : CertD) (hc : dCert.ok c) : FnW 122 [.agg (cCert c)] (certB c) := by
  intro bs hb
  have h1 : (bs ++ numsB [c.seq, c.digest]).length + 200 ≤ big := by simp only [certB, List.length_append] at hb ⊢; omega
  refine mkS 17 [] Tryz.func122 rfl (by kernel_rfl) ?_
  repeat'
    (conv => arg 2; whnf)
    first
    | refine okAsk (by kernel_rfl) ?_
    | refine okWr (wNum_s [c.seq, c.digest] (by simp)) (h1) ⟨⟨rfl, rfl⟩, trivial⟩ (Cos.refl _) rfl ?_
    | refine okWr (wSigns_s c.signs hc.2.2.1) (by simpa only [certB, List.append_assoc] using hb) ⟨⟨rfl, rfl⟩, trivial⟩ (Cos.refl _) rfl ?_
    | refine endWr (.inl rfl) rfl ⟨⟨rfl, rfl⟩, trivial⟩ (.refl _) ?_
  simp only [certB, List.append_assoc]
end Go.Proofs.YtbbcepmhkocgbaaGreatDoor

