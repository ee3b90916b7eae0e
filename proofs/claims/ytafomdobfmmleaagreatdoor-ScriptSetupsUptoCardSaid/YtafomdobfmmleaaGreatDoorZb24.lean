/- Lemmas and contracts, part 24. -/
import Derived.Test.YtafomdobfmmleaaGreatDoorZb23
import Derived.Lib.ItoaLen
import Derived.Deep.Light
import Derived.Deep.QuietTactic
import Derived.BigQuiet
import Derived.Deep.RegionLaw
/- script.Line: an act's line (printed by gen_uc.py). -/
namespace Go.Proofs.YtafomdobfmmleaaGreatDoor
open Go.RowKit Go.Deep
set_option linter.unusedVariables false

theorem newRow (w1 : World) (U : Array Value) : B w1 ((w1.alloc (.cells #[.int .i64 0, .int .i64 0, .int .i64 0, .int .i64 0, .string ⟨#[]⟩, .string ⟨#[]⟩, .int .i64 0, .slice none 0 0, .slice none 0 0, .int .i64 0, .int .i64 0, .int .i64 0, .int .i64 0, .int .i64 0, .int .i64 0, .int .i64 0, .int .i64 0, .int .i64 0, .slice none 0 0, .int .i64 0, .int .i64 0, .slice none 0 0, .slice none 0 0, .slice none 0 0, .slice none 0 0, .string ⟨#[]⟩, .int .i64 0, .string ⟨#[]⟩, .int .i64 0, .slice none 0 0, .slice none 0 0, .int .i64 0, .int .i64 0, .slice none 0 0, .int .i64 0, .int .i64 0, .slice none 0 0, .int .i64 0, .int .i64 0, .bool false] 61)).setRow w1.heap.size U) := setRow_B (t := 61) (cs := #[]) (B.alloc' w1 _) (Nat.le_refl _) U
theorem joinF_len (M : Nat) : ∀ l : List (List UInt8), (∀ y ∈ l, y.length ≤ M) → (joinF l).length ≤ l.length * (M + 1)
  | [], _ => by simp [joinF]
  | [x], h => by have := h x (by simp); simp [joinF]; omega
  | x :: y :: r, h => by
    have h1 := h x (by simp)
    have h2 := joinF_len M (y :: r) (fun z hz => h z (by simp [hz]))
    simp only [joinF, List.length_append, List.length_cons] at h2 ⊢
    rw [Nat.add_mul (r.length + 1) 1, Nat.one_mul]
    omega
theorem kwN_len (n : Nat) (s : Bool) : (kwN n s).length ≤ 10 := by
  unfold kwN
  split
  all_goals first
    | (simp [wDeliver, wDrop, wDouble, wTick, wClock, wAsk, wRead, wCrash, wStart, wHash, wRound]; done)
    | (cases s <;> simp [wSend, wSeal])
theorem keepW_len {inn : Nat → Prop} {w : World} {cs : List Value} {x : ActD} (hx : tAct.rd inn w cs x) (hk : keepOk x) : (∀ y ∈ keepW x, y.length ≤ 8388610) ∧ (keepW x).length ≤ 4 := by
  obtain ⟨oc, b, mc, rfl, ⟨b1, b2, b3⟩, ho, hb, hm⟩ := tAct.open' hx
  obtain ⟨hr, h6, h11⟩ := hk
  have i1 := Lib.itoa_length_le x.who b2.1 b2.2
  have i2 := Lib.itoa_length_le x.num b3.1 b3.2
  have hy := tY.le hb
  unfold keepW
  constructor
  · intro y hy'
    rcases List.mem_cons.1 hy' with rfl | hy'
    · have := kwN_len x.kind.toNat x.sealed; omega
    · unfold argW at hy'
      split at hy'
      · simp at hy'; subst hy'; omega
      split at hy'
      · simp at hy'; subst hy'; omega
      split at hy'
      · rename_i k6
        simp at hy'
        rcases hy' with rfl | rfl
        · omega
        · exact hexF_len _ 0 (by have := opB_short (h6 k6); omega)
      split at hy'
      · simp at hy'; rcases hy' with rfl | rfl <;> omega
      split at hy'
      · simp at hy'; subst hy'; exact hexF_len _ 0 hy
      split at hy'
      · rename_i k11
        have hw := h11 k11
        have hu := unsB_len (msgE_kind (checkE_msg hw.1.1))
        rw [unsB_withS] at hu
        have ob := ownS_b hm
        simp [msgW, signW] at hy'
        rcases hy' with rfl | rfl | rfl
        · omega
        · exact hexF_len _ 0 (by omega)
        · have e1 := encLe10 (ownS x.msg).key.toNat (by omega)
          have e2 := encLe10 (ownS x.msg).digest.toNat (by omega)
          exact hexF_len _ 0 (by rw [List.length_append]; omega)
      · simp at hy'
  · unfold argW
    repeat' split
    all_goals simp [msgW]
theorem lineF_len {inn : Nat → Prop} {w : World} {cs : List Value} {x : ActD} (hx : tAct.rd inn w cs x) (hk : keepOk x) : (lineF x).length ≤ 33554448 := by
  obtain ⟨h1, h2⟩ := keepW_len hx hk
  have := joinF_len 8388610 (keepW x) h1
  have h3 : (keepW x).length * (8388610 + 1) ≤ 4 * (8388610 + 1) := Nat.mul_le_mul_right _ h2
  unfold lineF
  omega
set_option maxRecDepth 20000 in
set_option maxHeartbeats 8000000 in
theorem lineN_c {inn : Nat → Prop} {w : World} {cs : List Value} {x : ActD} (hT : TabW w) (hx : tAct.rd inn w cs x) (hk : ¬ keepOk x) :
    Calls Tryz.prog 17 #[.agg cs.toArray] w fun r w' => r = .returned (.tuple #[.string ⟨#[]⟩, .int .i64 1]) ∧ B w w' := by
  have hn := (tAct.one hx).1
  have HT := Lib.hid hT
  have HX := Lib.hid hx
  obtain ⟨A, hA⟩ : ∃ A, cs.toArray = A := ⟨_, rfl⟩
  have HAS := Lib.hid (show A.size = 40 from by rw [← hA, hn])
  have HIA := Lib.hid (show (Tryz.prog.info? 61).map (·.size) = some A.size from by rw [aInfo, ← hA, hn])
  have HK := Lib.hid (fun w1 (hb : B w w1) => (show Calls Tryz.prog 42 #[.agg A] w1 _ from by rw [← hA]; exact keepU_c (hT.later hb) (tAct.later hx hb) hk))
  have HS := Lib.hid (aBlk.new (St.nil w) 61 A)
  rw [hA]
  clear hA hn hx hk hT
  go_enter Tryz.func17, Tryz.ntmps17
  go_wp2_with (first
    | (refine wpList_load_row rfl 61 (.tmp 1) rfl w.heap.size rfl 61 A (0, 0) _ (aBlk.get HS.out.on) Tryz.underlying61 rfl HIA.out ?_)
    | (go_at_call 42; (with_reducible refine callsM (HK.out _ HS.out.on.b) ?_); rintro r w1 ⟨U, v, rfl, hU, hb⟩; replace HS := Lib.hid (aBlk.new (HS.out.on.later hb) 61 #[.int .i64 0, .int .i64 0, .int .i64 0, .int .i64 0, .string ⟨#[]⟩, .string ⟨#[]⟩, .int .i64 0, .slice none 0 0, .slice none 0 0, .int .i64 0, .int .i64 0, .int .i64 0, .int .i64 0, .int .i64 0, .int .i64 0, .int .i64 0, .int .i64 0, .int .i64 0, .slice none 0 0, .int .i64 0, .int .i64 0, .slice none 0 0, .slice none 0 0, .slice none 0 0, .slice none 0 0, .string ⟨#[]⟩, .int .i64 0, .string ⟨#[]⟩, .int .i64 0, .slice none 0 0, .slice none 0 0, .int .i64 0, .int .i64 0, .slice none 0 0, .int .i64 0, .int .i64 0, .slice none 0 0, .int .i64 0, .int .i64 0, .bool false]); have HU := Lib.hid hU; clear hU hb)
    | (refine wpList_store_row rfl 61 (.tmp 4) (.tmp 10) rfl w1.heap.size U rfl rfl 61 #[.int .i64 0, .int .i64 0, .int .i64 0, .int .i64 0, .string ⟨#[]⟩, .string ⟨#[]⟩, .int .i64 0, .slice none 0 0, .slice none 0 0, .int .i64 0, .int .i64 0, .int .i64 0, .int .i64 0, .int .i64 0, .int .i64 0, .int .i64 0, .int .i64 0, .int .i64 0, .slice none 0 0, .int .i64 0, .int .i64 0, .slice none 0 0, .slice none 0 0, .slice none 0 0, .slice none 0 0, .string ⟨#[]⟩, .int .i64 0, .string ⟨#[]⟩, .int .i64 0, .slice none 0 0, .slice none 0 0, .int .i64 0, .int .i64 0, .slice none 0 0, .int .i64 0, .int .i64 0, .slice none 0 0, .int .i64 0, .int .i64 0, .bool false] (aBlk.get HS.out) (by rw [aInfo, HU.out.1]) (by rw [HU.out.1]; rfl) HU.out.2 ?_; replace HS := Lib.hid (aBlk.setRow HS.out U))
    | fail)
  go_ret2
  exact ⟨rfl, HS.out.b⟩
set_option maxRecDepth 20000 in
set_option maxHeartbeats 8000000 in
theorem lineS_c {inn : Nat → Prop} {w : World} {cs : List Value} {x : ActD} (hT : TabW w) (hx : tAct.rd inn w cs x) (hk : keepOk x) (he : ¬ x = keepF x) :
    Calls Tryz.prog 17 #[.agg cs.toArray] w fun r w' => r = .returned (.tuple #[.string ⟨#[]⟩, .int .i64 1]) ∧ B w w' := by
  have hn := (tAct.one hx).1
  have HT := Lib.hid hT
  have HX := Lib.hid hx
  obtain ⟨A, hA⟩ : ∃ A, cs.toArray = A := ⟨_, rfl⟩
  have HAS := Lib.hid (show A.size = 40 from by rw [← hA, hn])
  have HIA := Lib.hid (show (Tryz.prog.info? 61).map (·.size) = some A.size from by rw [aInfo, ← hA, hn])
  have HK := Lib.hid (fun w1 (hb : B w w1) => (show Calls Tryz.prog 42 #[.agg A] w1 _ from by rw [← hA]; exact keepV_c (hT.later hb) (tAct.later hx hb) hk))
  have HSM := Lib.hid (fun w1 (U : Array Value) (hb : B w w1) (hd : ∃ ds : List Value, U = ds.toArray ∧ tAct.rd (fun _ => True) w1 ds (keepF x)) w2 (hb2 : B w1 w2) => (show Calls Tryz.prog 22 #[.agg A, .agg U] w2 fun e w' => e = .returned (.bool false) ∧ B w2 w' from by
    obtain ⟨ds, rfl, hd⟩ := hd
    rw [← hA, ← eqB_false he]
    exact sSame_c (tAct.later hx (hb.trans hb2)) (tAct.later hd hb2)))
  have HS := Lib.hid (aBlk.new (St.nil w) 61 A)
  have HJ := Lib.hid (show (joinF (keepW x)).length ≤ 140737488355328 from by have := lineF_len hx hk; unfold lineF at this; omega)
  have HJ2 := Lib.hid (show (keepW x).length ≤ 140737488355328 from by have := (keepW_len hx hk).2; omega)
  rw [hA]
  clear hA hn hx hk hT he
  go_enter Tryz.func17, Tryz.ntmps17
  go_wp2_with (first
    | (refine wpList_load_row rfl 61 (.tmp 1) rfl w.heap.size rfl 61 A (0, 0) _ (aBlk.get HS.out.on) Tryz.underlying61 rfl HIA.out ?_)
    | (go_at_call 42; (with_reducible refine callsM (HK.out _ HS.out.on.b) ?_); rintro r w1 ⟨U, v, rfl, hU, hS⟩; have HB1 := Lib.hid (B.trans HS.out.on.b hS.b); replace HS := Lib.hid (aBlk.new (St.onto HS.out.on hS) 61 #[.int .i64 0, .int .i64 0, .int .i64 0, .int .i64 0, .string ⟨#[]⟩, .string ⟨#[]⟩, .int .i64 0, .slice none 0 0, .slice none 0 0, .int .i64 0, .int .i64 0, .int .i64 0, .int .i64 0, .int .i64 0, .int .i64 0, .int .i64 0, .int .i64 0, .int .i64 0, .slice none 0 0, .int .i64 0, .int .i64 0, .slice none 0 0, .slice none 0 0, .slice none 0 0, .slice none 0 0, .string ⟨#[]⟩, .int .i64 0, .string ⟨#[]⟩, .int .i64 0, .slice none 0 0, .slice none 0 0, .int .i64 0, .int .i64 0, .slice none 0 0, .int .i64 0, .int .i64 0, .slice none 0 0, .int .i64 0, .int .i64 0, .bool false]); have HU := Lib.hid hU; clear hU hS)
    | (refine wpList_store_row rfl 61 (.tmp 4) (.tmp 10) rfl w1.heap.size U rfl rfl 61 #[.int .i64 0, .int .i64 0, .int .i64 0, .int .i64 0, .string ⟨#[]⟩, .string ⟨#[]⟩, .int .i64 0, .slice none 0 0, .slice none 0 0, .int .i64 0, .int .i64 0, .int .i64 0, .int .i64 0, .int .i64 0, .int .i64 0, .int .i64 0, .int .i64 0, .int .i64 0, .slice none 0 0, .int .i64 0, .int .i64 0, .slice none 0 0, .slice none 0 0, .slice none 0 0, .slice none 0 0, .string ⟨#[]⟩, .int .i64 0, .string ⟨#[]⟩, .int .i64 0, .slice none 0 0, .slice none 0 0, .int .i64 0, .int .i64 0, .slice none 0 0, .int .i64 0, .int .i64 0, .slice none 0 0, .int .i64 0, .int .i64 0, .bool false] (aBlk.get HS.out) (by rw [aInfo, HU.out.1.1]) (by rw [HU.out.1.1]; rfl) HU.out.1.2 ?_; have HB2 := Lib.hid (newRow w1 U); replace HS := Lib.hid (aBlk.setRow HS.out U))
    | (refine list_take (d := some 16) (v := .agg A) rfl rfl (run_load_op (ty := 61) rfl rfl (actLoad (aBlk.get HS.out.rot3) HAS.out)) ?_)
    | (refine list_take (d := some 17) (v := .agg U) rfl rfl (run_load_op (ty := 61) rfl rfl (actLoad (aBlk.get HS.out) HU.out.1.1)) ?_)
    | (go_at_call 22; (with_reducible refine callsM (HSM.out _ _ HB1.out HU.out.2 _ HB2.out) ?_); rintro r w3 ⟨rfl, hb⟩; replace HS := Lib.hid (HS.out.later hb); clear hb)
    | fail)
  go_ret2
  exact ⟨rfl, HS.out.b⟩
set_option maxRecDepth 20000 in
set_option maxHeartbeats 8000000 in
theorem lineY_c {inn : Nat → Prop} {w : World} {cs : List Value} {x : ActD} (hT : TabW w) (hx : tAct.rd inn w cs x) (hk : keepOk x) (he : x = keepF x) :
    Calls Tryz.prog 17 #[.agg cs.toArray] w fun r w' => r = .returned (.tuple #[.string (bstr (lineF x)), .int .i64 0]) ∧ B w w' := by
  have hn := (tAct.one hx).1
  have HT := Lib.hid hT
  have HX := Lib.hid hx
  obtain ⟨A, hA⟩ : ∃ A, cs.toArray = A := ⟨_, rfl⟩
  have HAS := Lib.hid (show A.size = 40 from by rw [← hA, hn])
  have HIA := Lib.hid (show (Tryz.prog.info? 61).map (·.size) = some A.size from by rw [aInfo, ← hA, hn])
  have HK := Lib.hid (fun w1 (hb : B w w1) => (show Calls Tryz.prog 42 #[.agg A] w1 _ from by rw [← hA]; exact keepV_c (hT.later hb) (tAct.later hx hb) hk))
  have HSM := Lib.hid (fun w1 (U : Array Value) (hb : B w w1) (hd : ∃ ds : List Value, U = ds.toArray ∧ tAct.rd (fun _ => True) w1 ds (keepF x)) w2 (hb2 : B w1 w2) => (show Calls Tryz.prog 22 #[.agg A, .agg U] w2 fun e w' => e = .returned (.bool true) ∧ B w2 w' from by
    obtain ⟨ds, rfl, hd⟩ := hd
    rw [← hA, ← eqB_true he]
    exact sSame_c (tAct.later hx (hb.trans hb2)) (tAct.later hd hb2)))
  have HS := Lib.hid (aBlk.new (St.nil w) 61 A)
  have HJ := Lib.hid (show (joinF (keepW x)).length ≤ 140737488355328 from by have := lineF_len hx hk; unfold lineF at this; omega)
  have HJ2 := Lib.hid (show (keepW x).length ≤ 140737488355328 from by have := (keepW_len hx hk).2; omega)
  rw [hA]
  clear hA hn hx hk hT he
  go_enter Tryz.func17, Tryz.ntmps17
  go_wp2_with (first
    | (refine wpList_load_row rfl 61 (.tmp 1) rfl w.heap.size rfl 61 A (0, 0) _ (aBlk.get HS.out.on) Tryz.underlying61 rfl HIA.out ?_)
    | (go_at_call 42; (with_reducible refine callsM (HK.out _ HS.out.on.b) ?_); rintro r w1 ⟨U, v, rfl, hU, hS⟩; have HB1 := Lib.hid (B.trans HS.out.on.b hS.b); replace HS := Lib.hid (aBlk.new (St.onto HS.out.on hS) 61 #[.int .i64 0, .int .i64 0, .int .i64 0, .int .i64 0, .string ⟨#[]⟩, .string ⟨#[]⟩, .int .i64 0, .slice none 0 0, .slice none 0 0, .int .i64 0, .int .i64 0, .int .i64 0, .int .i64 0, .int .i64 0, .int .i64 0, .int .i64 0, .int .i64 0, .int .i64 0, .slice none 0 0, .int .i64 0, .int .i64 0, .slice none 0 0, .slice none 0 0, .slice none 0 0, .slice none 0 0, .string ⟨#[]⟩, .int .i64 0, .string ⟨#[]⟩, .int .i64 0, .slice none 0 0, .slice none 0 0, .int .i64 0, .int .i64 0, .slice none 0 0, .int .i64 0, .int .i64 0, .slice none 0 0, .int .i64 0, .int .i64 0, .bool false]); have HU := Lib.hid hU; clear hU hS)
    | (refine wpList_store_row rfl 61 (.tmp 4) (.tmp 10) rfl w1.heap.size U rfl rfl 61 #[.int .i64 0, .int .i64 0, .int .i64 0, .int .i64 0, .string ⟨#[]⟩, .string ⟨#[]⟩, .int .i64 0, .slice none 0 0, .slice none 0 0, .int .i64 0, .int .i64 0, .int .i64 0, .int .i64 0, .int .i64 0, .int .i64 0, .int .i64 0, .int .i64 0, .int .i64 0, .slice none 0 0, .int .i64 0, .int .i64 0, .slice none 0 0, .slice none 0 0, .slice none 0 0, .slice none 0 0, .string ⟨#[]⟩, .int .i64 0, .string ⟨#[]⟩, .int .i64 0, .slice none 0 0, .slice none 0 0, .int .i64 0, .int .i64 0, .slice none 0 0, .int .i64 0, .int .i64 0, .slice none 0 0, .int .i64 0, .int .i64 0, .bool false] (aBlk.get HS.out) (by rw [aInfo, HU.out.1.1]) (by rw [HU.out.1.1]; rfl) HU.out.1.2 ?_; have HB2 := Lib.hid (newRow w1 U); replace HS := Lib.hid (aBlk.setRow HS.out U))
    | (refine list_take (d := some 16) (v := .agg A) rfl rfl (run_load_op (ty := 61) rfl rfl (actLoad (aBlk.get HS.out.rot3) HAS.out)) ?_)
    | (refine list_take (d := some 17) (v := .agg U) rfl rfl (run_load_op (ty := 61) rfl rfl (actLoad (aBlk.get HS.out) HU.out.1.1)) ?_)
    | (go_at_call 22; (with_reducible refine callsM (HSM.out _ _ HB1.out HU.out.2 _ HB2.out) ?_); rintro r w3 ⟨rfl, hb⟩; replace HS := Lib.hid (HS.out.later hb); clear hb)
    | (go_at_call 28; (with_reducible refine callsM (join_c HS.out.swap (HJ.out) (HJ2.out) rfl) ?_); rintro r w4 ⟨rfl, hb⟩; replace HS := Lib.hid (HS.out.later hb); clear hb)
    | fail)
  go_ret2
  exact ⟨rfl, HS.out.b⟩
/-- what script.Line answers -/
def LinePost (w : World) (x : ActD) (r : Ending) (w' : World) : Prop := open Classical in
  (r = if lineOk x then .returned (.tuple #[.string (bstr (lineF x)), .int .i64 0]) else .returned (.tuple #[.string ⟨#[]⟩, .int .i64 1])) ∧ B w w'
theorem line_c {inn : Nat → Prop} {w : World} {cs : List Value} {x : ActD} (hT : TabW w) (hx : tAct.rd inn w cs x) : Calls Tryz.prog 17 #[.agg cs.toArray] w (LinePost w x) := by
  by_cases hk : keepOk x
  · by_cases he : x = keepF x
    · refine (lineY_c hT hx hk he).mono fun r w' h => ?_
      unfold LinePost; rw [if_pos ⟨hk, he⟩]; exact h
    · refine (lineS_c hT hx hk he).mono fun r w' h => ?_
      unfold LinePost; rw [if_neg (fun h => he h.2)]; exact h
  · refine (lineN_c hT hx hk).mono fun r w' h => ?_
    unfold LinePost; rw [if_neg (fun h => hk h.1)]; exact h
end Go.Proofs.YtafomdobfmmleaaGreatDoor

/- script.SetupLine: a setup's line (printed by gen_uk.py). -/
namespace Go.Proofs.YtafomdobfmmleaaGreatDoor
open Go.RowKit Go.Deep
set_option linter.unusedVariables false

def wWorld : List UInt8 := [119, 111, 114, 108, 100]
def setupW (s : SetupD) : List (List UInt8) := [wWorld, Lib.itoa s.f, Lib.itoa s.faulty, Lib.itoa s.liars, Lib.itoa s.room, s.topic]
def setupF (s : SetupD) : List UInt8 := joinF (setupW s)
theorem i64_idk {x : Int} (h : 0 ≤ x ∧ x ≤ 9223372036854775807) : IntKind.i64.wrap x = x := by
  simp [IntKind.wrap, IntKind.signed, IntKind.bits]; omega
theorem setupF_len {inn : Nat → Prop} {w : World} {cs : List Value} {s : SetupD} (h : tSetup.rd inn w cs s) : (setupF s).length ≤ 30000000 := by
  obtain ⟨_, b1, b2, b3, b4, b5⟩ := tSetup.parts h
  have i1 := Lib.itoa_length_le s.f b1.1 b1.2
  have i2 := Lib.itoa_length_le s.faulty (by omega) (by omega)
  have i3 := Lib.itoa_length_le s.liars (by omega) (by omega)
  have i4 := Lib.itoa_length_le s.room b4.1 b4.2
  have := joinF_len 4194304 (setupW s) (by
    intro y hy
    simp only [setupW, List.mem_cons, List.not_mem_nil, or_false] at hy
    rcases hy with rfl | rfl | rfl | rfl | rfl | rfl
    · simp [wWorld]
    all_goals omega)
  unfold setupF
  have e : (setupW s).length = 6 := rfl
  rw [e] at this
  omega
set_option maxRecDepth 20000 in
set_option maxHeartbeats 8000000 in
theorem setupN_c {inn : Nat → Prop} {w : World} {cs : List Value} {s : SetupD} (h : tSetup.rd inn w cs s) (hk : nameF s.topic = false) :
    Calls Tryz.prog 8 #[.agg cs.toArray] w fun r w' => r = .returned (.tuple #[.string ⟨#[]⟩, .int .i64 1]) ∧ B w w' := by
  obtain ⟨rfl, b1, b2, b3, b4, b5⟩ := tSetup.parts h
  have HN := Lib.hid (fun w' => name_c w' s.topic b5)
  rw [hk] at HN
  have HS := Lib.hid (aBlk.new (St.nil w) 25 #[.int .i64 s.f, .int .u16 s.faulty, .int .u16 s.liars, .int .i64 s.room, .string (bstr s.topic)])
  clear h hk
  go_enter Tryz.func8, Tryz.ntmps8
  go_wp2_with (first | (go_at_call 27; (with_reducible refine callsM (HN.out _) ?_); rintro r w1 ⟨rfl, hb⟩; replace HS := Lib.hid (HS.out.on.later hb); clear hb) | fail)
  go_ret2
  exact ⟨rfl, HS.out.b⟩
set_option maxRecDepth 20000 in
set_option maxHeartbeats 8000000 in
theorem setupY_c {inn : Nat → Prop} {w : World} {cs : List Value} {s : SetupD} (hT : TabW w) (h : tSetup.rd inn w cs s) (hk : nameF s.topic = true) :
    Calls Tryz.prog 8 #[.agg cs.toArray] w fun r w' => r = .returned (.tuple #[.string (bstr (setupF s)), .int .i64 0]) ∧ B w w' := by
  have HJ := Lib.hid (show (joinF (setupW s)).length ≤ 140737488355328 from by have := setupF_len h; unfold setupF at this; omega)
  obtain ⟨rfl, b1, b2, b3, b4, b5⟩ := tSetup.parts h
  have HN := Lib.hid (fun w' => name_c w' s.topic b5)
  rw [hk] at HN
  have HS := Lib.hid (aBlk.new (St.nil w) 25 #[.int .i64 s.f, .int .u16 s.faulty, .int .u16 s.liars, .int .i64 s.room, .string (bstr s.topic)])
  have HT := Lib.hid hT
  have HB1 := Lib.hid b1
  have HB2 := Lib.hid b2
  have HB3 := Lib.hid b3
  have HB4 := Lib.hid b4
  have w1k : IntKind.i64.wrap s.faulty = s.faulty := i64_idk (by omega)
  have w2k : IntKind.i64.wrap s.liars = s.liars := i64_idk (by omega)
  clear h hk hT
  go_enter Tryz.func8, Tryz.ntmps8
  go_wp2_with (first | (go_at_call 27; (with_reducible refine callsM (HN.out _) ?_); rintro r w1 ⟨rfl, hb⟩; replace HS := Lib.hid (HS.out.on.later hb); clear hb) | fail)
  have HSW := HS
  obtain ⟨SS, H0, HSB, HST, HLL⟩ : ∃ SS : World → Prop, SS w1.drew ∧ (∀ w', SS w' → B w w') ∧ (∀ w' w'', SS w' → B w' w'' → SS w'') ∧ (∀ w', SS w' → Blk w' w.heap.size 25 #[.int .i64 s.f, .int .u16 s.faulty, .int .u16 s.liars, .int .i64 s.room, .string (bstr s.topic)]) :=
    ⟨fun w' => B w1 w', (Below.refl _ _).drew, fun w' hb => HS.out.b.trans hb, fun w' w'' h1 h2 => h1.trans h2, fun w' hb => aBlk.get (HS.out.later hb)⟩
  replace H0 := Lib.hid H0
  replace HSB := Lib.hid HSB
  replace HST := Lib.hid HST
  replace HLL := Lib.hid HLL
  clear HS HSW
  refine wp_region_held_drew (S := SS) (by kernel_rfl) H0.out (fun HS => ?_)
  replace HS := Lib.hid HS
  generalize World.drew _ = W1 at *
  refine anyH_take (i := 0) (d := some 8) (v := .pointer (some ⟨w.heap.size, 0, none⟩)) rfl rfl (by kernel_rfl) (by kernel_rfl) (by kernel_rfl) (fun _ _ _ h => h) rfl (fun w' hS => by go_simp) HS.out ?_
  simp only [Act.put, List.setIfInBounds_toArray, List.set_cons_zero, List.set_cons_succ]
  refine anyH_take (i := 1) (d := some 9) (v := .int .i64 s.f) rfl rfl (by kernel_rfl) (by kernel_rfl) (by kernel_rfl) (fun _ _ _ h => h) rfl (fun w' hS => by exact run_load_op (ty := 3) rfl rfl (load1 (by rw [(HLL.out w' hS).cell 0]; rfl) Tryz.underlying3 rfl)) HS.out ?_
  simp only [Act.put, List.setIfInBounds_toArray, List.set_cons_zero, List.set_cons_succ]
  refine anyH_take (i := 3) (d := some 11) (v := .pointer (some ⟨w.heap.size, 1, none⟩)) rfl rfl (by kernel_rfl) (by kernel_rfl) (by kernel_rfl) (fun _ _ _ h => h) rfl (fun w' hS => by go_simp) HS.out ?_
  simp only [Act.put, List.setIfInBounds_toArray, List.set_cons_zero, List.set_cons_succ]
  refine anyH_take (i := 4) (d := some 12) (v := .int .u16 s.faulty) rfl rfl (by kernel_rfl) (by kernel_rfl) (by kernel_rfl) (fun _ _ _ h => h) rfl (fun w' hS => by exact run_load_op (ty := 23) rfl rfl (load1 (by rw [(HLL.out w' hS).cell 1]; rfl) Tryz.underlying23 rfl)) HS.out ?_
  simp only [Act.put, List.setIfInBounds_toArray, List.set_cons_zero, List.set_cons_succ]
  refine anyH_take (i := 5) (d := some 13) (v := .int .i64 s.faulty) rfl rfl (by kernel_rfl) (by kernel_rfl) (by kernel_rfl) (fun _ _ _ h => h) rfl (fun w' hS => by go_simp) HS.out ?_
  simp only [Act.put, List.setIfInBounds_toArray, List.set_cons_zero, List.set_cons_succ]
  refine anyH_take (i := 7) (d := some 15) (v := .pointer (some ⟨w.heap.size, 2, none⟩)) rfl rfl (by kernel_rfl) (by kernel_rfl) (by kernel_rfl) (fun _ _ _ h => h) rfl (fun w' hS => by go_simp) HS.out ?_
  simp only [Act.put, List.setIfInBounds_toArray, List.set_cons_zero, List.set_cons_succ]
  refine anyH_take (i := 8) (d := some 16) (v := .int .u16 s.liars) rfl rfl (by kernel_rfl) (by kernel_rfl) (by kernel_rfl) (fun _ _ _ h => h) rfl (fun w' hS => by exact run_load_op (ty := 23) rfl rfl (load1 (by rw [(HLL.out w' hS).cell 2]; rfl) Tryz.underlying23 rfl)) HS.out ?_
  simp only [Act.put, List.setIfInBounds_toArray, List.set_cons_zero, List.set_cons_succ]
  refine anyH_take (i := 9) (d := some 17) (v := .int .i64 s.liars) rfl rfl (by kernel_rfl) (by kernel_rfl) (by kernel_rfl) (fun _ _ _ h => h) rfl (fun w' hS => by go_simp) HS.out ?_
  simp only [Act.put, List.setIfInBounds_toArray, List.set_cons_zero, List.set_cons_succ]
  refine anyH_take (i := 11) (d := some 19) (v := .pointer (some ⟨w.heap.size, 3, none⟩)) rfl rfl (by kernel_rfl) (by kernel_rfl) (by kernel_rfl) (fun _ _ _ h => h) rfl (fun w' hS => by go_simp) HS.out ?_
  simp only [Act.put, List.setIfInBounds_toArray, List.set_cons_zero, List.set_cons_succ]
  refine anyH_take (i := 12) (d := some 20) (v := .int .i64 s.room) rfl rfl (by kernel_rfl) (by kernel_rfl) (by kernel_rfl) (fun _ _ _ h => h) rfl (fun w' hS => by exact run_load_op (ty := 3) rfl rfl (load1 (by rw [(HLL.out w' hS).cell 3]; rfl) Tryz.underlying3 rfl)) HS.out ?_
  simp only [Act.put, List.setIfInBounds_toArray, List.set_cons_zero, List.set_cons_succ]
  refine anyH_take (i := 14) (d := some 22) (v := .pointer (some ⟨w.heap.size, 4, none⟩)) rfl rfl (by kernel_rfl) (by kernel_rfl) (by kernel_rfl) (fun _ _ _ h => h) rfl (fun w' hS => by go_simp) HS.out ?_
  simp only [Act.put, List.setIfInBounds_toArray, List.set_cons_zero, List.set_cons_succ]
  refine anyH_take (i := 15) (d := some 23) (v := .string (bstr s.topic)) rfl rfl (by kernel_rfl) (by kernel_rfl) (by kernel_rfl) (fun _ _ _ h => h) rfl (fun w' hS => by exact run_load_op (ty := 9) rfl rfl (load1 (by rw [(HLL.out w' hS).cell 4]; rfl) Tryz.underlying9 rfl)) HS.out ?_
  simp only [Act.put, List.setIfInBounds_toArray, List.set_cons_zero, List.set_cons_succ]
  refine anyH_call (i := 2) (d := some 10) (v := .string (bstr (Lib.itoa s.f))) (by kernel_rfl) rfl rfl rfl (by go_simp) (num_c (HT.out.later (HSB.out _ HS.out)) HB1.out) (fun w' hb => HST.out _ _ HS.out hb) (fun w' HS => ?_)
  replace HS := Lib.hid HS
  simp only [Act.put, List.setIfInBounds_toArray, List.set_cons_zero, List.set_cons_succ]
  refine anyH_call (i := 6) (d := some 14) (v := .string (bstr (Lib.itoa s.faulty))) (by kernel_rfl) rfl rfl rfl (by go_simp) (num_c (HT.out.later (HSB.out _ HS.out)) (by have := HB2.out; omega)) (fun w' hb => HST.out _ _ HS.out hb) (fun w' HS => ?_)
  replace HS := Lib.hid HS
  simp only [Act.put, List.setIfInBounds_toArray, List.set_cons_zero, List.set_cons_succ]
  refine anyH_call (i := 10) (d := some 18) (v := .string (bstr (Lib.itoa s.liars))) (by kernel_rfl) rfl rfl rfl (by go_simp) (num_c (HT.out.later (HSB.out _ HS.out)) (by have := HB3.out; omega)) (fun w' hb => HST.out _ _ HS.out hb) (fun w' HS => ?_)
  replace HS := Lib.hid HS
  simp only [Act.put, List.setIfInBounds_toArray, List.set_cons_zero, List.set_cons_succ]
  refine anyH_call (i := 13) (d := some 21) (v := .string (bstr (Lib.itoa s.room))) (by kernel_rfl) rfl rfl rfl (by go_simp) (num_c (HT.out.later (HSB.out _ HS.out)) HB4.out) (fun w' hb => HST.out _ _ HS.out hb) (fun w' HS => ?_)
  replace HS := Lib.hid HS
  simp only [Act.put, List.setIfInBounds_toArray, List.set_cons_zero, List.set_cons_succ]
  have h1 := aStrs.new (St.nil w') (setupW s) (by simp [setupW, maxLen]) (cs := #[.string ⟨#[119, 111, 114, 108, 100]⟩, .string (bstr (Lib.itoa s.f)), .string (bstr (Lib.itoa s.faulty)), .string (bstr (Lib.itoa s.liars)), .string (bstr (Lib.itoa s.room)), .string (bstr s.topic)]) rfl (n := 6) rfl
  refine anyH_do (i := 16) (d := some 24) (v := .slice (some ⟨w'.heap.size, 0, none⟩) 6 6) (w' := w'.alloc (.cells #[.string ⟨#[119, 111, 114, 108, 100]⟩, .string (bstr (Lib.itoa s.f)), .string (bstr (Lib.itoa s.faulty)), .string (bstr (Lib.itoa s.liars)), .string (bstr (Lib.itoa s.room)), .string (bstr s.topic)] 9)) (by kernel_rfl) rfl rfl rfl (by go_simp) (HST.out _ _ HS.out (B.alloc' _ _)) ?_
  simp only [Act.put, List.setIfInBounds_toArray, List.set_cons_zero, List.set_cons_succ]
  replace HS := Lib.hid (HST.out _ _ HS.out (B.alloc' w' (.cells #[.string ⟨#[119, 111, 114, 108, 100]⟩, .string (bstr (Lib.itoa s.f)), .string (bstr (Lib.itoa s.faulty)), .string (bstr (Lib.itoa s.liars)), .string (bstr (Lib.itoa s.room)), .string (bstr s.topic)] 9)))
  refine anyH_call (i := 17) (d := some 25) (v := .string (bstr (setupF s))) (by kernel_rfl) rfl rfl rfl (by go_simp) (join_c (s := ⟨#[32]⟩) h1 HJ.out (by simp [setupW]) rfl) (fun w' hb => HST.out _ _ HS.out hb) (fun w' HS => ?_)
  replace HS := Lib.hid HS
  simp only [Act.put, List.setIfInBounds_toArray, List.set_cons_zero, List.set_cons_succ]
  refine anyH_take (i := 18) (d := some 2) (v := .string (bstr (setupF s))) rfl rfl (by kernel_rfl) (by kernel_rfl) (by kernel_rfl) (fun _ _ _ h => h) rfl (fun w' hS => by go_simp) HS.out ?_
  simp only [Act.put, List.setIfInBounds_toArray, List.set_cons_zero, List.set_cons_succ]
  refine anyH_take (i := 19) (d := some 3) (v := .int .i64 0) rfl rfl (by kernel_rfl) (by kernel_rfl) (by kernel_rfl) (fun _ _ _ h => h) rfl (fun w' hS => by go_simp) HS.out ?_
  simp only [Act.put, List.setIfInBounds_toArray, List.set_cons_zero, List.set_cons_succ]
  refine wpAnyH_done (by kernel_rfl) ?_ _
  go_wp2_with fail
  go_ret2
  exact ⟨rfl, HSB.out _ HS.out⟩
theorem setup_c {inn : Nat → Prop} {w : World} {cs : List Value} {s : SetupD} (hT : TabW w) (h : tSetup.rd inn w cs s) :
    Calls Tryz.prog 8 #[.agg cs.toArray] w fun r w' => (r = if nameF s.topic = true then .returned (.tuple #[.string (bstr (setupF s)), .int .i64 0]) else .returned (.tuple #[.string ⟨#[]⟩, .int .i64 1])) ∧ B w w' := by
  cases hk : nameF s.topic with
  | true => simpa using setupY_c hT h hk
  | false => simpa using setupN_c h hk
end Go.Proofs.YtafomdobfmmleaaGreatDoor

/- Numbers as words, where the table of powers is laid; bullaref27.SetupLine, over data (printed by gen_bl.py). -/
namespace Go.Proofs.YtafomdobfmmleaaGreatDoor
open Go.RowKit
set_option linter.unusedVariables false
set_option maxRecDepth 20000

theorem rNumT_c {w : World} {n : Int} (h : Lib.TabIs Tryz.prog w "internal/strconv.uint64pow10" .u64 Lib.pow10Tab) (hn : -9223372036854775808 ≤ n ∧ n ≤ 9223372036854775807) : Calls Tryz.prog 31 #[.int .i64 n] w fun e w' => e = .returned (.string (bstr (Lib.itoa n))) ∧ B w w' := by
  have HC := Lib.hid (Tryz.strconv_Itoa n hn.1 hn.2 w h)
  go_enter Tryz.func31, Tryz.ntmps31
  go_wp2_with (first
    | (go_at_call 61; (with_reducible refine callsM HC.out ?_); rintro e wn ⟨rfl, k, os, rfl⟩))
  go_ret
  exact ⟨rfl, grow_B _ _ _⟩
/-- numbers are turned to words -/
def NumOk [Wd] : Prop := ∀ n : Int, -9223372036854775808 ≤ n ∧ n ≤ 9223372036854775807 → FnP Tryz.prog 31 [.int .i64 n] (.str (Lib.itoa n))
theorem dSetup_ok (s : SetupD) : dSetup.ok s = (dI.ok s.f ∧ dW.ok s.faulty ∧ dW.ok s.liars ∧ dI.ok s.room ∧ dS.ok s.topic) := rfl
theorem rSetupY_s [Wd] (hnum : NumOk) (s : SetupD) (hs : dSetup.ok s) (h0 : nameF s.topic = true) : FnP Tryz.prog 9 [.agg (cSetup s)] (.tup [.str (setupF s), .int .i64 0]) := by
  rw [dSetup_ok] at hs
  obtain ⟨b1, b2, b3, b4, b5⟩ := hs
  replace b1 : -9223372036854775808 ≤ s.f ∧ s.f ≤ 9223372036854775807 := b1
  replace b2 : 0 ≤ s.faulty ∧ s.faulty ≤ 65535 := b2
  replace b3 : 0 ≤ s.liars ∧ s.liars ≤ 65535 := b3
  replace b4 : -9223372036854775808 ≤ s.room ∧ s.room ≤ 9223372036854775807 := b4
  replace b5 : s.topic.length ≤ 4194304 := b5
  have i1 := Lib.itoa_length_le s.f b1.1 b1.2
  have i2 := Lib.itoa_length_le s.faulty (by omega) (by omega)
  have i3 := Lib.itoa_length_le s.liars (by omega) (by omega)
  have i4 := Lib.itoa_length_le s.room b4.1 b4.2
  refine mkS 33 [(3, ⟨[(0, false), (1, false), (5, false), (6, false), (7, false), (11, false), (12, false), (13, false), (17, false), (18, false), (22, false), (23, false), (2, true), (3, false), (4, false), (8, true), (9, false), (10, false), (14, true), (15, false), (16, false), (19, true), (20, false), (21, false), (24, false), (25, false), (26, false)], []⟩)] Tryz.func9 rfl (by kernel_rfl) ?_
  repeat'
    (conv => arg 2; whnf)
    first
    | refine okWrap (w64 (by omega) (by omega)) ?_
    | refine okAsk (by simp; omega) ?_
    | refine okAsk (by kernel_rfl) ?_
    | refine okBoth ?_ ?_
    | refine okBrT ?_
    | refine okBrF ?_
    | refine okBr (fun h => ?_) (fun h => ?_)
    | refine okFn (rName_s s.topic b5) rfl (Cos.refl _) ?_
    | refine okFn (hnum s.f b1) rfl (Cos.refl _) ?_
    | refine okFn (hnum s.faulty (by omega)) rfl (Cos.refl _) ?_
    | refine okFn (hnum s.liars (by omega)) rfl (Cos.refl _) ?_
    | refine okFn (hnum s.room b4) rfl (Cos.refl _) ?_
    | refine okWrap (w64 (by omega) (by omega)) ?_
    | (refine endT (.inr rfl) rfl ?_ rfl; simp [setupF, setupW, joinF, wWorld]; done)
    | (exfalso; simp [h0] at *; done)
    | (exfalso; simp_all; done)
theorem rSetupN_s [Wd] (hnum : NumOk) (s : SetupD) (hs : dSetup.ok s) (h0 : nameF s.topic = false) : FnP Tryz.prog 9 [.agg (cSetup s)] (.tup [.str [], .int .i64 1]) := by
  rw [dSetup_ok] at hs
  obtain ⟨b1, b2, b3, b4, b5⟩ := hs
  replace b1 : -9223372036854775808 ≤ s.f ∧ s.f ≤ 9223372036854775807 := b1
  replace b2 : 0 ≤ s.faulty ∧ s.faulty ≤ 65535 := b2
  replace b3 : 0 ≤ s.liars ∧ s.liars ≤ 65535 := b3
  replace b4 : -9223372036854775808 ≤ s.room ∧ s.room ≤ 9223372036854775807 := b4
  replace b5 : s.topic.length ≤ 4194304 := b5
  have i1 := Lib.itoa_length_le s.f b1.1 b1.2
  have i2 := Lib.itoa_length_le s.faulty (by omega) (by omega)
  have i3 := Lib.itoa_length_le s.liars (by omega) (by omega)
  have i4 := Lib.itoa_length_le s.room b4.1 b4.2
  refine mkS 33 [(3, ⟨[(0, false), (1, false), (5, false), (6, false), (7, false), (11, false), (12, false), (13, false), (17, false), (18, false), (22, false), (23, false), (2, true), (3, false), (4, false), (8, true), (9, false), (10, false), (14, true), (15, false), (16, false), (19, true), (20, false), (21, false), (24, false), (25, false), (26, false)], []⟩)] Tryz.func9 rfl (by kernel_rfl) ?_
  repeat'
    (conv => arg 2; whnf)
    first
    | refine okWrap (w64 (by omega) (by omega)) ?_
    | refine okAsk (by simp; omega) ?_
    | refine okAsk (by kernel_rfl) ?_
    | refine okBoth ?_ ?_
    | refine okBrT ?_
    | refine okBrF ?_
    | refine okBr (fun h => ?_) (fun h => ?_)
    | refine okFn (rName_s s.topic b5) rfl (Cos.refl _) ?_
    | refine okFn (hnum s.f b1) rfl (Cos.refl _) ?_
    | refine okFn (hnum s.faulty (by omega)) rfl (Cos.refl _) ?_
    | refine okFn (hnum s.liars (by omega)) rfl (Cos.refl _) ?_
    | refine okFn (hnum s.room b4) rfl (Cos.refl _) ?_
    | refine okWrap (w64 (by omega) (by omega)) ?_
    | refine endFn0 (.inr rfl) rfl (.refl _) rfl
    | (exfalso; simp [h0] at *; done)
    | (exfalso; simp_all; done)
end Go.Proofs.YtafomdobfmmleaaGreatDoor

/- What a reader of words does, over data: must, word, num; numbers and words by the library, over data. -/
namespace Go.Proofs.YtafomdobfmmleaaGreatDoor
open Go.RowKit
set_option linter.unusedVariables false
set_option maxRecDepth 20000

section
variable [Wd] {P : Program} {Q : Exit → S → Prop}
/-- a call beside objects whose answers are told by a relation -/
theorem okRel {f : FuncId} {ar ar' : List D} {hs hb : List AO} {c : D → List AO → T} {Post : D → List AO → Prop} (σ : List Nat) (hF : FnS P f ar hs Post) (V : View σ hb hs) (hc : Cos ar' (D.ren.rl σ ar)) (hM : (σ.all fun o => (foot hb ar').elem o) = true) (k : ∀ r h', Post r h' → (c (r.ren (upS hb σ hs h')) (upH hb σ hs h')).ok P Q) : (T.call f ar' hb c).ok P Q :=
  ⟨_, hF.big V hc (fun o ho => by have := List.all_eq_true.1 hM o ho; simpa using this), fun r' h' ⟨r0, h0, e1, e3, e4⟩ => by subst e3 e4; exact k r0 h0 e1⟩
/-- a call of what only computes, its answer told by a relation -/
theorem okFnR {f : FuncId} {ar ar' : List D} {h : List AO} {c : D → List AO → T} {R : D → Prop} (hF : FnS P f ar [] (fun r h' => R r ∧ h' = [])) (hp : pureD.pl ar = true) (hc : Cos ar' ar) (k : ∀ r, R r → (c r h).ok P Q) : (T.call f ar' h c).ok P Q :=
  ⟨_, hF.pure hp hc, fun r' h' ⟨e1, e2⟩ => by subst e2; exact k r' e1⟩
/-- an end that a relation tells -/
theorem endRel {tb : TT} {rs : List ResultVar} {e : Exit} {s : S} {h : List AO} {r : D} {h' : List AO} {ds : List D} {Post : D → List AO → Prop} (σ : List Nat) (he : e = .normal ∨ e = .ret) (hr : resD tb s rs = some ds) (hn : nodupB σ = true) (hv : vwP s.h σ σ h') (hk : keepP 0 h σ h') (hco : Co (resV ds) (r.ren σ)) (hp : Post r h') :
    (T.leaf e s).ok P (Lf tb rs h Post) :=
  ⟨he, [], ds, by rw [frz_nil]; exact hr, σ, r, _, h', by rw [frz_nil]; exact .mk' hn hv, hco, rfl, fun o t cs h1 => by have := keepP_ok hk o t cs h1; simpa using this, hp⟩
theorem okDie {v : Value} (h : Wd.pan [{ v := v, recovered := false }]) : (T.die v).ok P Q := h
end
theorem must_s [Wd] (hp : Wd.pan wrongCh) (b : Bool) : FnS Tryz.prog 35 [.bool b] [] (fun r h => (b = true ∧ r = .tup []) ∧ h = []) := by
  refine mkS 6 [] Tryz.func35 rfl (by kernel_rfl) ?_
  repeat'
    (conv => arg 2; whnf)
    first
    | refine okBr (fun h => ?_) (fun h => ?_)
    | exact okDie hp
    | exact endRel (r := .tup []) (h' := []) [] (.inl rfl) rfl rfl trivial trivial (.refl _) ⟨⟨by simpa using h, rfl⟩, rfl⟩
/-- words as data -/
def cW (ws : List (List UInt8)) : List (List D) := ws.map fun s => [.str s]
def oRdr (ws : List (List UInt8)) : List AO := [.cells 83 [.list 1 (cW ws)]]
theorem word_s [Wd] (hp : Wd.pan wrongCh) (ws : List (List UInt8)) (hl : ws.length ≤ 4194305) : FnS Tryz.prog 36 [.ptr 0 0] (oRdr ws) (fun r h => ∃ s rest, ws = s :: rest ∧ r = .str s ∧ h = oRdr rest) := by
  cases ws with
  | nil =>
    refine mkS 26 [] Tryz.func36 rfl (by kernel_rfl) ?_
    repeat'
      (conv => arg 2; whnf)
      first
      | (refine okFnR (must_s hp _) rfl (Cos.refl _) ?_; rintro r ⟨hr, rfl⟩)
      | (exfalso; simp [cW] at hr; done)
  | cons s rest =>
    refine mkS 26 [] Tryz.func36 rfl (by kernel_rfl) ?_
    repeat'
      (conv => arg 2; whnf)
      first
      | (refine okFnR (must_s hp _) rfl (Cos.refl _) ?_; rintro r ⟨hr, rfl⟩)
      | refine okAsk (by simp [cW]; omega) ?_
      | refine okNth [.str s] (by decide) rfl ?_
    conv => arg 2; whnf
    refine endRel (r := .str s) (h' := oRdr rest) [0] (.inr rfl) rfl rfl ⟨⟨rfl, ?_⟩, trivial⟩ ⟨⟨rfl, rfl⟩, trivial⟩ (.refl _) ⟨s, rest, rfl, rfl, rfl⟩
    show AO.cells _ [.list 1 _] = AO.cells _ [.list 1 _]
    simp [cW, List.take_of_length_le]
/-- numbers are turned to words (the program's own num) -/
def SNumOk [Wd] : Prop := ∀ n : Int, -9223372036854775808 ≤ n ∧ n ≤ 9223372036854775807 → FnP Tryz.prog 29 [.int .i64 n] (.str (Lib.itoa n))
/-- words are read as numbers by the library -/
def AtoiOk [Wd] : Prop := ∀ s : List UInt8, s.length ≤ 4194304 → FnP Tryz.prog 65 [.str s] (atoiD s)
theorem atoi_range {s : List UInt8} {v : Int} (h : Lib.atoiAll s = .ok v) : -9223372036854775808 ≤ v ∧ v ≤ 9223372036854775807 := by
  unfold Lib.atoiAll at h
  split at h
  · cases h
  · simp only at h
    split at h
    · cases h
    · cases h
    · rename_i u _
      split at h
      · cases h
      · rename_i h1
        split at h
        · cases h
        · rename_i h2
          injection h with h
          subst h
          split
          · rename_i hn
            have : ¬ 9223372036854775808 < u := fun k => h2 ⟨hn, k⟩
            omega
          · rename_i hn
            have : ¬ 9223372036854775808 ≤ u := fun k => h1 ⟨hn, k⟩
            omega
/-- a reader's number: a word that is written as that number is -/
theorem wdNum_s [Wd] (hp : Wd.pan wrongCh) (hn : SNumOk) (ha : AtoiOk) (ws : List (List UInt8)) (hl : ws.length ≤ 4194305) (hw : ∀ w ∈ ws, w.length ≤ 4194304) : FnS Tryz.prog 37 [.ptr 0 0] (oRdr ws) (fun r h => ∃ n rest, (-9223372036854775808 ≤ n ∧ n ≤ 9223372036854775807) ∧ ws = Lib.itoa n :: rest ∧ r = .int .i64 n ∧ h = oRdr rest) := by
  refine mkS 23 [] Tryz.func37 rfl (by kernel_rfl) ?_
  repeat'
    (conv => arg 2; whnf)
    first
    | (refine okRel [0] (word_s hp ws hl) (.mk' rfl ⟨⟨rfl, rfl⟩, trivial⟩) (Cos.refl _) rfl ?_; rintro r h' ⟨s, rest, rfl, rfl, rfl⟩; have hs : s.length ≤ 4194304 := hw s (by simp))
    | (refine okFn (ha _ hs) rfl (Cos.refl _) ?_; unfold atoiD; cases hA : Lib.atoiAll s)
    | refine okBrT ?_
    | refine okBrF ?_
    | refine okFn (hn _ (atoi_range hA)) rfl (Cos.refl _) ?_
    | (refine okFnR (must_s hp _) rfl (Cos.refl _) ?_; rintro r ⟨hr, rfl⟩)
    | exact endRel (h' := oRdr rest) (r := .int .i64 _) [0] (.inr rfl) rfl rfl ⟨⟨rfl, rfl⟩, trivial⟩ ⟨⟨rfl, rfl⟩, trivial⟩ (.refl _) ⟨_, rest, atoi_range hA, by simp at hr; rw [hr], rfl, rfl⟩
    | (exfalso; simp at hr; done)
/-! the same where nothing is wrong -/
theorem must_t [Wd] : FnP Tryz.prog 35 [.bool true] (.tup []) := by
  refine mkS 6 [] Tryz.func35 rfl (by kernel_rfl) ?_
  repeat'
    (conv => arg 2; whnf)
    first
    | refine okBr (fun h => ?_) (fun h => ?_)
    | (exfalso; simp at h; done)
    | exact endFn0 (.inl rfl) rfl (.refl _) rfl
theorem word_t [Wd] (s : List UInt8) (rest : List (List UInt8)) (hl : rest.length ≤ 4194304) : FnS Tryz.prog 36 [.ptr 0 0] (oRdr (s :: rest)) (fun r h => r = .str s ∧ h = oRdr rest) := by
  have hk : (decide (((cW (s :: rest)).length : Int) > 0)) = true := by simp [cW]
  refine mkS 26 [] Tryz.func36 rfl (by kernel_rfl) ?_
  repeat'
    (conv => arg 2; whnf)
    first
    | (refine okFn must_t rfl (by rw [hk]; exact Cos.refl _) ?_)
    | refine okAsk (by simp [cW]; omega) ?_
    | refine okNth [.str s] (by decide) rfl ?_
  conv => arg 2; whnf
  refine endObj (r := .str s) (h' := oRdr rest) [0] (.inr rfl) rfl rfl ⟨⟨rfl, ?_⟩, trivial⟩ ⟨⟨rfl, rfl⟩, trivial⟩ (.refl _)
  show AO.cells _ [.list 1 _] = AO.cells _ [.list 1 _]
  simp [cW, List.take_of_length_le]
theorem rdNum_t [Wd] (hn : SNumOk) (ha : AtoiOk) (n : Int) (h0 : -9223372036854775808 ≤ n ∧ n ≤ 9223372036854775807) (rest : List (List UInt8)) (hl : rest.length ≤ 4194304) : FnS Tryz.prog 37 [.ptr 0 0] (oRdr (Lib.itoa n :: rest)) (fun r h => r = .int .i64 n ∧ h = oRdr rest) := by
  have hA : atoiD (Lib.itoa n) = .tup [.int .i64 n, .ifn true] := by unfold atoiD; rw [atoi_itoa n h0.1 h0.2]
  have hlen := Lib.itoa_length_le n h0.1 h0.2
  have hk : (bif true then decide (Lib.itoa n = Lib.itoa n) else false) = true := by simp
  refine mkS 23 [] Tryz.func37 rfl (by kernel_rfl) ?_
  repeat'
    (conv => arg 2; whnf)
    first
    | refine okCall [0] (word_t _ rest hl) (.mk' rfl ⟨⟨rfl, rfl⟩, trivial⟩) (Cos.refl _) rfl ?_
    | (refine okFn (ha _ (by omega)) rfl (Cos.refl _) ?_; rw [hA])
    | refine okBrT ?_
    | refine okBrF ?_
    | refine okFn (hn n h0) rfl (Cos.refl _) ?_
    | (refine okFn must_t rfl (by rw [hk]; exact Cos.refl _) ?_)
    | exact endObj (h' := oRdr rest) (r := .int .i64 n) [0] (.inr rfl) rfl rfl ⟨⟨rfl, rfl⟩, trivial⟩ ⟨⟨rfl, rfl⟩, trivial⟩ (.refl _)
end Go.Proofs.YtafomdobfmmleaaGreatDoor

/- The library's words and numbers, and a setup's line, over data, where the library's tables are laid. -/
namespace Go.Proofs.YtafomdobfmmleaaGreatDoor
open Go.RowKit
set_option linter.unusedVariables false
set_option maxRecDepth 20000

/-- the world's tables are laid -/
class Scr [Wd] : Prop where
  scr : ∀ {I : Nat → Prop} {w : World}, Wd.W I w → ScrW I w
instance scrP (p : Prop) : @Scr (scrWdP p) := @Scr.mk (scrWdP p) (fun h => h)
theorem ScrW.tab {I : Nat → Prop} {w : World} (h : ScrW I w) (hi : ∀ b, I b → b < w.heap.size) : TabW w := fun w' hb => (h.cl (fun b k => hb.block b (hi b k)) (fun _ k => k)).powT
/-- an elder contract, asked of a world where the tables are laid -/
theorem FnS.oldW [Wd] [Scr] {P : Program} {f : FuncId} {ar : List D} {r : D} {v : Value} (hv : ∀ I w, Dr I w v r) (hcal : calleeOk P f = true) (h : ∀ w I vs, ScrW I w → (∀ b, I b → b < w.heap.size) → Drs I w vs ar → Calls P f vs.toArray w fun e w' => e = .returned v ∧ B w w') (hp : pureD.pl ar = true) : FnP P f ar r := by
  refine ⟨hcal, fun w I g vs hW hd ha => (h w I vs (Scr.scr hW) hd.inn (pureL_ok ha hp)).mono ?_⟩
  rintro e w' ⟨rfl, hb⟩
  have hg : g = [] := List.eq_nil_of_length_eq_zero hd.len
  subst hg
  exact .inl ⟨v, I, [], r, [], rfl, ⟨rfl, rfl⟩, hd.later hb, .rd (hv I w'), Ext.of_B hb, fun _ h => h, fun _ h => .inl h, fun b h => .inl h, fun o p t cs _ h => by simp at h⟩
theorem sNum_ok [Wd] [Scr] : SNumOk := fun n hn => FnS.oldW (v := .string (bstr (Lib.itoa n))) (fun _ _ => .str _) (by kernel_rfl) (fun w I vs hW hi hd => by
  obtain ⟨u, rfl, h1⟩ := hd.one_inv
  rw [(Vr.rd (g := []) h1).int_inv]
  exact num_c (hW.tab hi) hn) rfl
theorem rNum_ok [Wd] [Scr] : NumOk := fun n hn => FnS.oldW (v := .string (bstr (Lib.itoa n))) (fun _ _ => .str _) (by kernel_rfl) (fun w I vs hW hi hd => by
  obtain ⟨u, rfl, h1⟩ := hd.one_inv
  rw [(Vr.rd (g := []) h1).int_inv]
  exact rNumT_c hW.powT hn) rfl
theorem atoi_ok [Wd] [Scr] : AtoiOk := by
  intro s hs
  refine ⟨by kernel_rfl, fun w I g vs hW hd ha => ?_⟩
  obtain ⟨v, vs', rfl, h1, h2⟩ := ha.uncons
  obtain rfl := h2.nil_inv
  rw [h1.str_inv]
  have hg : g = [] := List.eq_nil_of_length_eq_zero hd.len
  subst hg
  have hS := Scr.scr hW
  have hz : (bstr s).size = s.length := by simp [bstr, ByteArray.size]
  have hdt : (bstr s).data.toList = s := by simp [bstr]
  rcases hA : Lib.atoiAll s with n | _ | _
  · skip
    refine (Any.strconv_Atoi_ok Tryz.laysC172 (bstr s) (by omega) n (by rw [hdt]; exact hA) w).mono ?_
    rintro e w' ⟨rfl, hw⟩
    have hb : B w w' := by
      rcases hw with rfl | ⟨t, rfl⟩
      · exact Below.refl _ _
      · exact bytesWorld_B _ _ _
    refine .inl ⟨_, I, [], atoiD s, [], rfl, ⟨rfl, rfl⟩, hd.later hb, ?_, Ext.of_B hb, fun _ h => h, fun _ h => .inl h, fun b h => .inl h, fun o p t cs _ h => by simp at h⟩
    unfold atoiD
    rw [hA]
    exact Vr.mkTup (vs := [.int .i64 n, .nilIface]) (.cons (.rd (.int _ _)) (.cons .nili .nil))
  · skip
    obtain ⟨tp, p, hv⟩ := hS.synT
    refine (Any.strconv_Atoi_syntax_var Tryz.laysC172 (bstr s) (by omega) (by rw [hdt]; exact hA) tp p w hv).mono ?_
    rintro e w' ⟨N, rfl, _, _, hb⟩
    replace hb : B w w' := hb
    refine .inl ⟨_, I, [], atoiD s, [], rfl, ⟨rfl, rfl⟩, hd.later hb, ?_, Ext.of_B hb, fun _ h => h, fun _ h => .inl h, fun b h => .inl h, fun o p t cs _ h => by simp at h⟩
    unfold atoiD
    rw [hA]
    exact Vr.mkTup (vs := [.int .i64 0, .iface _ _]) (.cons (.rd (.int _ _)) (.cons (.ifn _ _) .nil))
  · skip
    obtain ⟨tp, p, hv⟩ := hS.rngT
    refine (Any.strconv_Atoi_range_var Tryz.laysC172 (bstr s) (by omega) (by rw [hdt]; exact hA) tp p w hv).mono ?_
    rintro e w' ⟨N, rfl, _, _, hb⟩
    replace hb : B w w' := hb
    refine .inl ⟨_, I, [], atoiD s, [], rfl, ⟨rfl, rfl⟩, hd.later hb, ?_, Ext.of_B hb, fun _ h => h, fun _ h => .inl h, fun b h => .inl h, fun o p t cs _ h => by simp at h⟩
    unfold atoiD
    rw [hA, hdt]
    exact Vr.mkTup (vs := [.int .i64 (Lib.atoiSat s), .iface _ _]) (.cons (.rd (.int _ _)) (.cons (.ifn _ _) .nil))
theorem split_ok [Wd] [Scr] (s : List UInt8) (hs : s.length ≤ 4194304) : FnP Tryz.prog 34 [.str s, .str [32]] (.list 1 (cW (splitF s))) := by
  refine ⟨by kernel_rfl, fun w I g vs hW hd ha => ?_⟩
  obtain ⟨v, vs', rfl, h1, h2⟩ := ha.uncons
  obtain ⟨v2, vs'', rfl, h3, h4⟩ := h2.uncons
  obtain rfl := h4.nil_inv
  rw [h1.str_inv, h3.str_inv]
  have hg : g = [] := List.eq_nil_of_length_eq_zero hd.len
  subst hg
  obtain ⟨m, hm⟩ := (Scr.scr hW).maxT
  have hz : (bstr s).size = s.length := by simp [bstr, ByteArray.size]
  have hdt : (bstr s).data.toList = s := by simp [bstr]
  have hd32 : (bstr [32]).data.toList = [32] := by simp [bstr]
  have hsp : (Lib.splitB (bstr [32]) 0 (Lib.countB (bstr s) (bstr [32])) (bstr s)).map (·.data.toList) = splitF s := by
    rw [Lib.splitB_data, hd32, hdt]
    show Lib.splitK [32] 0 (Lib.count (bstr s).data.toList (bstr [32]).data.toList) s = _
    rw [hdt, hd32]
    exact split_eq s
  have hpl : (Lib.splitB (bstr [32]) 0 (Lib.countB (bstr s) (bstr [32])) (bstr s)) = (splitF s).map bstr := by
    rw [← hsp, List.map_map]
    conv => lhs; rw [← List.map_id (Lib.splitB _ _ _ _)]
    refine List.map_congr_left fun x _ => ?_
    show x = bstr x.data.toList
    simp [bstr]
  have hln : Lib.countB (bstr s) (bstr [32]) + 1 = (splitF s).length := by
    have := Lib.splitB_all (bstr [32]) (by decide) 0 _ (bstr s) rfl
    rw [hpl, List.length_map] at this
    exact this.symm
  have hle := splitF_len s
  refine (Tryz.strings_Split (bstr s) (bstr [32]) m w (by omega) hm (by decide)).mono ?_
  rintro e w' ⟨rfl, rfl⟩
  rw [hln, hpl]
  have hb : B w (w.alloc (.cells (((splitF s).map bstr).map Value.string).toArray 9)) := B.alloc' _ _
  have hsz : (w.alloc (.cells (((splitF s).map bstr).map Value.string).toArray 9)).heap.size = w.heap.size + 1 := Array.size_push _
  refine .inl ⟨_, fun b => I b ∨ b = w.heap.size, [], .list 1 (cW (splitF s)), [], rfl, ⟨rfl, rfl⟩, (hd.later hb).inns (fun _ h => .inl h) ?_ ?_, .rd (.list (some ⟨w.heap.size, 0, none⟩) _ 1 _ _ (fun i _ => .string (bstr ((splitF s).getD i []))) (by simp [cW]) (Nat.le_refl _) (Nat.le_trans (show (splitF s).length ≤ 4194305 by omega) (by decide)) (fun h => by cases h) ?_ ?_ ?_ ?_), Ext.of_B hb, fun _ h => .inl h, ?_, fun b h => .inl h, fun o p t cs _ h => by simp at h⟩
  · rintro b (h | rfl)
    · have := hd.inn b h; omega
    · omega
  · rintro b _ ⟨o, ao, p, k1, _⟩
    simp at k1
  · intro x hx
    simp only [cW, List.mem_map] at hx
    obtain ⟨y, _, rfl⟩ := hx
    rfl
  · intro _
    refine ⟨w.heap.size, 0, rfl, by omega, .inr rfl, fun i x j d h1 h2 => ?_⟩
    simp only [cW, List.getElem?_map, Option.map_eq_some_iff] at h1
    obtain ⟨y, hy, rfl⟩ := h1
    cases j with
    | succ j => simp at h2
    | zero =>
      have : (w.alloc (.cells (((splitF s).map bstr).map Value.string).toArray 9)).heap[w.heap.size]? = some (.cells (((splitF s).map bstr).map Value.string).toArray 9 (0, 0)) := by
        show (w.heap.push _)[w.heap.size]? = _
        rw [Array.getElem?_push_size]
      simp only [World.cell?, this]
      simp [hy, List.getD_eq_getElem?_getD]
  · intro i x j d _ _
    rfl
  · intro i x j d h1 h2
    simp only [cW, List.getElem?_map, Option.map_eq_some_iff] at h1
    obtain ⟨y, hy, rfl⟩ := h1
    cases j with
    | succ j => simp at h2
    | zero =>
      simp at h2
      subst h2
      simp only [List.getD_eq_getElem?_getD, hy, Option.getD_some]
      exact .str y
  · rintro b (h | rfl)
    · exact .inl h
    · exact .inr (.inr (Nat.le_refl _))
/-- a setup's line, or none -/
def setupR (s : SetupD) : D := .tup (if nameF s.topic = true then [.str (setupF s), .int .i64 0] else [.str [], .int .i64 1])
theorem sSetup_s [Wd] [Scr] (s : SetupD) (hs : dSetup.ok s) : FnP Tryz.prog 8 [.agg (cSetup s)] (setupR s) := by
  refine FnS.oldW (v := if nameF s.topic = true then .tuple #[.string (bstr (setupF s)), .int .i64 0] else .tuple #[.string ⟨#[]⟩, .int .i64 1]) (fun I w => ?_) (by kernel_rfl) (fun w I vs hW hi hd => ?_) ?_
  · unfold setupR
    split
    · exact .tup [.string (bstr (setupF s)), .int .i64 0] [.str (setupF s), .int .i64 0] rfl (fun i v d k1 k2 => by
        match i with
        | 0 => simp at k1 k2; subst k1 k2; exact .str _
        | 1 => simp at k1 k2; subst k1 k2; exact .int _ _
        | i + 2 => simp at k1)
    · exact .tup [.string (bstr []), .int .i64 1] [.str [], .int .i64 1] rfl (fun i v d k1 k2 => by
        match i with
        | 0 => simp at k1 k2; subst k1 k2; exact .str _
        | 1 => simp at k1 k2; subst k1 k2; exact .int _ _
        | i + 2 => simp at k1)
  · obtain ⟨u, rfl, h1⟩ := hd.one_inv
    obtain ⟨us, rfl, k1, k2⟩ := (Vr.rd (g := []) h1).agg_inv
    refine (setup_c (hW.tab hi) (LkSetup.of (pureL_ok k1 rfl) hs)).mono ?_
    rintro e w' ⟨rfl, hb⟩
    exact ⟨by split <;> rfl, hb⟩
  · rfl
end Go.Proofs.YtafomdobfmmleaaGreatDoor

/- A setup's line in words, over data: the closure of script.ParseSetup, and script.ParseSetup. -/
namespace Go.Proofs.YtafomdobfmmleaaGreatDoor
open Go.RowKit
set_option linter.unusedVariables false
set_option maxRecDepth 20000

theorem dec_blank (s : ByteArray) (pos j : Nat) (hj : j < (Utf8.decode s pos).2) (h : (s.get! (pos + j)).toNat = 32) : j = 0 ∧ (Utf8.decode s pos).1 = 32 := by
  rcases j with _ | j
  · refine ⟨rfl, ?_⟩
    simp only [Nat.add_zero] at h
    simp [Utf8.decode, Nat.add_zero, h]
  · exfalso
    have h1 := width_le s pos
    have e : j = 0 ∨ j = 1 ∨ j = 2 := by omega
    clear h1
    simp only [Utf8.decode] at hj
    repeat' split at hj
    all_goals (try omega)
    all_goals
      rename_i hc _
      simp only [Bool.and_eq_true, beq_iff_eq, decide_eq_true_eq] at hc
      rcases e with rfl | rfl | rfl <;> simp at h hj hc <;> omega
theorem runes_blank (s : ByteArray) : ∀ (k pos n m : Nat), s.size ≤ pos + k → runesGo s k pos n = some m → ∀ i, pos ≤ i → i < s.size → (s.get! i).toNat ≠ 32
  | 0, pos, n, m, hk, h, i, h1, h2 => by omega
  | k + 1, pos, n, m, hk, h, i, h1, h2 => by
    simp only [runesGo] at h
    rw [if_pos (by omega)] at h
    split at h
    · cases h
    · rename_i hb
      have hw := width_pos s pos (by omega)
      intro h32
      by_cases hi : i < pos + (Utf8.decode s pos).2
      · obtain ⟨j, rfl⟩ : ∃ j, i = pos + j := ⟨i - pos, by omega⟩
        obtain ⟨_, e⟩ := dec_blank s pos j (by omega) h32
        rw [e] at hb
        exact hb (by decide)
      · exact runes_blank s k _ _ m (by omega) h i (by omega) h2 h32
theorem name_blank {s : List UInt8} (h : nameF s = true) : noBlank s := by
  intro c hc e
  subst e
  unfold nameF runesF at h
  obtain ⟨i, hi, hs⟩ := List.getElem_of_mem hc
  simp only [decide_eq_true_eq] at h
  split at h
  · omega
  · rename_i m hm
    refine runes_blank (bstr s) _ 0 0 m (by rw [bstr_size]; omega) hm i (Nat.zero_le _) (by rw [bstr_size]; exact hi) ?_
    have : (bstr s).get! i = s[i] := by
      simp [bstr, ByteArray.get!, hi]
    rw [this, hs]
    rfl
/-- words that are not too long -/
def Wok (ws : List (List UInt8)) : Prop := ws.length ≤ 4194305 ∧ ∀ w ∈ ws, w.length ≤ 4194304
theorem Wok.tail {s : List UInt8} {r : List (List UInt8)} (h : Wok (s :: r)) : Wok r := ⟨by have := h.1; simp at this; omega, fun w hw => h.2 w (by simp [hw])⟩
theorem Wok.head {s : List UInt8} {r : List (List UInt8)} (h : Wok (s :: r)) : s.length ≤ 4194304 := h.2 s (by simp)
theorem Wok.split {s : List UInt8} (h : s.length ≤ 4194304) : Wok (splitF s) := ⟨by have := splitF_len s; omega, fun w hw => by have := splitF_part s w hw; omega⟩
theorem u16_range (n : Int) : 0 ≤ IntKind.u16.wrap n ∧ IntKind.u16.wrap n ≤ 65535 := by
  have e : IntKind.u16.wrap n = n % 65536 := by simp [IntKind.wrap, IntKind.bits, IntKind.signed]
  rw [e]
  omega
theorem setup_mk {a b c d : Int} {t : List UInt8} (h1 : -9223372036854775808 ≤ a ∧ a ≤ 9223372036854775807) (h2 : 0 ≤ b ∧ b ≤ 65535) (h3 : 0 ≤ c ∧ c ≤ 65535) (h4 : -9223372036854775808 ≤ d ∧ d ≤ 9223372036854775807) (h5 : t.length ≤ 4194304) : dSetup.ok ⟨a, b, c, d, t⟩ := ⟨h1, h2, h3, h4, h5⟩
theorem sSetupY_s [Wd] [Scr] (s : SetupD) (hs : dSetup.ok s) (hn : nameF s.topic = true) : FnP Tryz.prog 8 [.agg (cSetup s)] (.tup [.str (setupF s), .int .i64 0]) := by
  have h := sSetup_s s hs
  unfold setupR at h
  rw [if_pos hn] at h
  exact h
theorem sSetupN_s [Wd] [Scr] (s : SetupD) (hs : dSetup.ok s) (hn : nameF s.topic = false) : FnP Tryz.prog 8 [.agg (cSetup s)] (.tup [.str [], .int .i64 1]) := by
  have h := sSetup_s s hs
  unfold setupR at h
  rw [if_neg (by rw [hn]; decide)] at h
  exact h
/-- the line that is parsed, and the setup that is filled -/
def oPS (line : List UInt8) (s : SetupD) : List AO := [.cells 9 [.str line], .cells 25 (cSetup s)]
def zSetup : SetupD := ⟨0, 0, 0, 0, []⟩
theorem pSetup1_s [Wd] [Scr] (hp : Wd.pan wrongCh) (line : List UInt8) (hl : line.length ≤ 4194304) : FnS Tryz.prog 33 [.ptr 0 0, .ptr 1 0] (oPS line zSetup) (fun r h => ∃ s, dSetup.ok s ∧ nameF s.topic = true ∧ line = setupF s ∧ r = .tup [] ∧ h = oPS line s) := by
  obtain ⟨ws, hws⟩ : ∃ ws, ws = splitF line := ⟨_, rfl⟩
  have hb : Wok ws := hws ▸ Wok.split hl
  have HS : FnP Tryz.prog 34 [.str line, .str [32]] (.list 1 (cW ws)) := hws ▸ split_ok line hl
  clear hws
  refine mkS 51 [] Tryz.func33 rfl (by kernel_rfl) ?_
  repeat'
    (conv => arg 2; whnf)
    first
    | refine okFn HS rfl (Cos.refl _) ?_
    | (refine okRel [2] (word_s hp _ hb.1) (.mk' rfl ⟨⟨rfl, rfl⟩, trivial⟩) (Cos.refl _) rfl ?_; rintro r h' ⟨s, rest, rfl, rfl, rfl⟩; have hs := hb.head; replace hb := hb.tail)
    | (refine okRel [2] (wdNum_s hp sNum_ok atoi_ok _ hb.1 hb.2) (.mk' rfl ⟨⟨rfl, rfl⟩, trivial⟩) (Cos.refl _) rfl ?_; rintro r h' ⟨n, rest, hn, rfl, rfl, rfl⟩; replace hb := hb.tail)
    | (refine okFnR (must_s hp _) rfl (Cos.refl _) ?_; rintro r ⟨hr, rfl⟩)
    | refine okRaw ?_
  rename_i s0 hs0 n1 h1 n2 h2 n3 h3
  cases hN : nameF s
  all_goals
    repeat'
      (conv => arg 2; whnf)
      first
      | refine okFn (sSetupN_s ⟨n1, IntKind.u16.wrap n2, IntKind.u16.wrap n3, n, s⟩ (setup_mk h1 (u16_range n2) (u16_range n3) hn hs) hN) rfl (Cos.refl _) ?_
      | refine okFn (sSetupY_s ⟨n1, IntKind.u16.wrap n2, IntKind.u16.wrap n3, n, s⟩ (setup_mk h1 (u16_range n2) (u16_range n3) hn hs) hN) rfl (Cos.refl _) ?_
      | refine okBrT ?_
      | refine okBrF ?_
      | refine okBr (fun h => ?_) (fun h => ?_)
      | (refine okFnR (must_s hp _) rfl (Cos.refl _) ?_; rintro r ⟨hr, rfl⟩)
      | (cases hr; done)
      | exact endRel (r := .tup []) (h' := oPS line ⟨n1, IntKind.u16.wrap n2, IntKind.u16.wrap n3, n, s⟩) [0, 1] (.inl rfl) rfl rfl ⟨⟨rfl, rfl⟩, ⟨rfl, rfl⟩, trivial⟩ ⟨⟨rfl, rfl⟩, ⟨rfl, rfl⟩, trivial⟩ (.refl _) ⟨_, setup_mk h1 (u16_range n2) (u16_range n3) hn hs, hN, by simp at hr; exact hr.symm, rfl, rfl⟩
theorem setup_split {s : SetupD} (hn : nameF s.topic = true) : splitF (setupF s) = setupW s := by
  refine split_join _ (by simp [setupW]) (fun x hx => ?_)
  simp only [setupW, List.mem_cons, List.not_mem_nil, or_false] at hx
  rcases hx with rfl | rfl | rfl | rfl | rfl | rfl
  · intro c hc e
    subst e
    revert hc
    decide
  · exact itoa_word _
  · exact itoa_word _
  · exact itoa_word _
  · exact itoa_word _
  · exact name_blank hn
theorem pSetup1_t [Wd] [Scr] (s : SetupD) (hs : dSetup.ok s) (hn : nameF s.topic = true) (hl : (setupF s).length ≤ 4194304) : FnS Tryz.prog 33 [.ptr 0 0, .ptr 1 0] (oPS (setupF s) zSetup) (fun r h => r = .tup [] ∧ h = oPS (setupF s) s) := by
  have hs0 := hs
  rw [dSetup_ok] at hs
  obtain ⟨b1, b2, b3, b4, b5⟩ := hs
  replace b1 : -9223372036854775808 ≤ s.f ∧ s.f ≤ 9223372036854775807 := b1
  replace b2 : 0 ≤ s.faulty ∧ s.faulty ≤ 65535 := b2
  replace b3 : 0 ≤ s.liars ∧ s.liars ≤ 65535 := b3
  replace b4 : -9223372036854775808 ≤ s.room ∧ s.room ≤ 9223372036854775807 := b4
  have w1 : IntKind.u16.wrap s.faulty = s.faulty := by simp [IntKind.wrap, IntKind.bits, IntKind.signed]; omega
  have w2 : IntKind.u16.wrap s.liars = s.liars := by simp [IntKind.wrap, IntKind.bits, IntKind.signed]; omega
  have hk0 : decide (wWorld = (⟨#[119, 111, 114, 108, 100]⟩ : ByteArray).data.toList) = true := rfl
  have hk : (bif true then decide (setupF s = setupF s) else false) = true := by simp
  have HS : FnP Tryz.prog 34 [.str (setupF s), .str [32]] (.list 1 (cW [wWorld, Lib.itoa s.f, Lib.itoa s.faulty, Lib.itoa s.liars, Lib.itoa s.room, s.topic])) := by
    have := split_ok (setupF s) hl
    rw [setup_split hn] at this
    exact this
  refine mkS 51 [] Tryz.func33 rfl (by kernel_rfl) ?_
  repeat'
    (conv => arg 2; whnf)
    first
    | refine okFn HS rfl (Cos.refl _) ?_
    | refine okCall [2] (word_t _ _ (by simp)) (.mk' rfl ⟨⟨rfl, rfl⟩, trivial⟩) (Cos.refl _) rfl ?_
    | refine okCall [2] (rdNum_t sNum_ok atoi_ok s.f b1 _ (by simp)) (.mk' rfl ⟨⟨rfl, rfl⟩, trivial⟩) (Cos.refl _) rfl ?_
    | refine okCall [2] (rdNum_t sNum_ok atoi_ok s.faulty (by omega) _ (by simp)) (.mk' rfl ⟨⟨rfl, rfl⟩, trivial⟩) (Cos.refl _) rfl ?_
    | refine okCall [2] (rdNum_t sNum_ok atoi_ok s.liars (by omega) _ (by simp)) (.mk' rfl ⟨⟨rfl, rfl⟩, trivial⟩) (Cos.refl _) rfl ?_
    | refine okCall [2] (rdNum_t sNum_ok atoi_ok s.room b4 _ (by simp)) (.mk' rfl ⟨⟨rfl, rfl⟩, trivial⟩) (Cos.refl _) rfl ?_
    | refine okWrap w1 ?_
    | refine okWrap w2 ?_
    | (refine okFn must_t rfl (by rw [hk0]; exact Cos.refl _) ?_)
    | (refine okFn must_t rfl (by rw [hk]; exact Cos.refl _) ?_)
    | (rw [w1, w2]; refine okFn (sSetupY_s s hs0 hn) rfl (Cos.refl _) ?_)
    | refine okBrT ?_
    | refine okBrF ?_
    | exact endObj (r := .tup []) (h' := oPS (setupF s) s) [0, 1] (.inl rfl) rfl rfl ⟨⟨rfl, rfl⟩, ⟨rfl, rfl⟩, trivial⟩ ⟨⟨rfl, rfl⟩, ⟨rfl, rfl⟩, trivial⟩ (.refl _)
end Go.Proofs.YtafomdobfmmleaaGreatDoor

/- script.ParseSetup, over data. -/
namespace Go.Proofs.YtafomdobfmmleaaGreatDoor
open Go.RowKit
set_option linter.unusedVariables false
set_option maxRecDepth 20000
attribute [local instance] scrWd0

/-- a call of caught: the closure's answer, or what it has is given up -/
theorem okCaught {q : Prop} {Q : Exit → S → Prop} {F : FuncId} {n : Nat} {caps caps' : List D} {hs hb : List AO} {c : D → List AO → T} {Post : D → List AO → Prop} (σ : List Nat) (hF : @FnS (scrWdP q) Tryz.prog F caps hs Post) (V : View σ hb hs) (hc : Cos caps' (D.ren.rl σ caps)) (hM : (σ.all fun o => (foot hb [.fn F n caps']).elem o) = true)
    (k1 : ∀ r0 h0, Post r0 h0 → (c (.bool true) (upH hb σ hs h0)).ok Tryz.prog Q) (k2 : q → (c (.bool false) (goneIn (foot hb [.fn F n caps']) hb)).ok Tryz.prog Q) : (T.call 32 [.fn F n caps'] hb c).ok Tryz.prog Q := by
  refine ⟨_, caught_s (@FnS.big (scrWdP q) _ _ _ _ _ hF _ _ V _ hc _ (fun o ho => by have := List.all_eq_true.1 hM o ho; simpa using this)), fun r h' hp => ?_⟩
  rcases hp with ⟨rfl, r0, r1, h0, hp, _, rfl⟩ | ⟨rfl, hq, rfl⟩
  · exact k1 r1 h0 hp
  · exact k2 hq
def setupOk (line : List UInt8) (s : SetupD) : Prop := dSetup.ok s ∧ nameF s.topic = true ∧ line = setupF s
theorem pSetupY_s (line : List UInt8) (hl : line.length ≤ 4194304) (s : SetupD) (hs : setupOk line s) : FnP Tryz.prog 10 [.str line] (.tup [.agg (cSetup s), .bool true]) := by
  obtain ⟨h1, h2, rfl⟩ := hs
  refine mkS 12 [] Tryz.func10 rfl (by kernel_rfl) ?_
  repeat'
    (conv => arg 2; whnf)
    first
    | (refine okCaught [0, 2] (pSetup1_t s h1 h2 hl) (.mk' rfl ⟨⟨rfl, rfl⟩, ⟨rfl, rfl⟩, trivial⟩) (Cos.refl _) rfl ?_ (fun h => h.elim); rintro r0 h0 ⟨rfl, rfl⟩)
    | refine okBrT ?_
    | refine okBrF ?_
    | exact endFn0 (.inr rfl) rfl (.refl _) rfl
theorem pSetupN_s (line : List UInt8) (hl : line.length ≤ 4194304) (hs : ¬ ∃ s, setupOk line s) : FnP Tryz.prog 10 [.str line] (.tup [.agg (cSetup zSetup), .bool false]) := by
  refine mkS 12 [] Tryz.func10 rfl (by kernel_rfl) ?_
  repeat'
    (conv => arg 2; whnf)
    first
    | refine okCaught [0, 2] (@pSetup1_s (scrWdP True) _ ⟨trivial, rfl⟩ line hl) (.mk' rfl ⟨⟨rfl, rfl⟩, ⟨rfl, rfl⟩, trivial⟩) (Cos.refl _) rfl (fun r0 h0 hp => by obtain ⟨s, q1, q2, q3, _⟩ := hp; exact absurd ⟨s, q1, q2, q3⟩ hs) (fun _ => ?_)
    | refine okBrT ?_
    | refine okBrF ?_
    | exact endFn0 (.inr rfl) rfl (.refl _) rfl
end Go.Proofs.YtafomdobfmmleaaGreatDoor

/- bullaref27.words, over data. -/
namespace Go.Proofs.YtafomdobfmmleaaGreatDoor
open Go.RowKit
set_option linter.unusedVariables false
set_option maxRecDepth 20000

/-- the words so far, the word that is under way -/
def WInv (s : List UInt8) (i fr : Nat) (out : List (List UInt8)) : Prop :=
  (i ≤ s.length ∧ fr ≤ i ∧ splitF s = out ++ splitF (s.drop fr) ∧ noBlank ((s.drop fr).take (i - fr))) ∨ (i = s.length + 1 ∧ out = splitF s)
theorem WInv.len {s : List UInt8} {i fr : Nat} {out : List (List UInt8)} (h : WInv s i fr out) : out.length ≤ s.length + 1 := by
  have := splitF_len s
  rcases h with ⟨_, _, e, _⟩ | ⟨_, e⟩
  · rw [e, List.length_append] at this; omega
  · rw [e]; exact this
theorem WInv.at {s : List UInt8} {i fr : Nat} {out : List (List UInt8)} (h : WInv s i fr out) (hi : i ≤ s.length) : fr ≤ i ∧ splitF s = out ++ splitF (s.drop fr) ∧ noBlank ((s.drop fr).take (i - fr)) := by
  rcases h with ⟨_, h⟩ | ⟨e, _⟩
  · exact h
  · omega
theorem take_in {s : List UInt8} {i fr : Nat} {c : UInt8} (h : fr ≤ i) (hc : s[i]? = some c) : (s.drop fr).take (i + 1 - fr) = (s.drop fr).take (i - fr) ++ [c] := by
  rw [show i + 1 - fr = (i - fr) + 1 by omega, List.take_add_one, List.getElem?_drop, show fr + (i - fr) = i by omega, hc]
  rfl
theorem WInv.no {s : List UInt8} {i fr : Nat} {out : List (List UInt8)} {c : UInt8} (h : WInv s i fr out) (hc : s[i]? = some c) (hn : c ≠ 32) : WInv s (i + 1) fr out := by
  have hi := (List.getElem?_eq_some_iff.1 hc).1
  obtain ⟨h1, h2, h3⟩ := h.at (by omega)
  refine .inl ⟨by omega, by omega, h2, ?_⟩
  rw [take_in h1 hc]
  intro d hd
  rcases List.mem_append.1 hd with hd | hd
  · exact h3 d hd
  · rw [List.mem_singleton] at hd; rw [hd]; exact hn
theorem WInv.yes {s : List UInt8} {i fr : Nat} {out : List (List UInt8)} (h : WInv s i fr out) (hc : s[i]? = some 32) : WInv s (i + 1) (i + 1) (out ++ [(s.drop fr).take (i - fr)]) := by
  have hi := (List.getElem?_eq_some_iff.1 hc).1
  obtain ⟨h1, h2, h3⟩ := h.at (by omega)
  refine .inl ⟨by omega, by omega, ?_, by simp [noBlank]⟩
  have e : s.drop fr = (s.drop fr).take (i - fr) ++ 32 :: s.drop (i + 1) := by
    conv => lhs; rw [← List.take_append_drop (i - fr) (s.drop fr)]
    rw [List.drop_drop, show fr + (i - fr) = i by omega, List.drop_eq_getElem_cons hi]
    have : s[i] = 32 := by have := List.getElem?_eq_getElem hi; rw [hc] at this; injection this with this; exact this.symm
    rw [this]
  rw [h2]
  conv => lhs; rw [e]
  rw [split_app _ _ h3, List.append_assoc]
  rfl
theorem WInv.fin {s : List UInt8} {i fr : Nat} {out : List (List UInt8)} (h : WInv s i fr out) (hi : i = s.length) : WInv s (i + 1) (i + 1) (out ++ [(s.drop fr).take (i - fr)]) := by
  obtain ⟨h1, h2, h3⟩ := h.at (by omega)
  refine .inr ⟨by omega, ?_⟩
  rw [h2]
  have e : (s.drop fr).take (i - fr) = s.drop fr := List.take_of_length_le (by simp; omega)
  rw [e] at h3 ⊢
  rw [split_word _ h3]
theorem WInv.out {s : List UInt8} {i fr : Nat} {out : List (List UInt8)} (h : WInv s i fr out) (hi : s.length < i) : out = splitF s := by
  rcases h with ⟨h, _⟩ | ⟨_, h⟩
  · omega
  · exact h
theorem rWords_s [Wd] (s : List UInt8) (hl : s.length ≤ 4194304) : FnP Tryz.prog 38 [.str s] (.list 1 (cW (splitF s))) := by
  refine mkS' false 32 [] Tryz.func38 rfl (by kernel_rfl) ?_
  conv => arg 2; whnf
  refine okLoop (α := Nat × Nat × List (List UInt8)) (fun a => match a.2.2 with
    | [] => ⟨[(5, .int .i64 a.1), (4, .int .i64 a.2.1), (3, .nils), (2, .nils), (0, .str s)], []⟩
    | x :: k => ⟨[(5, .int .i64 a.1), (4, .int .i64 a.2.1), (3, .row 0), (2, .nils), (0, .str s)], [.row 9 1 (cW (x :: k))]⟩) (fun a => WInv s a.1 a.2.1 a.2.2) (fun a => s.length + 1 - a.1) (0, 0, []) (.inl ⟨Nat.zero_le _, Nat.le_refl _, rfl, by simp [noBlank]⟩) (Sv.mk' [] rfl trivial ⟨rfl, rfl, rfl, rfl, rfl, trivial⟩) ?_
  rintro ⟨i, fr, out⟩ hJ
  replace hJ : WInv s i fr out := hJ
  have ho := hJ.len
  cases out with
  | nil =>
    rcases Nat.lt_trichotomy i s.length with hi | hi | hi
    · obtain ⟨x, hx⟩ : ∃ x, s[i]? = some x := ⟨_, List.getElem?_eq_getElem hi⟩
      have hfr := (hJ.at (by omega)).1
      by_cases h32 : x = 32
      · subst h32
        repeat'
          (conv => arg 2; whnf)
          first
          | refine okAsk (by kernel_rfl) ?_
          | refine okBoth ?_ ?_
          | refine okBrT ?_
          | refine okBrF ?_
          | refine okBr (fun h => ?_) (fun h => ?_)
          | (exfalso; simp at h; omega)
          | refine okWrap (w64 (by (try dsimp only); omega) (by (try dsimp only); omega)) ?_
          | refine okAsk (by (try dsimp only); omega) ?_
          | refine okAsk (by constructor <;> (simp only [List.length_cons, List.length_nil, maxLen] at ho ⊢; omega)) ?_
          | refine okByte 32 (by omega) (by simpa using hx) ?_
          | refine okAgain (i + 1, i + 1, [(s.drop fr).take (i - fr)]) (Sv.mk' [1] rfl ⟨⟨rfl, rfl⟩, trivial⟩ ⟨rfl, rfl, rfl, rfl, rfl, trivial⟩) (hJ.yes hx) (by show s.length + 1 - (i + 1) < s.length + 1 - i; omega)
          | fail
      · have h33 : ¬ (x.toNat = 32) := fun e => h32 (UInt8.toNat_inj.1 (by rw [e]; rfl))
        repeat'
          (conv => arg 2; whnf)
          first
          | refine okAsk (by kernel_rfl) ?_
          | refine okBoth ?_ ?_
          | refine okBrT ?_
          | refine okBrF ?_
          | refine okBr (fun h => ?_) (fun h => ?_)
          | (exfalso; simp at h; omega)
          | refine okWrap (w64 (by (try dsimp only); omega) (by (try dsimp only); omega)) ?_
          | refine okAsk (by (try dsimp only); omega) ?_
          | refine okAsk (by constructor <;> (simp only [cW, List.length_cons, List.length_nil, List.length_map, maxLen] at ho ⊢; omega)) ?_
          | refine okByte x (by omega) (by simpa using hx) ?_
          | (exfalso; simp at h; exact h33 (by omega))
          | (exfalso; simp at h; exact h32 h)
          | refine okAgain (i + 1, fr, []) (Sv.mk' [] rfl trivial ⟨rfl, rfl, rfl, rfl, rfl, trivial⟩) (hJ.no hx h32) (by show s.length + 1 - (i + 1) < s.length + 1 - i; omega)
          | fail
    · have hfr := (hJ.at (by omega)).1
      repeat'
        (conv => arg 2; whnf)
        first
        | refine okAsk (by kernel_rfl) ?_
        | refine okBoth ?_ ?_
        | refine okBrT ?_
        | refine okBrF ?_
        | refine okBr (fun h => ?_) (fun h => ?_)
        | (exfalso; simp at h; omega)
        | refine okWrap (w64 (by (try dsimp only); omega) (by (try dsimp only); omega)) ?_
        | refine okAsk (by (try dsimp only); omega) ?_
        | refine okAsk (by constructor <;> (simp only [List.length_cons, List.length_nil, maxLen] at ho ⊢; omega)) ?_
        | refine okAgain (i + 1, i + 1, [(s.drop fr).take (i - fr)]) (Sv.mk' [1] rfl ⟨⟨rfl, rfl⟩, trivial⟩ ⟨rfl, rfl, rfl, rfl, rfl, trivial⟩) (hJ.fin hi) (by show s.length + 1 - (i + 1) < s.length + 1 - i; omega)
        | fail
    · have he := hJ.out hi
      exact absurd he.symm (splitF_ne s)
  | cons z out =>
    rcases Nat.lt_trichotomy i s.length with hi | hi | hi
    · obtain ⟨x, hx⟩ : ∃ x, s[i]? = some x := ⟨_, List.getElem?_eq_getElem hi⟩
      have hfr := (hJ.at (by omega)).1
      by_cases h32 : x = 32
      · subst h32
        repeat'
          (conv => arg 2; whnf)
          first
          | refine okAsk (by kernel_rfl) ?_
          | refine okBoth ?_ ?_
          | refine okBrT ?_
          | refine okBrF ?_
          | refine okBr (fun h => ?_) (fun h => ?_)
          | (exfalso; simp at h; omega)
          | refine okWrap (w64 (by (try dsimp only); omega) (by (try dsimp only); omega)) ?_
          | refine okAsk (by (try dsimp only); omega) ?_
          | refine okAsk (by constructor <;> (simp only [cW, List.length_cons, List.length_nil, List.length_map, maxLen] at ho ⊢; omega)) ?_
          | refine okByte 32 (by omega) (by simpa using hx) ?_
          | refine okAgain (i + 1, i + 1, (z :: out) ++ [(s.drop fr).take (i - fr)]) (Sv.mk' [2] rfl ⟨⟨rfl, by show AO.row _ _ _ = AO.row _ _ _; simp [cW]⟩, trivial⟩ ⟨rfl, rfl, rfl, rfl, rfl, trivial⟩) (hJ.yes hx) (by show s.length + 1 - (i + 1) < s.length + 1 - i; omega)
          | fail
      · have h33 : ¬ (x.toNat = 32) := fun e => h32 (UInt8.toNat_inj.1 (by rw [e]; rfl))
        repeat'
          (conv => arg 2; whnf)
          first
          | refine okAsk (by kernel_rfl) ?_
          | refine okBoth ?_ ?_
          | refine okBrT ?_
          | refine okBrF ?_
          | refine okBr (fun h => ?_) (fun h => ?_)
          | (exfalso; simp at h; omega)
          | refine okWrap (w64 (by (try dsimp only); omega) (by (try dsimp only); omega)) ?_
          | refine okAsk (by (try dsimp only); omega) ?_
          | refine okAsk (by constructor <;> (simp only [cW, List.length_cons, List.length_nil, List.length_map, maxLen] at ho ⊢; omega)) ?_
          | refine okByte x (by omega) (by simpa using hx) ?_
          | (exfalso; simp at h; exact h33 (by omega))
          | (exfalso; simp at h; exact h32 h)
          | refine okAgain (i + 1, fr, z :: out) (Sv.mk' [0] rfl ⟨⟨rfl, rfl⟩, trivial⟩ ⟨rfl, rfl, rfl, rfl, rfl, trivial⟩) (hJ.no hx h32) (by show s.length + 1 - (i + 1) < s.length + 1 - i; omega)
          | fail
    · have hfr := (hJ.at (by omega)).1
      repeat'
        (conv => arg 2; whnf)
        first
        | refine okAsk (by kernel_rfl) ?_
        | refine okBoth ?_ ?_
        | refine okBrT ?_
        | refine okBrF ?_
        | refine okBr (fun h => ?_) (fun h => ?_)
        | (exfalso; simp at h; omega)
        | refine okWrap (w64 (by (try dsimp only); omega) (by (try dsimp only); omega)) ?_
        | refine okAsk (by (try dsimp only); omega) ?_
        | refine okAsk (by constructor <;> (simp only [cW, List.length_cons, List.length_nil, List.length_map, maxLen] at ho ⊢; omega)) ?_
        | refine okAgain (i + 1, i + 1, (z :: out) ++ [(s.drop fr).take (i - fr)]) (Sv.mk' [2] rfl ⟨⟨rfl, by show AO.row _ _ _ = AO.row _ _ _; simp [cW]⟩, trivial⟩ ⟨rfl, rfl, rfl, rfl, rfl, trivial⟩) (hJ.fin hi) (by show s.length + 1 - (i + 1) < s.length + 1 - i; omega)
        | fail
    · have he := hJ.out hi
      repeat'
        (conv => arg 2; whnf)
        first
        | refine okAsk (by kernel_rfl) ?_
        | refine okBoth ?_ ?_
        | refine okBrT ?_
        | refine okBrF ?_
        | (exfalso; simp at h; omega)
        | refine okBr (fun h => ?_) (fun h => ?_)
        | refine okWrap (w64 (by (try dsimp only); omega) (by (try dsimp only); omega)) ?_
        | refine okAsk (by (try dsimp only); omega) ?_
        | refine okAsk (by constructor <;> (simp only [cW, List.length_cons, List.length_nil, List.length_map, maxLen] at ho ⊢; omega)) ?_
        | refine okOut ?_
        | exact endFn [0] (.inr rfl) rfl (by rw [← he]; exact .refl _) rfl
        | fail
end Go.Proofs.YtafomdobfmmleaaGreatDoor

/- bullaref27.number, over data (printed by gen_fh.py). -/
namespace Go.Proofs.YtafomdobfmmleaaGreatDoor
open Go.RowKit
set_option linter.unusedVariables false
set_option maxRecDepth 20000

theorem fold_ge : ∀ (r : List UInt8) (a : Nat), a ≤ r.foldl (fun n c => n * 10 + (c.toNat - 48)) a
  | [], a => Nat.le_refl _
  | c :: r, a => Nat.le_trans (by omega) (fold_ge r (a * 10 + (c.toNat - 48)))
theorem decVal_at {l : List UInt8} {i : Nat} {c : UInt8} (h : l[i]? = some c) : decVal (l.take i) * 10 ≤ decVal l := by
  have hi := (List.getElem?_eq_some_iff.1 h).1
  have e : l = l.take i ++ l[i] :: l.drop (i + 1) := by rw [← List.drop_eq_getElem_cons hi, List.take_append_drop]
  conv => rhs; rw [e]
  unfold decVal
  rw [List.foldl_append, List.foldl_cons]
  exact Nat.le_trans (by omega) (fold_ge _ _)
theorem decVal_next {l : List UInt8} {i : Nat} {c : UInt8} (h : l[i]? = some c) : decVal (l.take (i + 1)) = decVal (l.take i) * 10 + (c.toNat - 48) := by
  rw [List.take_add_one, h]
  exact decVal_snoc _ _
theorem i64_range (n : Int) : -9223372036854775808 ≤ IntKind.i64.wrap n ∧ IntKind.i64.wrap n ≤ 9223372036854775807 := by
  have e : IntKind.i64.wrap n = if 9223372036854775808 ≤ n % 18446744073709551616 then n % 18446744073709551616 - 18446744073709551616 else n % 18446744073709551616 := by simp [IntKind.wrap, IntKind.bits, IntKind.signed]
  rw [e]
  split <;> omega
theorem i64_nat {m : Int} (h : -9223372036854775808 ≤ m ∧ m ≤ 9223372036854775807) : (0 ≤ m → IntKind.i64.wrap (m.natAbs : Int) = m) ∧ (m < 0 → IntKind.i64.wrap (-(IntKind.i64.wrap (m.natAbs : Int))) = m) := by
  have e : ∀ n, IntKind.i64.wrap n = if 9223372036854775808 ≤ n % 18446744073709551616 then n % 18446744073709551616 - 18446744073709551616 else n % 18446744073709551616 := fun n => by simp [IntKind.wrap, IntKind.bits, IntKind.signed]
  constructor
  · intro h0
    rw [e]
    split <;> omega
  · intro h0
    rw [e, e]
    split <;> split <;> omega
/-- digits, so far -/
def DInv (d : List UInt8) (i n : Nat) : Prop := i ≤ d.length ∧ n = decVal (d.take i) ∧ n ≤ 11529215046068469769
/-- whoever wrote the word as a number wrote these digits -/
def Writ (s d : List UInt8) : Prop := ∀ m : Int, -9223372036854775808 ≤ m ∧ m ≤ 9223372036854775807 → s = Lib.itoa m → d = Lib.decDigits m.natAbs
theorem Writ.bad {s d : List UInt8} (h : Writ s d) {i n : Nat} {c : UInt8} (hn : DInv d i n) (hc : d[i]? = some c) (hb : ¬ (48 ≤ c.toNat ∧ c.toNat ≤ 57 ∧ n ≤ 1152921504606846976)) {m : Int} (hm : -9223372036854775808 ≤ m ∧ m ≤ 9223372036854775807) (e : s = Lib.itoa m) : False := by
  have hd := h m hm e
  have h1 := digits_range m.natAbs c (by rw [← hd]; exact List.mem_of_getElem? hc)
  have h2 := decVal_at hc
  rw [hd, decVal_digits, ← hd, ← hn.2.1] at h2
  exact hb ⟨h1.1, h1.2, by omega⟩
theorem DInv.next {d : List UInt8} {i n : Nat} {c : UInt8} (h : DInv d i n) (hc : d[i]? = some c) (hb : 48 ≤ c.toNat ∧ c.toNat ≤ 57 ∧ n ≤ 1152921504606846976) : DInv d (i + 1) (10 * n + (c.toNat - 48)) :=
  ⟨by have := (List.getElem?_eq_some_iff.1 hc).1; omega, by rw [decVal_next hc, ← h.2.1]; omega, by omega⟩
theorem writ_neg {r : List UInt8} : Writ (45 :: r) r ∧ ∀ m : Int, 45 :: r = Lib.itoa m → m < 0 := by
  have key : ∀ m : Int, 45 :: r = Lib.itoa m → m < 0 ∧ r = Lib.decDigits m.natAbs := fun m e => by
    unfold Lib.itoa at e
    split at e
    · rename_i h
      injection e with _ e
      exact ⟨h, e⟩
    · have := digits_range m.toNat 45 (by rw [← e]; simp)
      exact absurd this.1 (by decide)
  exact ⟨fun m _ e => (key m e).2, fun m e => (key m e).1⟩
theorem writ_pos {s : List UInt8} (h : ∀ r, s ≠ 45 :: r) : Writ s s ∧ ∀ m : Int, s = Lib.itoa m → 0 ≤ m := by
  have key : ∀ m : Int, s = Lib.itoa m → 0 ≤ m ∧ s = Lib.decDigits m.natAbs := fun m e => by
    unfold Lib.itoa at e
    split at e
    · exact absurd e (h _)
    · exact ⟨by omega, by rw [e]; congr 1; omega⟩
  exact ⟨fun m _ e => (key m e).2, fun m e => (key m e).1⟩
/-- what number says of a word -/
def NumR (s : List UInt8) (r : D) : Prop := ∃ n b, (-9223372036854775808 ≤ n ∧ n ≤ 9223372036854775807) ∧ r = .tup [.int .i64 n, .bool b] ∧ ∀ m : Int, -9223372036854775808 ≤ m ∧ m ≤ 9223372036854775807 → s = Lib.itoa m → n = m
theorem okBrY [Wd] {P : Program} {Q : Exit → S → Prop} {b : Bool} {t f : T} (hb : b = true) (h : t.ok P Q) : (T.br b t f).ok P Q := by subst hb; exact okBrT h
theorem okBrN [Wd] {P : Program} {Q : Exit → S → Prop} {b : Bool} {t f : T} (hb : b = false) (h : f.ok P Q) : (T.br b t f).ok P Q := by subst hb; exact okBrF h
theorem u64W {n : Int} (h0 : 0 ≤ n) (h1 : n ≤ 18446744073709551615) : IntKind.u64.wrap n = n := by
  simp [IntKind.wrap, IntKind.bits, IntKind.signed]
  omega
theorem u8W {n : Int} (h0 : 0 ≤ n) (h1 : n ≤ 255) : IntKind.u8.wrap n = n := by
  simp [IntKind.wrap, IntKind.bits, IntKind.signed]
  omega
theorem rNumberC_s [Wd] (hnum : NumOk) (c : UInt8) (r s : List UInt8) (hs : c :: r = s) (hl : s.length ≤ 4194304) : FnS Tryz.prog 39 [.str s] [] (fun r h => NumR s r ∧ h = []) := by
  refine mkS 59 [] Tryz.func39 rfl (by kernel_rfl) ?_
  have hpos : 0 < s.length := by rw [← hs]; simp
  have h0 : s[0]? = some c := by rw [← hs]; rfl
  have hps : decide ((s.length : Int) > 0) = true := by simp; omega
  repeat'
    (conv => arg 2; whnf)
    first
    | (exfalso; rw [hps] at h; simp at h; done)
    | refine okAsk (by kernel_rfl) ?_
    | refine okBoth ?_ ?_
    | refine okBrT ?_
    | refine okBrF ?_
    | refine okByte c (by omega) (by simpa using h0) ?_
    | refine okAsk (by constructor <;> (try constructor) <;> omega) ?_
    | refine okBr (fun h => ?_) (fun h => ?_)
  · have hn4 := h
    have hw : Writ s r ∧ ∀ m : Int, s = Lib.itoa m → m < 0 := by
      have hc : c = 45 := UInt8.toNat_inj.1 (by have h5 : c.toNat = 45 := (by simp at h; omega); rw [h5]; rfl)
      rw [← hs, hc]
      exact writ_neg
    clear h
    have hrl : r.length ≤ 4194304 := by rw [← hs] at hl; simp at hl; omega
    conv => arg 2; whnf
    refine okLoop (α := Nat × Nat) (fun a => ⟨[(7, .int .i64 a.1), (6, .int .u64 a.2), (5, .str r), (4, .bool (bif true then (c.toNat : Int) == 45 else false)), (3, .bool false), (2, .int .i64 0), (0, .str s)], []⟩) (fun a => DInv r a.1 a.2) (fun a => r.length - a.1) (0, 0) ⟨Nat.zero_le _, rfl, by decide⟩ (Sv.mk' [] rfl trivial ⟨rfl, rfl, (by show D.str _ = D.str _; rw [← hs]; simp), rfl, rfl, rfl, rfl, trivial⟩) ?_
    rintro ⟨i, n⟩ hJ
    replace hJ : DInv r i n := hJ
    have hi := hJ.1
    have hnl := hJ.2.2
    rcases Nat.lt_or_ge i r.length with hlt | hge
    · obtain ⟨x, hx⟩ : ∃ x, r[i]? = some x := ⟨_, List.getElem?_eq_getElem hlt⟩
      have hxl := x.toNat_lt
      by_cases hb : 48 ≤ x.toNat ∧ x.toNat ≤ 57 ∧ n ≤ 1152921504606846976
      · have hN := hJ.next hx hb
        have hw10 : IntKind.u64.wrap (10 * (n : Int)) = 10 * (n : Int) := u64W (by omega) (by omega)
        obtain ⟨g1, g2, g3⟩ := hb
        repeat'
          (conv => arg 2; whnf)
          first
          | (exfalso; simp at h; omega)
          | refine okAsk (by kernel_rfl) ?_
          | refine okBoth ?_ ?_
          | refine okBrT ?_
          | refine okBrF ?_
          | refine okByte x (by omega) (by simpa using hx) ?_
          | refine okBr (fun h => ?_) (fun h => ?_)
          | refine okWrap (w64 (by (try dsimp only); omega) (by (try dsimp only); omega)) ?_
          | refine okWrap (u64W (by (try dsimp only); omega) (by (try dsimp only); omega)) ?_
          | refine okWrap (show IntKind.u64.wrap (IntKind.u64.wrap (10 * (n : Int)) + ((x.toNat : Int) - 48)) = _ by rw [hw10]; exact u64W (by omega) (by omega)) ?_
          | refine okWrap (u8W (by (try dsimp only); omega) (by (try dsimp only); omega)) ?_
          | refine okAgain (i + 1, 10 * n + (x.toNat - 48)) (Sv.mk' [] rfl trivial ⟨rfl, (by show D.int _ _ = D.int _ _; congr 1; (try dsimp only); rw [hw10]; omega), rfl, rfl, rfl, rfl, rfl, trivial⟩) hN (by show r.length - (i + 1) < r.length - i; omega)
          | fail
      · have hb3 : x.toNat < 48 ∨ (48 ≤ x.toNat ∧ 57 < x.toNat) ∨ (48 ≤ x.toNat ∧ x.toNat ≤ 57 ∧ 1152921504606846976 < n) := by omega
        rcases hb3 with hb3 | hb3 | hb3
        all_goals repeat'
          (conv => arg 2; whnf)
          first
          | (exfalso; simp at h; omega)
          | refine okAsk (by kernel_rfl) ?_
          | refine okBoth ?_ ?_
          | refine okBrT ?_
          | refine okBrF ?_
          | refine okByte x (by omega) (by simpa using hx) ?_
          | refine okBr (fun h => ?_) (fun h => ?_)
          | refine okRet ?_
          | exact endRel (r := .tup [.int .i64 0, .bool false]) (h' := []) [] (.inr rfl) rfl rfl trivial trivial (.refl _) ⟨⟨0, false, by decide, rfl, fun m hm e => (hw.1.bad hJ hx hb hm e).elim⟩, rfl⟩
          | fail
    · have hN : n = decVal r := by rw [hJ.2.1, List.take_of_length_le hge]
      repeat'
        (conv => arg 2; whnf)
        first
        | (exfalso; simp at h; omega)
        | refine okAsk (by kernel_rfl) ?_
        | refine okBoth ?_ ?_
        | refine okBrT ?_
        | refine okBrF ?_
        | refine okBrY hn4 ?_
        | refine okBr (fun h => ?_) (fun h => ?_)
        | refine okOut ?_
        | refine okRaw ?_
        | refine okFn (hnum _ (i64_range _)) rfl (Cos.refl _) ?_
        | exact endRel (r := .tup [.int .i64 (IntKind.i64.wrap _), .bool _]) (h' := []) [] (.inr rfl) rfl rfl trivial trivial (.refl _) ⟨⟨_, _, i64_range _, rfl, fun m hm e => by have hd := hw.1 m hm e; have hv : n = m.natAbs := (by rw [hN, hd, decVal_digits]); subst hv; exact (by have q := (i64_nat hm).2 (hw.2 m e); rw [← Int.zero_sub] at q; exact q)⟩, rfl⟩
        | fail
  · have hn4 := h
    have hw : Writ s s ∧ ∀ m : Int, s = Lib.itoa m → 0 ≤ m := by
      have hne : ∀ q, s ≠ 45 :: q := fun q e => by rw [← hs] at e; injection e with e _; subst e; simp at h
      
      exact (writ_pos hne)
    clear h
    have hrl : s.length ≤ 4194304 := by exact hl
    conv => arg 2; whnf
    refine okLoop (α := Nat × Nat) (fun a => ⟨[(7, .int .i64 a.1), (6, .int .u64 a.2), (5, .str s), (4, .bool (bif true then (c.toNat : Int) == 45 else false)), (3, .bool false), (2, .int .i64 0), (0, .str s)], []⟩) (fun a => DInv s a.1 a.2) (fun a => s.length - a.1) (0, 0) ⟨Nat.zero_le _, rfl, by decide⟩ (Sv.mk' [] rfl trivial ⟨rfl, rfl, rfl, rfl, rfl, rfl, rfl, trivial⟩) ?_
    rintro ⟨i, n⟩ hJ
    replace hJ : DInv s i n := hJ
    have hi := hJ.1
    have hnl := hJ.2.2
    rcases Nat.lt_or_ge i s.length with hlt | hge
    · obtain ⟨x, hx⟩ : ∃ x, s[i]? = some x := ⟨_, List.getElem?_eq_getElem hlt⟩
      have hxl := x.toNat_lt
      by_cases hb : 48 ≤ x.toNat ∧ x.toNat ≤ 57 ∧ n ≤ 1152921504606846976
      · have hN := hJ.next hx hb
        have hw10 : IntKind.u64.wrap (10 * (n : Int)) = 10 * (n : Int) := u64W (by omega) (by omega)
        obtain ⟨g1, g2, g3⟩ := hb
        repeat'
          (conv => arg 2; whnf)
          first
          | (exfalso; simp at h; omega)
          | refine okAsk (by kernel_rfl) ?_
          | refine okBoth ?_ ?_
          | refine okBrT ?_
          | refine okBrF ?_
          | refine okByte x (by omega) (by simpa using hx) ?_
          | refine okBr (fun h => ?_) (fun h => ?_)
          | refine okWrap (w64 (by (try dsimp only); omega) (by (try dsimp only); omega)) ?_
          | refine okWrap (u64W (by (try dsimp only); omega) (by (try dsimp only); omega)) ?_
          | refine okWrap (show IntKind.u64.wrap (IntKind.u64.wrap (10 * (n : Int)) + ((x.toNat : Int) - 48)) = _ by rw [hw10]; exact u64W (by omega) (by omega)) ?_
          | refine okWrap (u8W (by (try dsimp only); omega) (by (try dsimp only); omega)) ?_
          | refine okAgain (i + 1, 10 * n + (x.toNat - 48)) (Sv.mk' [] rfl trivial ⟨rfl, (by show D.int _ _ = D.int _ _; congr 1; (try dsimp only); rw [hw10]; omega), rfl, rfl, rfl, rfl, rfl, trivial⟩) hN (by show s.length - (i + 1) < s.length - i; omega)
          | fail
      · have hb3 : x.toNat < 48 ∨ (48 ≤ x.toNat ∧ 57 < x.toNat) ∨ (48 ≤ x.toNat ∧ x.toNat ≤ 57 ∧ 1152921504606846976 < n) := by omega
        rcases hb3 with hb3 | hb3 | hb3
        all_goals repeat'
          (conv => arg 2; whnf)
          first
          | (exfalso; simp at h; omega)
          | refine okAsk (by kernel_rfl) ?_
          | refine okBoth ?_ ?_
          | refine okBrT ?_
          | refine okBrF ?_
          | refine okByte x (by omega) (by simpa using hx) ?_
          | refine okBr (fun h => ?_) (fun h => ?_)
          | refine okRet ?_
          | exact endRel (r := .tup [.int .i64 0, .bool false]) (h' := []) [] (.inr rfl) rfl rfl trivial trivial (.refl _) ⟨⟨0, false, by decide, rfl, fun m hm e => (hw.1.bad hJ hx hb hm e).elim⟩, rfl⟩
          | fail
    · have hN : n = decVal s := by rw [hJ.2.1, List.take_of_length_le hge]
      repeat'
        (conv => arg 2; whnf)
        first
        | (exfalso; simp at h; omega)
        | refine okAsk (by kernel_rfl) ?_
        | refine okBoth ?_ ?_
        | refine okBrT ?_
        | refine okBrF ?_
        | refine okBrN hn4 ?_
        | refine okBr (fun h => ?_) (fun h => ?_)
        | refine okOut ?_
        | refine okRaw ?_
        | refine okFn (hnum _ (i64_range _)) rfl (Cos.refl _) ?_
        | exact endRel (r := .tup [.int .i64 (IntKind.i64.wrap _), .bool _]) (h' := []) [] (.inr rfl) rfl rfl trivial trivial (.refl _) ⟨⟨_, _, i64_range _, rfl, fun m hm e => by have hd := hw.1 m hm e; have hv : n = m.natAbs := (by rw [hN, hd, decVal_digits]); subst hv; exact (i64_nat hm).1 (hw.2 m e)⟩, rfl⟩
        | fail
theorem itoa_ne (m : Int) : Lib.itoa m ≠ [] := by
  unfold Lib.itoa
  split
  · simp
  · exact digits_ne _
theorem rNumber0_s [Wd] (hnum : NumOk) : FnS Tryz.prog 39 [.str []] [] (fun r h => NumR [] r ∧ h = []) := by
  refine mkS 59 [] Tryz.func39 rfl (by kernel_rfl) ?_
  repeat'
    (conv => arg 2; whnf)
    first
    | refine okAsk (by kernel_rfl) ?_
    | refine okBoth ?_ ?_
    | refine okBrT ?_
    | refine okBrF ?_
    | (exfalso; simp at h; done)
    | refine okFn (hnum _ (i64_range _)) rfl (Cos.refl _) ?_
    | refine okBr (fun h => ?_) (fun h => ?_)
    | refine okLoop (α := Unit) (fun a => ⟨[(7, .int .i64 0), (6, .int .u64 0), (5, .str []), (4, .bool false), (3, .bool false), (2, .int .i64 0), (0, .str [])], []⟩) (fun a => True) (fun a => 0) () trivial (Sv.mk' [] rfl trivial ⟨rfl, rfl, rfl, rfl, rfl, rfl, rfl, trivial⟩) (fun _ _ => ?_)
    | refine okOut ?_
    | exact endRel (r := .tup [.int .i64 (IntKind.i64.wrap _), .bool _]) (h' := []) [] (.inr rfl) rfl rfl trivial trivial (.refl _) ⟨⟨_, _, i64_range _, rfl, fun m hm e => absurd e.symm (itoa_ne m)⟩, rfl⟩
/-- a word's number: in range whatever the word; exact where a number was written -/
theorem rNumber_s [Wd] (hnum : NumOk) (s : List UInt8) (hl : s.length ≤ 4194304) : FnS Tryz.prog 39 [.str s] [] (fun r h => NumR s r ∧ h = []) := by
  cases s with
  | nil => exact rNumber0_s hnum
  | cons c r => exact rNumberC_s hnum c r _ rfl hl
end Go.Proofs.YtafomdobfmmleaaGreatDoor

/- bullaref27.ParseSetup, over data. -/
namespace Go.Proofs.YtafomdobfmmleaaGreatDoor
open Go.RowKit
set_option linter.unusedVariables false
set_option maxRecDepth 20000

theorem rpSetupY_s [Wd] (hnum : NumOk) (line : List UInt8) (hl : line.length ≤ 4194304) (s : SetupD) (hs : setupOk line s) : FnP Tryz.prog 11 [.str line] (.tup [.agg (cSetup s), .bool true]) := by
  obtain ⟨hs0, hn, rfl⟩ := hs
  have hs := hs0
  rw [dSetup_ok] at hs
  obtain ⟨b1, b2, b3, b4, b5⟩ := hs
  replace b1 : -9223372036854775808 ≤ s.f ∧ s.f ≤ 9223372036854775807 := b1
  replace b2 : 0 ≤ s.faulty ∧ s.faulty ≤ 65535 := b2
  replace b3 : 0 ≤ s.liars ∧ s.liars ≤ 65535 := b3
  replace b4 : -9223372036854775808 ≤ s.room ∧ s.room ≤ 9223372036854775807 := b4
  have i1 := Lib.itoa_length_le s.f b1.1 b1.2
  have i2 := Lib.itoa_length_le s.faulty (by omega) (by omega)
  have i3 := Lib.itoa_length_le s.liars (by omega) (by omega)
  have i4 := Lib.itoa_length_le s.room b4.1 b4.2
  have w1 : IntKind.u16.wrap s.faulty = s.faulty := by simp [IntKind.wrap, IntKind.bits, IntKind.signed]; omega
  have w2 : IntKind.u16.wrap s.liars = s.liars := by simp [IntKind.wrap, IntKind.bits, IntKind.signed]; omega
  have HS : FnP Tryz.prog 38 [.str (setupF s)] (.list 1 (cW [wWorld, Lib.itoa s.f, Lib.itoa s.faulty, Lib.itoa s.liars, Lib.itoa s.room, s.topic])) := by
    have := rWords_s (setupF s) hl
    rw [setup_split hn] at this
    exact this
  refine mkS 74 [] Tryz.func11 rfl (by kernel_rfl) ?_
  repeat'
    (conv => arg 2; whnf)
    first
    | refine okFn HS rfl (Cos.refl _) ?_
    | refine okBrT ?_
    | refine okBrF ?_
    | refine okNth _ (by decide) rfl ?_
    | (refine okFnR (rNumber_s hnum (Lib.itoa s.f) (by omega)) rfl (Cos.refl _) ?_; rintro r ⟨n, b, hn1, rfl, he⟩; obtain rfl := he s.f b1 rfl)
    | (refine okFnR (rNumber_s hnum (Lib.itoa s.faulty) (by omega)) rfl (Cos.refl _) ?_; rintro r ⟨n, b, hn1, rfl, he⟩; obtain rfl := he s.faulty (by omega) rfl)
    | (refine okFnR (rNumber_s hnum (Lib.itoa s.liars) (by omega)) rfl (Cos.refl _) ?_; rintro r ⟨n, b, hn1, rfl, he⟩; obtain rfl := he s.liars (by omega) rfl)
    | (refine okFnR (rNumber_s hnum (Lib.itoa s.room) (by omega)) rfl (Cos.refl _) ?_; rintro r ⟨n, b, hn1, rfl, he⟩; obtain rfl := he s.room b4 rfl)
    | (rw [w1, w2]; refine okFn (rSetupY_s hnum s hs0 hn) rfl (Cos.refl _) ?_)
    | (refine okBr (fun h => ?_) (fun h => ?_))
    | (exfalso; simp at h; done)
    | exact endFn0 (.inr rfl) rfl (.refl _) rfl
theorem six {α : Type} {l : List α} (h : l.length = 6) : ∃ a b c d e f, l = [a, b, c, d, e, f] := by
  match l, h with
  | [a, b, c, d, e, f], _ => exact ⟨a, b, c, d, e, f, rfl⟩
theorem rpSetupN_s [Wd] (hnum : NumOk) (line : List UInt8) (hl : line.length ≤ 4194304) (hs : ¬ ∃ s, setupOk line s) : FnP Tryz.prog 11 [.str line] (.tup [.agg (cSetup zSetup), .bool false]) := by
  obtain ⟨ws, hws⟩ : ∃ ws, ws = splitF line := ⟨_, rfl⟩
  have hb : Wok ws := hws ▸ Wok.split hl
  have HS : FnP Tryz.prog 38 [.str line] (.list 1 (cW ws)) := hws ▸ rWords_s line hl
  clear hws
  by_cases h6 : ws.length = 6
  · obtain ⟨a0, a1, a2, a3, a4, a5, rfl⟩ := six h6
    have l1 := hb.2 a1 (by simp)
    have l2 := hb.2 a2 (by simp)
    have l3 := hb.2 a3 (by simp)
    have l4 := hb.2 a4 (by simp)
    have l5 := hb.2 a5 (by simp)
    refine mkS 74 [] Tryz.func11 rfl (by kernel_rfl) ?_
    repeat'
      (conv => arg 2; whnf)
      first
      | refine okFn HS rfl (Cos.refl _) ?_
      | refine okBrT ?_
      | refine okBrF ?_
      | refine okNth _ (by decide) rfl ?_
      | (refine okFnR (rNumber_s hnum _ (by assumption)) rfl (Cos.refl _) ?_; rintro r ⟨n, b, hn, rfl, _⟩)
    rename_i n1 c1 h1 d1 n2 c2 h2 d2 n3 c3 h3 d3 d4
    have hset : dSetup.ok ⟨n1, IntKind.u16.wrap n2, IntKind.u16.wrap n3, n, a5⟩ := setup_mk h1 (u16_range n2) (u16_range n3) hn l5
    cases hN : nameF a5
    · repeat'
        (conv => arg 2; whnf)
        first
        | refine okFn (rSetupN_s hnum ⟨n1, IntKind.u16.wrap n2, IntKind.u16.wrap n3, n, a5⟩ hset hN) rfl (Cos.refl _) ?_
        | refine okBrT ?_
        | refine okBrF ?_
        | exact endFn0 (.inr rfl) rfl (.refl _) rfl
    · have hne : ¬ setupF ⟨n1, IntKind.u16.wrap n2, IntKind.u16.wrap n3, n, a5⟩ = line := fun e => hs ⟨_, hset, hN, e.symm⟩
      repeat'
        (conv => arg 2; whnf)
        first
        | refine okFn (rSetupY_s hnum ⟨n1, IntKind.u16.wrap n2, IntKind.u16.wrap n3, n, a5⟩ hset hN) rfl (Cos.refl _) ?_
        | refine okBrT ?_
        | refine okBrF ?_
        | (exfalso; simp at h; exact hne h)
        | exact endFn0 (.inr rfl) rfl (.refl _) rfl
        | refine okBr (fun h => ?_) (fun h => ?_)
  · have h7 : ((((cW ws).length : Int) != 6)) = true := by simp [cW]; omega
    refine mkS 74 [] Tryz.func11 rfl (by kernel_rfl) ?_
    repeat'
      (conv => arg 2; whnf)
      first
      | refine okFn HS rfl (Cos.refl _) ?_
      | refine okBrY h7 ?_
      | exact endFn0 (.inr rfl) rfl (.refl _) rfl
end Go.Proofs.YtafomdobfmmleaaGreatDoor

/- script.digit, script.ParseHex. -/
namespace Go.Proofs.YtafomdobfmmleaaGreatDoor
open Go.RowKit Go.Deep
set_option linter.unusedVariables false

def digF (c : Nat) : Nat := if 48 ≤ c ∧ c ≤ 57 then c - 48 else if 97 ≤ c ∧ c ≤ 102 then c - 87 else 16
/-- pairs of digits -/
def pairsF : List UInt8 → Option (List UInt8)
  | [] => some []
  | [_] => none
  | x :: y :: r => if digF x.toNat < 16 ∧ digF y.toNat < 16 then (pairsF r).map (UInt8.ofNat (16 * digF x.toNat + digF y.toNat) :: ·) else none
def parseHexF : List UInt8 → Option (List UInt8)
  | [] => none
  | x :: r => if x = 120 then pairsF r else none
end Go.Proofs.YtafomdobfmmleaaGreatDoor

/- script.ParseHex. -/
namespace Go.Proofs.YtafomdobfmmleaaGreatDoor
open Go.RowKit Go.Deep
set_option linter.unusedVariables false

theorem pairsF_odd : ∀ r : List UInt8, r.length % 2 = 1 → pairsF r = none
  | [], h => by simp at h
  | [_], _ => rfl
  | x :: y :: r, h => by
    simp only [List.length_cons] at h
    simp only [pairsF]
    rw [pairsF_odd r (by omega)]
    split <;> rfl
theorem orH (h l : Nat) (hh : h < 16) (hl : l < 16) : bits BinOp.or IntKind.u8 ((h : Int) * 16) (l : Int) = ((16 * h + l : Nat) : Int) := by
  have h' : ∀ x : Fin 16, ∀ y : Fin 16, bits BinOp.or IntKind.u8 ((x.val : Int) * 16) (y.val : Int) = ((16 * x.val + y.val : Nat) : Int) := by decide +kernel
  exact h' ⟨h, hh⟩ ⟨l, hl⟩
theorem pairsF_two {r : List UInt8} {q : Nat} {a b : UInt8} (ha : r[2 * q]? = some a) (hb : r[2 * q + 1]? = some b) : r.drop (2 * q) = a :: b :: r.drop (2 * (q + 1)) := by
  obtain ⟨h1, h2⟩ := List.getElem?_eq_some_iff.1 ha
  obtain ⟨h3, h4⟩ := List.getElem?_eq_some_iff.1 hb
  rw [List.drop_eq_getElem_cons h1, h2, List.drop_eq_getElem_cons h3, h4]
  rfl
end Go.Proofs.YtafomdobfmmleaaGreatDoor

/- Hexadecimal digits of both sides, over data. -/
namespace Go.Proofs.YtafomdobfmmleaaGreatDoor
open Go.RowKit
set_option linter.unusedVariables false
set_option maxRecDepth 20000

theorem dig_cases (c : Nat) : (48 ≤ c ∧ c ≤ 57 ∧ digF c = c - 48) ∨ (97 ≤ c ∧ c ≤ 102 ∧ digF c = c - 87) ∨ (¬ (48 ≤ c ∧ c ≤ 57) ∧ ¬ (97 ≤ c ∧ c ≤ 102) ∧ digF c = 16) := by
  unfold digF
  split
  · rename_i h; exact .inl ⟨h.1, h.2, rfl⟩
  · rename_i h
    split
    · rename_i k; exact .inr (.inl ⟨k.1, k.2, rfl⟩)
    · rename_i k; exact .inr (.inr ⟨h, k, rfl⟩)
theorem sDigit_s [Wd] (c : UInt8) : FnP Tryz.prog 40 [.int .u8 (c.toNat : Int)] (.int .u8 (digF c.toNat : Int)) := by
  have hc := c.toNat_lt
  have hd := dig_cases c.toNat
  generalize digF c.toNat = d at *
  generalize c.toNat = x at *
  have hx : (x < 48) ∨ (48 ≤ x ∧ x ≤ 57) ∨ (57 < x ∧ x < 97) ∨ (97 ≤ x ∧ x ≤ 102) ∨ 102 < x := by omega
  rcases hx with hx | hx | hx | hx | hx
  all_goals
    have hd2 : (d : Int) = if (48 ≤ x ∧ x ≤ 57) then (x : Int) - 48 else if (97 ≤ x ∧ x ≤ 102) then (x : Int) - 97 + 10 else 16 := by split <;> (try split) <;> omega
    refine mkS 22 [] Tryz.func40 rfl (by kernel_rfl) ?_
    repeat'
      (conv => arg 2; whnf)
      first
      | (exfalso; simp at h; omega)
      | refine okBrT ?_
      | refine okBrF ?_
      | refine okBr (fun h => ?_) (fun h => ?_)
      | refine okWrap (u8W (by omega) (by omega)) ?_
      | (refine endInt (.inr rfl) rfl ?_; rw [hd2]; (first | rw [if_pos (by omega)] | rw [if_neg (by omega), if_pos (by omega)] | rw [if_neg (by omega), if_neg (by omega)]); done)
theorem rDigit_s [Wd] (c : UInt8) : FnP Tryz.prog 41 [.int .u8 (c.toNat : Int)] (.tup [.int .u8 (if digF c.toNat < 16 then (digF c.toNat : Int) else 0), .bool (decide (digF c.toNat < 16))]) := by
  have hc := c.toNat_lt
  have hd := dig_cases c.toNat
  generalize digF c.toNat = d at *
  generalize c.toNat = x at *
  have hx : (x < 48) ∨ (48 ≤ x ∧ x ≤ 57) ∨ (57 < x ∧ x < 97) ∨ (97 ≤ x ∧ x ≤ 102) ∨ 102 < x := by omega
  rcases hx with hx | hx | hx | hx | hx
  all_goals
    refine mkS 21 [] Tryz.func41 rfl (by kernel_rfl) ?_
    repeat'
      (conv => arg 2; whnf)
      first
      | (exfalso; simp at h; omega)
      | refine okBrT ?_
      | refine okBrF ?_
      | refine okBr (fun h => ?_) (fun h => ?_)
      | refine okWrap (u8W (by omega) (by omega)) ?_
      | (refine endFn0 (.inr rfl) rfl (Co.of_eq ?_) rfl; show D.tup [.int .u8 _, .bool _] = D.tup [.int .u8 _, .bool _]; (first | rw [if_pos (by omega), decide_eq_true (by omega)] | rw [if_neg (by omega), decide_eq_false (by omega)]); congr 3; omega)
      | (refine endFn0 (.inr rfl) rfl (Co.of_eq ?_) rfl; show D.tup [.int .u8 _, .bool _] = D.tup [.int .u8 _, .bool _]; (first | rw [if_pos (by omega), decide_eq_true (by omega)] | rw [if_neg (by omega), decide_eq_false (by omega)]); done)
end Go.Proofs.YtafomdobfmmleaaGreatDoor

/- Hexadecimal words parsed, both sides, over data. -/
namespace Go.Proofs.YtafomdobfmmleaaGreatDoor
open Go.RowKit
set_option linter.unusedVariables false
set_option maxRecDepth 20000

/-- what a hexadecimal word says -/
def hexR (s : List UInt8) : D := match parseHexF s with
  | some bs => .tup [.list 1 (bs.map cByte), .bool true]
  | none => .tup [.nils, .bool false]
/-- pairs read so far -/
def PInv (r : List UInt8) (q : Nat) (out : List UInt8) : Prop := 2 * q ≤ r.length ∧ out.length = q ∧ pairsF r = (pairsF (r.drop (2 * q))).map (out ++ ·)
theorem PInv.zero (r : List UInt8) : PInv r 0 [] := ⟨by omega, rfl, by simp⟩
theorem pairs_at {r : List UInt8} {q : Nat} {a b : UInt8} (ha : r[2 * q]? = some a) (hb : r[2 * q + 1]? = some b) : r.drop (2 * q) = a :: b :: r.drop (2 * (q + 1)) := pairsF_two ha hb
theorem PInv.next {r : List UInt8} {q : Nat} {out : List UInt8} {a b : UInt8} (h : PInv r q out) (ha : r[2 * q]? = some a) (hb : r[2 * q + 1]? = some b) (h1 : digF a.toNat < 16) (h2 : digF b.toNat < 16) : PInv r (q + 1) (out ++ [UInt8.ofNat (16 * digF a.toNat + digF b.toNat)]) := by
  have hl := (List.getElem?_eq_some_iff.1 hb).1
  refine ⟨by omega, by simp [h.2.1], ?_⟩
  rw [h.2.2, pairs_at ha hb]
  simp only [pairsF]
  rw [if_pos ⟨h1, h2⟩, Option.map_map]
  congr 1
  funext l
  simp
theorem PInv.bad {r : List UInt8} {q : Nat} {out : List UInt8} {a b : UInt8} (h : PInv r q out) (ha : r[2 * q]? = some a) (hb : r[2 * q + 1]? = some b) (h1 : ¬ (digF a.toNat < 16 ∧ digF b.toNat < 16)) : pairsF r = none := by
  rw [h.2.2, pairs_at ha hb]
  simp only [pairsF]
  rw [if_neg h1]
  rfl
theorem PInv.fin {r : List UInt8} {q : Nat} {out : List UInt8} (h : PInv r q out) (hq : r.length ≤ 2 * q) : pairsF r = some out := by
  rw [h.2.2, List.drop_of_length_le hq]
  simp [pairsF]
theorem hexR_some {s bs : List UInt8} (h : parseHexF s = some bs) : hexR s = .tup [.list 1 (bs.map cByte), .bool true] := by unfold hexR; rw [h]
theorem hexR_none {s : List UInt8} (h : parseHexF s = none) : hexR s = .tup [.nils, .bool false] := by unfold hexR; rw [h]
theorem hex_even {s : List UInt8} (h : s.length % 2 = 0) : parseHexF s = none := by
  cases s with
  | nil => rfl
  | cons x r =>
    simp only [parseHexF]
    split
    · exact pairsF_odd r (by simp at h; omega)
    · rfl
theorem co_nil2 (d : D) : Co (.tup [.nils, d]) (.tup [.list 1 [], d]) := .tup _ _ rfl (fun i a b h1 h2 => by
  match i with
  | 0 => simp at h1 h2; subst h1 h2; exact .nil 1
  | 1 => simp at h1 h2; subst h1 h2; exact .refl _
  | i + 2 => simp at h1)
theorem rParseHexE_s [Wd] (s : List UInt8) (hl : s.length ≤ 4194304) (he : s.length % 2 = 0) : FnP Tryz.prog 13 [.str s] (.tup [.nils, .bool false]) := by
  have hr : ((s.length : Int).tmod 2) = 0 := by rw [Int.tmod_eq_emod_of_nonneg (by omega)]; omega
  refine mkS' false 54 [] Tryz.func13 rfl (by kernel_rfl) ?_
  repeat'
    (conv => arg 2; whnf)
    first
    | refine okBrT ?_
    | refine okBrF ?_
    | refine okAsk (by decide) ?_
    | refine okAsk (by kernel_rfl) ?_
    | (exfalso; simp [hr] at h; done)
    | (exfalso; simp at h; omega)
    | exact endFn0 (.inr rfl) rfl (.refl _) rfl
    | refine okBr (fun h => ?_) (fun h => ?_)
theorem rParseHexX_s [Wd] (s : List UInt8) (x : UInt8) (hl : s.length ≤ 4194304) (he : s.length % 2 = 1) (hx : s[0]? = some x) (h120 : x ≠ 120) : FnP Tryz.prog 13 [.str s] (.tup [.nils, .bool false]) := by
  have hr : ((s.length : Int).tmod 2) = 1 := by rw [Int.tmod_eq_emod_of_nonneg (by omega)]; omega
  have h33 : ¬ (x.toNat = 120) := fun e => h120 (UInt8.toNat_inj.1 (by rw [e]; rfl))
  refine mkS' false 54 [] Tryz.func13 rfl (by kernel_rfl) ?_
  repeat'
    (conv => arg 2; whnf)
    first
    | refine okBrT ?_
    | refine okBrF ?_
    | refine okAsk (by decide) ?_
    | refine okAsk (by kernel_rfl) ?_
    | refine okByte x (by omega) (by simpa using hx) ?_
    | (exfalso; simp [hr] at h; done)
    | (exfalso; simp [hr] at h; exact h33 (by omega))
    | (exfalso; simp [hr] at h; exact h120 h)
    | exact endFn0 (.inr rfl) rfl (.refl _) rfl
    | refine okBr (fun h => ?_) (fun h => ?_)
theorem rParseHexY_s [Wd] (r : List UInt8) (hl : (120 :: r).length ≤ 4194304) (he : r.length % 2 = 0) : FnP Tryz.prog 13 [.str (120 :: r)] (hexR (120 :: r)) := by
  have hlen : (120 :: r).length = r.length + 1 := rfl
  have hr : (((120 :: r : List UInt8).length : Int).tmod 2) = 1 := by rw [Int.tmod_eq_emod_of_nonneg (by omega)]; omega
  refine mkS' false 54 [] Tryz.func13 rfl (by kernel_rfl) ?_
  repeat'
    (conv => arg 2; whnf)
    first
    | refine okBrT ?_
    | refine okBrF ?_
    | refine okAsk (by decide) ?_
    | refine okAsk (by kernel_rfl) ?_
    | refine okByte 120 (by omega) rfl ?_
    | (exfalso; rw [hr] at h; revert h; decide)
    | (exfalso; revert h; decide)
    | refine okBr (fun h => ?_) (fun h => ?_)
  · refine okLoop (α := Nat × List UInt8) (fun a => match a.2 with
      | [] => ⟨[(5, .int .i64 ((1 + 2 * a.1 : Nat) : Int)), (4, .nils), (3, .bool false), (2, .nils), (0, .str (120 :: r))], []⟩
      | x :: k => ⟨[(5, .int .i64 ((1 + 2 * a.1 : Nat) : Int)), (4, .row 0), (3, .bool false), (2, .nils), (0, .str (120 :: r))], [.row 5 1 ((x :: k).map cByte)]⟩) (fun a => PInv r a.1 a.2) (fun a => r.length - a.1) (0, []) (PInv.zero r) (Sv.mk' [] rfl trivial ⟨rfl, rfl, rfl, rfl, rfl, trivial⟩) ?_
    rintro ⟨q, out⟩ hJ
    replace hJ : PInv r q out := hJ
    have ho := hJ.2.1
    have hq := hJ.1
    cases out with
    | nil =>
      rcases Nat.lt_or_ge (2 * q) r.length with hlt | hge
      · obtain ⟨a, ha⟩ : ∃ a, r[2 * q]? = some a := ⟨_, List.getElem?_eq_getElem hlt⟩
        obtain ⟨b, hb⟩ : ∃ b, r[2 * q + 1]? = some b := ⟨_, List.getElem?_eq_getElem (by omega)⟩
        have sa : (120 :: r)[1 + 2 * q]? = some a := by rw [Nat.add_comm]; exact ha
        have sb : (120 :: r)[1 + 2 * q + 1]? = some b := by rw [show 1 + 2 * q + 1 = (2 * q + 1) + 1 by omega]; exact hb
        have hal := a.toNat_lt
        have hbl := b.toNat_lt
        by_cases g : digF a.toNat < 16 ∧ digF b.toNat < 16
        · have HA : FnP Tryz.prog 41 [.int .u8 (a.toNat : Int)] (.tup [.int .u8 (digF a.toNat : Int), .bool true]) := by
            have := rDigit_s a
            rw [if_pos g.1, decide_eq_true g.1] at this
            exact this
          have HB : FnP Tryz.prog 41 [.int .u8 (b.toNat : Int)] (.tup [.int .u8 (digF b.toNat : Int), .bool true]) := by
            have := rDigit_s b
            rw [if_pos g.2, decide_eq_true g.2] at this
            exact this
          have hN := hJ.next ha hb g.1 g.2
          have hv : ((UInt8.ofNat (16 * digF a.toNat + digF b.toNat)).toNat : Int) = 16 * (digF a.toNat : Int) + (digF b.toNat : Int) := by rw [UInt8.toNat_ofNat']; omega
          have hv16 : IntKind.u8.wrap ((digF a.toNat : Int) * 16) = (digF a.toNat : Int) * 16 := u8W (by omega) (by omega)
          have hcb : cByte (UInt8.ofNat (16 * digF a.toNat + digF b.toNat)) = [.int .u8 ((digF a.toNat : Int) * 16 + (digF b.toNat : Int))] := by unfold cByte; rw [hv, Int.mul_comm]
          repeat'
            (conv => arg 2; whnf)
            first
            | (exfalso; simp at h; omega)
            | refine okAsk (by kernel_rfl) ?_
            | refine okBoth ?_ ?_
            | refine okBrT ?_
            | refine okBrF ?_
            | refine okByte a (Int.natCast_nonneg _) sa ?_
            | refine okByte b (by (try dsimp only); omega) sb ?_
            | refine okFn HA rfl (Cos.refl _) ?_
            | refine okFn HB rfl (Cos.refl _) ?_
            | refine okWrap (w64 (by (try dsimp only); omega) (by (try dsimp only); omega)) ?_
            | refine okWrap (u8W (by (try dsimp only); omega) (by (try dsimp only); omega)) ?_
            | refine okWrap (show IntKind.u8.wrap (IntKind.u8.wrap ((digF a.toNat : Int) * 16) + (digF b.toNat : Int)) = _ by rw [hv16]; exact u8W (by omega) (by omega)) ?_
            | refine okAsk (by constructor <;> (simp only [List.length_cons, List.length_nil, maxLen] at ho ⊢; omega)) ?_
            | refine okBr (fun h => ?_) (fun h => ?_)
            | refine okAgain (q + 1, [UInt8.ofNat (16 * digF a.toNat + digF b.toNat)]) (Sv.mk' [1] rfl ⟨⟨rfl, by show AO.row _ 1 ([] ++ [[D.int .u8 ((digF a.toNat : Int) * 16 + (digF b.toNat : Int))]]) = AO.row _ 1 (List.map cByte [UInt8.ofNat (16 * digF a.toNat + digF b.toNat)]); rw [List.map_cons, hcb]; rfl⟩, trivial⟩ ⟨(by show D.int _ _ = D.int _ _; exact congrArg (D.int _) (by (try dsimp only); omega)), rfl, rfl, rfl, rfl, trivial⟩) hN (by show r.length - (q + 1) < r.length - q; omega)
            | fail
        · have hN := hJ.bad ha hb g
          rw [hexR_none (show parseHexF (120 :: r) = none by simp only [parseHexF, if_true]; exact hN)]
          rcases (show ¬ digF a.toNat < 16 ∨ (digF a.toNat < 16 ∧ ¬ digF b.toNat < 16) by omega) with g1 | g1
          · skip
            have HA : FnP Tryz.prog 41 [.int .u8 (a.toNat : Int)] (.tup [.int .u8 0, .bool false]) := by
              have := rDigit_s a
              rw [if_neg g1, decide_eq_false g1] at this
              exact this
            have HB := rDigit_s b
            repeat'
              (conv => arg 2; whnf)
              first
              | (exfalso; simp at h; omega)
              | refine okAsk (by kernel_rfl) ?_
              | refine okBoth ?_ ?_
              | refine okBrT ?_
              | refine okBrF ?_
              | refine okByte a (Int.natCast_nonneg _) sa ?_
              | refine okByte b (by (try dsimp only); omega) sb ?_
              | refine okFn HA rfl (Cos.refl _) ?_
              | refine okFn HB rfl (Cos.refl _) ?_
              | refine okWrap (w64 (by (try dsimp only); omega) (by (try dsimp only); omega)) ?_
              | refine okRet ?_
              | exact endFn0 (.inr rfl) rfl (.refl _) rfl
              | refine okBr (fun h => ?_) (fun h => ?_)
              | fail
          · skip
            have HA : FnP Tryz.prog 41 [.int .u8 (a.toNat : Int)] (.tup [.int .u8 (digF a.toNat : Int), .bool true]) := by
              have := rDigit_s a
              rw [if_pos g1.1, decide_eq_true g1.1] at this
              exact this
            have HB : FnP Tryz.prog 41 [.int .u8 (b.toNat : Int)] (.tup [.int .u8 0, .bool false]) := by
              have := rDigit_s b
              rw [if_neg g1.2, decide_eq_false g1.2] at this
              exact this
            repeat'
              (conv => arg 2; whnf)
              first
              | (exfalso; simp at h; omega)
              | refine okAsk (by kernel_rfl) ?_
              | refine okBoth ?_ ?_
              | refine okBrT ?_
              | refine okBrF ?_
              | refine okByte a (Int.natCast_nonneg _) sa ?_
              | refine okByte b (by (try dsimp only); omega) sb ?_
              | refine okFn HA rfl (Cos.refl _) ?_
              | refine okFn HB rfl (Cos.refl _) ?_
              | refine okWrap (w64 (by (try dsimp only); omega) (by (try dsimp only); omega)) ?_
              | refine okRet ?_
              | exact endFn0 (.inr rfl) rfl (.refl _) rfl
              | refine okBr (fun h => ?_) (fun h => ?_)
              | fail
      · have hN := hJ.fin hge
        rw [hexR_some (show parseHexF (120 :: r) = some [] by simp only [parseHexF, if_true]; exact hN)]
        repeat'
          (conv => arg 2; whnf)
          first
          | (exfalso; simp at h; omega)
          | refine okBrT ?_
          | refine okBrF ?_
          | refine okOut ?_
          | exact endFn0 (.inr rfl) rfl (co_nil2 _) rfl
          | refine okBr (fun h => ?_) (fun h => ?_)
          | fail
    | cons z out =>
      rcases Nat.lt_or_ge (2 * q) r.length with hlt | hge
      · obtain ⟨a, ha⟩ : ∃ a, r[2 * q]? = some a := ⟨_, List.getElem?_eq_getElem hlt⟩
        obtain ⟨b, hb⟩ : ∃ b, r[2 * q + 1]? = some b := ⟨_, List.getElem?_eq_getElem (by omega)⟩
        have sa : (120 :: r)[1 + 2 * q]? = some a := by rw [Nat.add_comm]; exact ha
        have sb : (120 :: r)[1 + 2 * q + 1]? = some b := by rw [show 1 + 2 * q + 1 = (2 * q + 1) + 1 by omega]; exact hb
        have hal := a.toNat_lt
        have hbl := b.toNat_lt
        by_cases g : digF a.toNat < 16 ∧ digF b.toNat < 16
        · have HA : FnP Tryz.prog 41 [.int .u8 (a.toNat : Int)] (.tup [.int .u8 (digF a.toNat : Int), .bool true]) := by
            have := rDigit_s a
            rw [if_pos g.1, decide_eq_true g.1] at this
            exact this
          have HB : FnP Tryz.prog 41 [.int .u8 (b.toNat : Int)] (.tup [.int .u8 (digF b.toNat : Int), .bool true]) := by
            have := rDigit_s b
            rw [if_pos g.2, decide_eq_true g.2] at this
            exact this
          have hN := hJ.next ha hb g.1 g.2
          have hv : ((UInt8.ofNat (16 * digF a.toNat + digF b.toNat)).toNat : Int) = 16 * (digF a.toNat : Int) + (digF b.toNat : Int) := by rw [UInt8.toNat_ofNat']; omega
          have hv16 : IntKind.u8.wrap ((digF a.toNat : Int) * 16) = (digF a.toNat : Int) * 16 := u8W (by omega) (by omega)
          have hcb : cByte (UInt8.ofNat (16 * digF a.toNat + digF b.toNat)) = [.int .u8 ((digF a.toNat : Int) * 16 + (digF b.toNat : Int))] := by unfold cByte; rw [hv, Int.mul_comm]
          repeat'
            (conv => arg 2; whnf)
            first
            | (exfalso; simp at h; omega)
            | refine okAsk (by kernel_rfl) ?_
            | refine okBoth ?_ ?_
            | refine okBrT ?_
            | refine okBrF ?_
            | refine okByte a (Int.natCast_nonneg _) sa ?_
            | refine okByte b (by (try dsimp only); omega) sb ?_
            | refine okFn HA rfl (Cos.refl _) ?_
            | refine okFn HB rfl (Cos.refl _) ?_
            | refine okWrap (w64 (by (try dsimp only); omega) (by (try dsimp only); omega)) ?_
            | refine okWrap (u8W (by (try dsimp only); omega) (by (try dsimp only); omega)) ?_
            | refine okWrap (show IntKind.u8.wrap (IntKind.u8.wrap ((digF a.toNat : Int) * 16) + (digF b.toNat : Int)) = _ by rw [hv16]; exact u8W (by omega) (by omega)) ?_
            | refine okAsk (by constructor <;> (simp only [List.length_cons, List.length_nil, List.length_map, maxLen] at ho ⊢; omega)) ?_
            | refine okBr (fun h => ?_) (fun h => ?_)
            | refine okAgain (q + 1, (z :: out) ++ [UInt8.ofNat (16 * digF a.toNat + digF b.toNat)]) (Sv.mk' [2] rfl ⟨⟨rfl, by show AO.row _ 1 ((z :: out).map cByte ++ [[D.int .u8 ((digF a.toNat : Int) * 16 + (digF b.toNat : Int))]]) = AO.row _ 1 (List.map cByte ((z :: out) ++ [UInt8.ofNat (16 * digF a.toNat + digF b.toNat)])); simp only [List.map_append, List.map_cons, List.map_nil, hcb]⟩, trivial⟩ ⟨(by show D.int _ _ = D.int _ _; exact congrArg (D.int _) (by (try dsimp only); omega)), rfl, rfl, rfl, rfl, trivial⟩) hN (by show r.length - (q + 1) < r.length - q; omega)
            | fail
        · have hN := hJ.bad ha hb g
          rw [hexR_none (show parseHexF (120 :: r) = none by simp only [parseHexF, if_true]; exact hN)]
          rcases (show ¬ digF a.toNat < 16 ∨ (digF a.toNat < 16 ∧ ¬ digF b.toNat < 16) by omega) with g1 | g1
          · skip
            have HA : FnP Tryz.prog 41 [.int .u8 (a.toNat : Int)] (.tup [.int .u8 0, .bool false]) := by
              have := rDigit_s a
              rw [if_neg g1, decide_eq_false g1] at this
              exact this
            have HB := rDigit_s b
            repeat'
              (conv => arg 2; whnf)
              first
              | (exfalso; simp at h; omega)
              | refine okAsk (by kernel_rfl) ?_
              | refine okBoth ?_ ?_
              | refine okBrT ?_
              | refine okBrF ?_
              | refine okByte a (Int.natCast_nonneg _) sa ?_
              | refine okByte b (by (try dsimp only); omega) sb ?_
              | refine okFn HA rfl (Cos.refl _) ?_
              | refine okFn HB rfl (Cos.refl _) ?_
              | refine okWrap (w64 (by (try dsimp only); omega) (by (try dsimp only); omega)) ?_
              | refine okRet ?_
              | exact endFn0 (.inr rfl) rfl (.refl _) rfl
              | refine okBr (fun h => ?_) (fun h => ?_)
              | fail
          · skip
            have HA : FnP Tryz.prog 41 [.int .u8 (a.toNat : Int)] (.tup [.int .u8 (digF a.toNat : Int), .bool true]) := by
              have := rDigit_s a
              rw [if_pos g1.1, decide_eq_true g1.1] at this
              exact this
            have HB : FnP Tryz.prog 41 [.int .u8 (b.toNat : Int)] (.tup [.int .u8 0, .bool false]) := by
              have := rDigit_s b
              rw [if_neg g1.2, decide_eq_false g1.2] at this
              exact this
            repeat'
              (conv => arg 2; whnf)
              first
              | (exfalso; simp at h; omega)
              | refine okAsk (by kernel_rfl) ?_
              | refine okBoth ?_ ?_
              | refine okBrT ?_
              | refine okBrF ?_
              | refine okByte a (Int.natCast_nonneg _) sa ?_
              | refine okByte b (by (try dsimp only); omega) sb ?_
              | refine okFn HA rfl (Cos.refl _) ?_
              | refine okFn HB rfl (Cos.refl _) ?_
              | refine okWrap (w64 (by (try dsimp only); omega) (by (try dsimp only); omega)) ?_
              | refine okRet ?_
              | exact endFn0 (.inr rfl) rfl (.refl _) rfl
              | refine okBr (fun h => ?_) (fun h => ?_)
              | fail
      · have hN := hJ.fin hge
        rw [hexR_some (show parseHexF (120 :: r) = some (z :: out) by simp only [parseHexF, if_true]; exact hN)]
        repeat'
          (conv => arg 2; whnf)
          first
          | (exfalso; simp at h; omega)
          | refine okBrT ?_
          | refine okBrF ?_
          | refine okOut ?_
          | exact endFn [0] (.inr rfl) rfl (.refl _) rfl
          | refine okBr (fun h => ?_) (fun h => ?_)
          | fail
theorem sParseHexE_s [Wd] (s : List UInt8) (hl : s.length ≤ 4194304) (he : s.length % 2 = 0) : FnP Tryz.prog 12 [.str s] (.tup [.nils, .bool false]) := by
  have hr : ((s.length : Int).tmod 2) = 0 := by rw [Int.tmod_eq_emod_of_nonneg (by omega)]; omega
  refine mkS' false 46 [(7, ⟨[(0, false), (1, false), (2, false), (4, false), (5, false), (6, false), (7, false), (3, true), (8, true), (9, false), (10, false)], []⟩)] Tryz.func12 rfl (by kernel_rfl) ?_
  repeat'
    (conv => arg 2; whnf)
    first
    | refine okBrT ?_
    | refine okBrF ?_
    | refine okAsk (by decide) ?_
    | refine okAsk (by kernel_rfl) ?_
    | (exfalso; simp [hr] at h; done)
    | (exfalso; simp at h; omega)
    | exact endFn0 (.inr rfl) rfl (.refl _) rfl
    | refine okBr (fun h => ?_) (fun h => ?_)
theorem sParseHexX_s [Wd] (s : List UInt8) (x : UInt8) (hl : s.length ≤ 4194304) (he : s.length % 2 = 1) (hx : s[0]? = some x) (h120 : x ≠ 120) : FnP Tryz.prog 12 [.str s] (.tup [.nils, .bool false]) := by
  have hr : ((s.length : Int).tmod 2) = 1 := by rw [Int.tmod_eq_emod_of_nonneg (by omega)]; omega
  have h33 : ¬ (x.toNat = 120) := fun e => h120 (UInt8.toNat_inj.1 (by rw [e]; rfl))
  refine mkS' false 46 [(7, ⟨[(0, false), (1, false), (2, false), (4, false), (5, false), (6, false), (7, false), (3, true), (8, true), (9, false), (10, false)], []⟩)] Tryz.func12 rfl (by kernel_rfl) ?_
  repeat'
    (conv => arg 2; whnf)
    first
    | refine okBrT ?_
    | refine okBrF ?_
    | refine okAsk (by decide) ?_
    | refine okAsk (by kernel_rfl) ?_
    | refine okByte x (by omega) (by simpa using hx) ?_
    | (exfalso; simp [hr] at h; done)
    | (exfalso; simp [hr] at h; exact h33 (by omega))
    | (exfalso; simp [hr] at h; exact h120 h)
    | exact endFn0 (.inr rfl) rfl (.refl _) rfl
    | refine okBr (fun h => ?_) (fun h => ?_)
theorem sParseHexY_s [Wd] (r : List UInt8) (hl : (120 :: r).length ≤ 4194304) (he : r.length % 2 = 0) : FnP Tryz.prog 12 [.str (120 :: r)] (hexR (120 :: r)) := by
  have hlen : (120 :: r).length = r.length + 1 := rfl
  have hr : (((120 :: r : List UInt8).length : Int).tmod 2) = 1 := by rw [Int.tmod_eq_emod_of_nonneg (by omega)]; omega
  refine mkS' false 46 [(7, ⟨[(0, false), (1, false), (2, false), (4, false), (5, false), (6, false), (7, false), (3, true), (8, true), (9, false), (10, false)], []⟩)] Tryz.func12 rfl (by kernel_rfl) ?_
  repeat'
    (conv => arg 2; whnf)
    first
    | refine okBrT ?_
    | refine okBrF ?_
    | refine okAsk (by decide) ?_
    | refine okAsk (by kernel_rfl) ?_
    | refine okByte 120 (by omega) rfl ?_
    | (exfalso; rw [hr] at h; revert h; decide)
    | (exfalso; revert h; decide)
    | refine okBr (fun h => ?_) (fun h => ?_)
  · refine okLoop (α := Nat × List UInt8) (fun a => match a.2 with
      | [] => ⟨[(5, .int .i64 ((1 + 2 * a.1 : Nat) : Int)), (4, .nils), (3, .bool false), (2, .nils), (0, .str (120 :: r))], []⟩
      | x :: k => ⟨[(5, .int .i64 ((1 + 2 * a.1 : Nat) : Int)), (4, .row 0), (3, .bool false), (2, .nils), (0, .str (120 :: r))], [.row 5 1 ((x :: k).map cByte)]⟩) (fun a => PInv r a.1 a.2) (fun a => r.length - a.1) (0, []) (PInv.zero r) (Sv.mk' [] rfl trivial ⟨rfl, rfl, rfl, rfl, rfl, trivial⟩) ?_
    rintro ⟨q, out⟩ hJ
    replace hJ : PInv r q out := hJ
    have ho := hJ.2.1
    have hq := hJ.1
    cases out with
    | nil =>
      rcases Nat.lt_or_ge (2 * q) r.length with hlt | hge
      · obtain ⟨a, ha⟩ : ∃ a, r[2 * q]? = some a := ⟨_, List.getElem?_eq_getElem hlt⟩
        obtain ⟨b, hb⟩ : ∃ b, r[2 * q + 1]? = some b := ⟨_, List.getElem?_eq_getElem (by omega)⟩
        have sa : (120 :: r)[1 + 2 * q]? = some a := by rw [Nat.add_comm]; exact ha
        have sb : (120 :: r)[1 + 2 * q + 1]? = some b := by rw [show 1 + 2 * q + 1 = (2 * q + 1) + 1 by omega]; exact hb
        have hal := a.toNat_lt
        have hbl := b.toNat_lt
        by_cases g : digF a.toNat < 16 ∧ digF b.toNat < 16
        · have HA := sDigit_s a
          have HB := sDigit_s b
          have hN := hJ.next ha hb g.1 g.2
          have hv : ((UInt8.ofNat (16 * digF a.toNat + digF b.toNat)).toNat : Int) = 16 * (digF a.toNat : Int) + (digF b.toNat : Int) := by rw [UInt8.toNat_ofNat']; omega
          have hv16 : IntKind.u8.wrap ((digF a.toNat : Int) * 16) = (digF a.toNat : Int) * 16 := u8W (by omega) (by omega)
          have hcb : cByte (UInt8.ofNat (16 * digF a.toNat + digF b.toNat)) = [.int .u8 (bits BinOp.or IntKind.u8 (IntKind.u8.wrap ((digF a.toNat : Int) * 2 ^ min (Int.toNat 4) IntKind.u8.bits)) (digF b.toNat : Int))] := by unfold cByte; rw [hv, show (2 : Int) ^ min (Int.toNat 4) IntKind.u8.bits = 16 from by decide, hv16, orH _ _ g.1 g.2]; rfl
          repeat'
            (conv => arg 2; whnf)
            first
            | (exfalso; simp at h; omega)
            | refine okAsk (by kernel_rfl) ?_
            | refine okBoth ?_ ?_
            | refine okBrT ?_
            | refine okBrF ?_
            | refine okByte a (Int.natCast_nonneg _) sa ?_
            | refine okByte b (by (try dsimp only); omega) sb ?_
            | refine okFn HA rfl (Cos.refl _) ?_
            | refine okFn HB rfl (Cos.refl _) ?_
            | refine okWrap (w64 (by (try dsimp only); omega) (by (try dsimp only); omega)) ?_
            | refine okWrap (u8W (by (try dsimp only); omega) (by (try dsimp only); omega)) ?_
            | refine okWrap (show IntKind.u8.wrap (IntKind.u8.wrap ((digF a.toNat : Int) * 16) + (digF b.toNat : Int)) = _ by rw [hv16]; exact u8W (by omega) (by omega)) ?_
            | refine okAsk (by constructor <;> (simp only [List.length_cons, List.length_nil, maxLen] at ho ⊢; omega)) ?_
            | refine okBr (fun h => ?_) (fun h => ?_)
            | refine okAgain (q + 1, [UInt8.ofNat (16 * digF a.toNat + digF b.toNat)]) (Sv.mk' [1] rfl ⟨⟨rfl, by show AO.row _ 1 ([] ++ [[D.int .u8 (bits BinOp.or IntKind.u8 (IntKind.u8.wrap ((digF a.toNat : Int) * 2 ^ min (Int.toNat 4) IntKind.u8.bits)) (digF b.toNat : Int))]]) = AO.row _ 1 (List.map cByte [UInt8.ofNat (16 * digF a.toNat + digF b.toNat)]); rw [List.map_cons, hcb]; rfl⟩, trivial⟩ ⟨(by show D.int _ _ = D.int _ _; exact congrArg (D.int _) (by (try dsimp only); omega)), rfl, rfl, rfl, rfl, trivial⟩) hN (by show r.length - (q + 1) < r.length - q; omega)
            | fail
        · have hN := hJ.bad ha hb g
          rw [hexR_none (show parseHexF (120 :: r) = none by simp only [parseHexF, if_true]; exact hN)]
          rcases (show ¬ digF a.toNat < 16 ∨ (digF a.toNat < 16 ∧ ¬ digF b.toNat < 16) by omega) with g1 | g1
          · skip
            have HA := sDigit_s a
            have HB := sDigit_s b
            repeat'
              (conv => arg 2; whnf)
              first
              | (exfalso; simp at h; omega)
              | refine okAsk (by kernel_rfl) ?_
              | refine okBoth ?_ ?_
              | refine okBrT ?_
              | refine okBrF ?_
              | refine okByte a (Int.natCast_nonneg _) sa ?_
              | refine okByte b (by (try dsimp only); omega) sb ?_
              | refine okFn HA rfl (Cos.refl _) ?_
              | refine okFn HB rfl (Cos.refl _) ?_
              | refine okWrap (w64 (by (try dsimp only); omega) (by (try dsimp only); omega)) ?_
              | refine okRet ?_
              | exact endFn0 (.inr rfl) rfl (.refl _) rfl
              | refine okBr (fun h => ?_) (fun h => ?_)
              | fail
          · skip
            have HA := sDigit_s a
            have HB := sDigit_s b
            repeat'
              (conv => arg 2; whnf)
              first
              | (exfalso; simp at h; omega)
              | refine okAsk (by kernel_rfl) ?_
              | refine okBoth ?_ ?_
              | refine okBrT ?_
              | refine okBrF ?_
              | refine okByte a (Int.natCast_nonneg _) sa ?_
              | refine okByte b (by (try dsimp only); omega) sb ?_
              | refine okFn HA rfl (Cos.refl _) ?_
              | refine okFn HB rfl (Cos.refl _) ?_
              | refine okWrap (w64 (by (try dsimp only); omega) (by (try dsimp only); omega)) ?_
              | refine okRet ?_
              | exact endFn0 (.inr rfl) rfl (.refl _) rfl
              | refine okBr (fun h => ?_) (fun h => ?_)
              | fail
      · have hN := hJ.fin hge
        rw [hexR_some (show parseHexF (120 :: r) = some [] by simp only [parseHexF, if_true]; exact hN)]
        repeat'
          (conv => arg 2; whnf)
          first
          | (exfalso; simp at h; omega)
          | refine okBrT ?_
          | refine okBrF ?_
          | refine okOut ?_
          | exact endFn0 (.inr rfl) rfl (co_nil2 _) rfl
          | refine okBr (fun h => ?_) (fun h => ?_)
          | fail
    | cons z out =>
      rcases Nat.lt_or_ge (2 * q) r.length with hlt | hge
      · obtain ⟨a, ha⟩ : ∃ a, r[2 * q]? = some a := ⟨_, List.getElem?_eq_getElem hlt⟩
        obtain ⟨b, hb⟩ : ∃ b, r[2 * q + 1]? = some b := ⟨_, List.getElem?_eq_getElem (by omega)⟩
        have sa : (120 :: r)[1 + 2 * q]? = some a := by rw [Nat.add_comm]; exact ha
        have sb : (120 :: r)[1 + 2 * q + 1]? = some b := by rw [show 1 + 2 * q + 1 = (2 * q + 1) + 1 by omega]; exact hb
        have hal := a.toNat_lt
        have hbl := b.toNat_lt
        by_cases g : digF a.toNat < 16 ∧ digF b.toNat < 16
        · have HA := sDigit_s a
          have HB := sDigit_s b
          have hN := hJ.next ha hb g.1 g.2
          have hv : ((UInt8.ofNat (16 * digF a.toNat + digF b.toNat)).toNat : Int) = 16 * (digF a.toNat : Int) + (digF b.toNat : Int) := by rw [UInt8.toNat_ofNat']; omega
          have hv16 : IntKind.u8.wrap ((digF a.toNat : Int) * 16) = (digF a.toNat : Int) * 16 := u8W (by omega) (by omega)
          have hcb : cByte (UInt8.ofNat (16 * digF a.toNat + digF b.toNat)) = [.int .u8 (bits BinOp.or IntKind.u8 (IntKind.u8.wrap ((digF a.toNat : Int) * 2 ^ min (Int.toNat 4) IntKind.u8.bits)) (digF b.toNat : Int))] := by unfold cByte; rw [hv, show (2 : Int) ^ min (Int.toNat 4) IntKind.u8.bits = 16 from by decide, hv16, orH _ _ g.1 g.2]; rfl
          repeat'
            (conv => arg 2; whnf)
            first
            | (exfalso; simp at h; omega)
            | refine okAsk (by kernel_rfl) ?_
            | refine okBoth ?_ ?_
            | refine okBrT ?_
            | refine okBrF ?_
            | refine okByte a (Int.natCast_nonneg _) sa ?_
            | refine okByte b (by (try dsimp only); omega) sb ?_
            | refine okFn HA rfl (Cos.refl _) ?_
            | refine okFn HB rfl (Cos.refl _) ?_
            | refine okWrap (w64 (by (try dsimp only); omega) (by (try dsimp only); omega)) ?_
            | refine okWrap (u8W (by (try dsimp only); omega) (by (try dsimp only); omega)) ?_
            | refine okWrap (show IntKind.u8.wrap (IntKind.u8.wrap ((digF a.toNat : Int) * 16) + (digF b.toNat : Int)) = _ by rw [hv16]; exact u8W (by omega) (by omega)) ?_
            | refine okAsk (by constructor <;> (simp only [List.length_cons, List.length_nil, List.length_map, maxLen] at ho ⊢; omega)) ?_
            | refine okBr (fun h => ?_) (fun h => ?_)
            | refine okAgain (q + 1, (z :: out) ++ [UInt8.ofNat (16 * digF a.toNat + digF b.toNat)]) (Sv.mk' [2] rfl ⟨⟨rfl, by show AO.row _ 1 ((z :: out).map cByte ++ [[D.int .u8 (bits BinOp.or IntKind.u8 (IntKind.u8.wrap ((digF a.toNat : Int) * 2 ^ min (Int.toNat 4) IntKind.u8.bits)) (digF b.toNat : Int))]]) = AO.row _ 1 (List.map cByte ((z :: out) ++ [UInt8.ofNat (16 * digF a.toNat + digF b.toNat)])); simp only [List.map_append, List.map_cons, List.map_nil, hcb]⟩, trivial⟩ ⟨(by show D.int _ _ = D.int _ _; exact congrArg (D.int _) (by (try dsimp only); omega)), rfl, rfl, rfl, rfl, trivial⟩) hN (by show r.length - (q + 1) < r.length - q; omega)
            | fail
        · have hN := hJ.bad ha hb g
          rw [hexR_none (show parseHexF (120 :: r) = none by simp only [parseHexF, if_true]; exact hN)]
          rcases (show ¬ digF a.toNat < 16 ∨ (digF a.toNat < 16 ∧ ¬ digF b.toNat < 16) by omega) with g1 | g1
          · skip
            have HA := sDigit_s a
            have HB := sDigit_s b
            repeat'
              (conv => arg 2; whnf)
              first
              | (exfalso; simp at h; omega)
              | refine okAsk (by kernel_rfl) ?_
              | refine okBoth ?_ ?_
              | refine okBrT ?_
              | refine okBrF ?_
              | refine okByte a (Int.natCast_nonneg _) sa ?_
              | refine okByte b (by (try dsimp only); omega) sb ?_
              | refine okFn HA rfl (Cos.refl _) ?_
              | refine okFn HB rfl (Cos.refl _) ?_
              | refine okWrap (w64 (by (try dsimp only); omega) (by (try dsimp only); omega)) ?_
              | refine okRet ?_
              | exact endFn0 (.inr rfl) rfl (.refl _) rfl
              | refine okBr (fun h => ?_) (fun h => ?_)
              | fail
          · skip
            have HA := sDigit_s a
            have HB := sDigit_s b
            repeat'
              (conv => arg 2; whnf)
              first
              | (exfalso; simp at h; omega)
              | refine okAsk (by kernel_rfl) ?_
              | refine okBoth ?_ ?_
              | refine okBrT ?_
              | refine okBrF ?_
              | refine okByte a (Int.natCast_nonneg _) sa ?_
              | refine okByte b (by (try dsimp only); omega) sb ?_
              | refine okFn HA rfl (Cos.refl _) ?_
              | refine okFn HB rfl (Cos.refl _) ?_
              | refine okWrap (w64 (by (try dsimp only); omega) (by (try dsimp only); omega)) ?_
              | refine okRet ?_
              | exact endFn0 (.inr rfl) rfl (.refl _) rfl
              | refine okBr (fun h => ?_) (fun h => ?_)
              | fail
      · have hN := hJ.fin hge
        rw [hexR_some (show parseHexF (120 :: r) = some (z :: out) by simp only [parseHexF, if_true]; exact hN)]
        repeat'
          (conv => arg 2; whnf)
          first
          | (exfalso; simp at h; omega)
          | refine okBrT ?_
          | refine okBrF ?_
          | refine okOut ?_
          | exact endFn [0] (.inr rfl) rfl (.refl _) rfl
          | refine okBr (fun h => ?_) (fun h => ?_)
          | fail
end Go.Proofs.YtafomdobfmmleaaGreatDoor

/- Hexadecimal words of both sides, over data. -/
namespace Go.Proofs.YtafomdobfmmleaaGreatDoor
open Go.RowKit
set_option linter.unusedVariables false
set_option maxRecDepth 20000

theorem rParseHex_s [Wd] (s : List UInt8) (hl : s.length ≤ 4194304) : FnP Tryz.prog 13 [.str s] (hexR s) := by
  by_cases he : s.length % 2 = 0
  · rw [hexR_none (hex_even he)]
    exact rParseHexE_s s hl he
  · match s, he with
    | x :: r, he =>
      by_cases h : x = 120
      · subst h
        exact rParseHexY_s r hl (by simp at he; omega)
      · rw [hexR_none (by simp only [parseHexF]; rw [if_neg h])]
        exact rParseHexX_s _ x hl (by omega) rfl h
theorem sParseHex_s [Wd] (s : List UInt8) (hl : s.length ≤ 4194304) : FnP Tryz.prog 12 [.str s] (hexR s) := by
  by_cases he : s.length % 2 = 0
  · rw [hexR_none (hex_even he)]
    exact sParseHexE_s s hl he
  · match s, he with
    | x :: r, he =>
      by_cases h : x = 120
      · subst h
        exact sParseHexY_s r hl (by simp at he; omega)
      · rw [hexR_none (by simp only [parseHexF]; rw [if_neg h])]
        exact sParseHexX_s _ x hl (by omega) rfl h
theorem dig_shr (x : UInt8) : (0 : Int) ≤ (x.toNat : Int).fdiv (2 ^ min (Int.toNat 4) IntKind.u8.bits) ∧ digits[((x.toNat : Int).fdiv (2 ^ min (Int.toNat 4) IntKind.u8.bits)).toNat]? = some (hexD (x.toNat / 16)) := by
  have hx := x.toNat_lt
  rw [show (2 : Int) ^ min (Int.toNat 4) IntKind.u8.bits = 16 from by decide, Int.fdiv_eq_ediv_of_nonneg _ (by decide)]
  have e : ((x.toNat : Int) / 16).toNat = x.toNat / 16 := by omega
  rw [e]
  exact ⟨by omega, digits_at _ (by omega)⟩
theorem dig_and (x : UInt8) : (0 : Int) ≤ bits BinOp.and IntKind.u8 (x.toNat : Int) 15 ∧ digits[(bits BinOp.and IntKind.u8 (x.toNat : Int) 15).toNat]? = some (hexD (x.toNat % 16)) := by
  have hx := x.toNat_lt
  rw [and15 _ hx]
  exact ⟨by omega, digits_at _ (by omega)⟩
theorem sHex_s [Wd] (b : List UInt8) (hl : b.length ≤ 50000000) : FnP Tryz.prog 14 [.list 1 (b.map cByte)] (.str (hexF b)) := by
  refine mkS' false 25 [(5, ⟨[(0, false), (1, false), (2, false), (3, false), (4, false), (5, false), (6, false), (7, true), (8, true), (9, false)], [0]⟩)] Tryz.func14 rfl (by kernel_rfl) ?_
  repeat'
    (conv => arg 2; whnf)
    first
    | refine okAsk (by kernel_rfl) ?_
  refine okLoop (α := Nat × List (List D)) (fun a => ⟨[(9, .int .i64 a.1), (8, .int .i64 (b.map cByte).length), (7, .list 1 (b.map cByte)), (3, .row 0), (2, .str []), (0, .list 1 (b.map cByte))], [.row 5 1 a.2]⟩) (fun a => a.1 ≤ b.length ∧ a.2 = (hexP (b.take a.1)).map cByte) (fun a => b.length - a.1) (0, [[.int .u8 120]]) ⟨Nat.zero_le _, rfl⟩ (Sv.mk' [0] rfl ⟨⟨rfl, rfl⟩, trivial⟩ ⟨rfl, rfl, rfl, rfl, rfl, rfl, trivial⟩) ?_
  rintro ⟨q, xs⟩ ⟨hq, he⟩
  replace hq : q ≤ b.length := hq
  replace he : xs = (hexP (b.take q)).map cByte := he
  have hxl : xs.length ≤ 100000001 := by
    have := hexP_l (b.take q)
    have : (b.take q).length ≤ q := by rw [List.length_take]; omega
    rw [he, List.length_map]
    omega
  repeat'
    (conv => arg 2; whnf)
    first
    | refine okAsk (by decide) ?_
    | refine okAsk ⟨(by simp [maxLen]; omega), (by simp; omega)⟩ ?_
    | refine okAsk (by kernel_rfl) ?_
    | refine okBoth ?_ ?_
    | refine okBrT ?_
    | refine okBrF ?_
    | refine okBr (fun h => ?_) (fun h => ?_)
    | refine okNthMap (l := b) (by simp at h; omega) (fun x hx => ?_)
    | refine okByte _ (dig_shr x).1 (dig_shr x).2 ?_
    | refine okByte _ (dig_and x).1 (dig_and x).2 ?_
    | refine okWrap (w64 (by simp at h hq; omega) (by simp at h hq; omega)) ?_
    | refine okAgain (q + 1, xs ++ [[.int .u8 ((hexD (x.toNat / 16)).toNat : Int)], [.int .u8 ((hexD (x.toNat % 16)).toNat : Int)]]) (Sv.mk' [2] rfl ⟨⟨rfl, rfl⟩, trivial⟩ ⟨rfl, rfl, rfl, rfl, rfl, rfl, trivial⟩) ⟨by have := (List.getElem?_eq_some_iff.1 hx).1; show q + 1 ≤ b.length; omega, by show xs ++ _ = _; rw [hexP_at hx, he]⟩ (by have := (List.getElem?_eq_some_iff.1 hx).1; show b.length - (q + 1) < b.length - q; omega)
    | refine okOut ?_
    | refine okByts (hexF b) (by rw [he, show b.take q = b from List.take_of_length_le (by simp at h; omega)]; rfl) ?_
    | refine okAsk (hexZ hl) ?_
    | refine endFn0 (.inr rfl) rfl (.refl _) rfl
end Go.Proofs.YtafomdobfmmleaaGreatDoor

/- script.Print's plain function and its value at the laws' fixed script. -/
namespace Go.Proofs.YtafomdobfmmleaaGreatDoor
open Go.RowKit Go.Deep
set_option linter.unusedVariables false

open Classical in
/-- what script.Print answers -/
noncomputable def printP (s : ScriptD) : List UInt8 × Int :=
  if nameF s.setup.topic = false then ([], 1)
  else if 4096 < s.acts.length then ([], 3)
  else if ∀ a ∈ s.acts, lineOk a then (setupF s.setup ++ 10 :: s.acts.flatMap (fun a => lineF a ++ [10]), 0)
  else ([], 1)
def lvA : ActD := { zAct with kind := 6, who := 2, op := { zOp with kind := 1, topic := [116] } }
def lvC : ActD := { zAct with kind := 8, who := 3, num := -1 }
def lvR : ActD := { zAct with kind := 12 }
def lvU : SetupD := ⟨1, 0, 0, 65536, [116]⟩
def lvS : ScriptD := ⟨lvU, [lvA, lvC, lvR]⟩
def lvL : List UInt8 := "world 1 0 0 65536 t\nask 2 x010174\ncrash 3 -1\nround\n".toUTF8.data.toList
theorem lv_name : nameF [116] = true := by decide +kernel
theorem lv_op : opE lvA.op = 0 := by
  have := lv_name
  simp [opE, lvA, zAct, zOp, kindOk, sameOp, onlyF, lv_name]
theorem lv_enc1 : enc 1 = [1] := by rw [enc, dif_pos (by omega)]; rfl
theorem lv_okA : lineOk lvA := by
  refine ⟨⟨by simp [lvA], fun _ => lv_op, fun h => by simp [lvA] at h⟩, ?_⟩
  simp [keepF, lvA]
theorem lv_okC : lineOk lvC := by
  refine ⟨⟨by simp [lvC], fun h => by simp [lvC] at h, fun h => by simp [lvC] at h⟩, ?_⟩
  simp [keepF, lvC]
theorem lv_okR : lineOk lvR := by
  refine ⟨⟨by simp [lvR], fun h => by simp [lvR] at h, fun h => by simp [lvR] at h⟩, ?_⟩
  simp [keepF, lvR]
theorem lv_i0 : Lib.itoa 0 = [48] := by simp [Lib.itoa, Lib.decDigits]
theorem lv_i1 : Lib.itoa 1 = [49] := by simp [Lib.itoa, Lib.decDigits]
theorem lv_i2 : Lib.itoa 2 = [50] := by simp [Lib.itoa, Lib.decDigits]
theorem lv_i3 : Lib.itoa 3 = [51] := by simp [Lib.itoa, Lib.decDigits]
theorem lv_in : Lib.itoa (-1) = [45, 49] := by simp [Lib.itoa, Lib.decDigits]
theorem lv_ir : Lib.itoa 65536 = [54, 53, 53, 51, 54] := by simp [Lib.itoa, Lib.decDigits]
theorem lv_opB : opB lvA.op = [1, 1, 116] := by
  simp [opB, lvA, zAct, zOp, byF, lv_enc1]
theorem lv_lA : lineF lvA = [97, 115, 107, 32, 50, 32, 120, 48, 49, 48, 49, 55, 52] := by
  have h : keepW lvA = [kwN 6 false, [50], hexF [1, 1, 116]] := by
    unfold keepW argW
    rw [lv_opB]
    simp [lvA, zAct, lv_i2]
  unfold lineF
  rw [h]
  decide +kernel
theorem lv_lC : lineF lvC = [99, 114, 97, 115, 104, 32, 51, 32, 45, 49] := by
  have h : keepW lvC = [kwN 8 false, [51], [45, 49]] := by
    unfold keepW argW
    simp [lvC, zAct, lv_i3, lv_in]
  unfold lineF
  rw [h]
  decide +kernel
theorem lv_lR : lineF lvR = [114, 111, 117, 110, 100] := by
  have h : keepW lvR = [kwN 12 false] := by
    unfold keepW argW
    simp [lvR, zAct]
  unfold lineF
  rw [h]
  decide +kernel
theorem lv_setup : setupF lvU = [119, 111, 114, 108, 100, 32, 49, 32, 48, 32, 48, 32, 54, 53, 53, 51, 54, 32, 116] := by
  have h : setupW lvU = [wWorld, [49], [48], [48], [54, 53, 53, 51, 54], [116]] := by
    unfold setupW
    simp [lvU, lv_i0, lv_i1, lv_ir]
  unfold setupF
  rw [h]
  decide +kernel
theorem lv_print : printP lvS = (lvL, 0) := by
  have hl : lvL = setupF lvU ++ 10 :: [lvA, lvC, lvR].flatMap (fun a => lineF a ++ [10]) := by
    simp only [List.flatMap_cons, List.flatMap_nil]
    rw [lv_setup, lv_lA, lv_lC, lv_lR]
    decide +kernel
  rw [hl]
  unfold printP
  rw [if_neg (by simp [lvS, lvU, lv_name]), if_neg (by simp [lvS]), if_pos (by
    intro a ha
    simp only [lvS, List.mem_cons, List.not_mem_nil, or_false] at ha
    rcases ha with rfl | rfl | rfl
    · exact lv_okA
    · exact lv_okC
    · exact lv_okR)]
  rfl
end Go.Proofs.YtafomdobfmmleaaGreatDoor

/- script.Print: a script's text. -/
namespace Go.Proofs.YtafomdobfmmleaaGreatDoor
open Go.RowKit Go.Deep
set_option linter.unusedVariables false

theorem builder_later {T e : TypeId} {K b : Nat} {p : Value} {bs : List Value} {w w' : World} (h : Lib.BuilderAt T e K b p bs w) (hb : B w w') : Lib.BuilderAt T e K b p bs w' := by
  have hlt := h.lt
  obtain ⟨h1, v, h2, h3, h4⟩ := h
  exact ⟨h1, v, by rw [hb.block b hlt]; exact h2, row_later h3 hb, h4⟩
theorem isBuilder_later {T e : TypeId} {K b : Nat} {bs : List Value} {w w' : World} (h : Lib.IsBuilder T e K b bs w) (hb : B w w') : Lib.IsBuilder T e K b bs w' :=
  h.elim (fun h => .inl (builder_later h hb)) (fun h => .inr (builder_later h hb))
def outF (s : ScriptD) (k : Nat) : List UInt8 := setupF s.setup ++ 10 :: (s.acts.take k).flatMap (fun a => lineF a ++ [10])
theorem str10 (l : List UInt8) : Lib.strCells (bstr l ++ ⟨#[10]⟩) = Lib.byteCells (l ++ [10]) := by
  rw [Lib.strCells_eq, ByteArray.data_append]
  simp [bstr]
theorem outF_succ {s : ScriptD} {k : Nat} {x : ActD} (hx : s.acts[k]? = some x) : Lib.byteCells (outF s k) ++ Lib.strCells (bstr (lineF x) ++ ⟨#[10]⟩) = Lib.byteCells (outF s (k + 1)) := by
  rw [str10, ← Lib.byteCells_append]
  congr 1
  unfold outF
  rw [List.take_add_one, hx]
  simp
theorem outF_zero (s : ScriptD) : Lib.strCells (bstr (setupF s.setup) ++ ⟨#[10]⟩) = Lib.byteCells (outF s 0) := by
  rw [str10]
  simp [outF]
theorem outF_len {s : ScriptD} (K : Nat) (h0 : (setupF s.setup).length ≤ 30000000) : ∀ k, (∀ j a, j < k → s.acts[j]? = some a → (lineF a).length ≤ K) → (outF s k).length ≤ 30000001 + k * (K + 1)
  | 0, _ => by simp [outF]; omega
  | k + 1, h => by
    have h1 := outF_len K h0 k (fun j a hj => h j a (by omega))
    cases hx : s.acts[k]? with
    | none =>
      have : outF s (k + 1) = outF s k := by unfold outF; rw [List.take_add_one, hx]; simp
      rw [this, Nat.succ_mul]
      omega
    | some x =>
      have h2 := h k x (by omega) hx
      have : outF s (k + 1) = outF s k ++ (lineF x ++ [10]) := by unfold outF; rw [List.take_add_one, hx]; simp
      rw [this, Nat.succ_mul]
      simp
      omega
set_option maxRecDepth 20000 in
set_option maxHeartbeats 8000000 in
theorem printN_c {inn : Nat → Prop} {w : World} {cs : List Value} {s : ScriptD} (hT : TabW w) (h : tScript.rd inn w cs s) (hk : nameF s.setup.topic = false ∨ 4096 < s.acts.length) :
    Calls Tryz.prog 26 #[.agg cs.toArray] w fun r w' => r = .returned (.tuple #[.string (bstr (printP s).1), .int .i64 (printP s).2]) ∧ B w w' := by
  obtain ⟨c0, c1, rfl, h0, h1⟩ := h
  have HC := Lib.hid (fun w' (hb : B w w') => setup_c (hT.later hb) (tSetup.later h0 hb))
  obtain ⟨rfl, b1, b2, b3, b4, b5⟩ := tSetup.parts h0
  obtain ⟨A, c, rfl, hs⟩ := tL.slice h1
  have HS := Lib.hid (aBlk.new (St.nil w) 69 #[.int .i64 s.setup.f, .int .u16 s.setup.faulty, .int .u16 s.setup.liars, .int .i64 s.setup.room, .string (bstr s.setup.topic), .slice A s.acts.length c])
  have HP := Lib.hid (show printP s = if nameF s.setup.topic = false then ([], 1) else ([], 3) from by
    unfold printP
    split
    · rfl
    · rename_i hn
      rw [if_pos (by rcases hk with h | h; exact absurd h hn; exact h)])
  rw [HP.out]
  obtain ⟨n, hn⟩ : ∃ n, nameF s.setup.topic = n := ⟨_, rfl⟩
  rw [hn] at hk ⊢
  rw [hn] at HC
  clear hn HP h0 h1
  cases n with
  | false =>
    clear hk
    go_enter Tryz.func26, Tryz.ntmps26
    go_wp2_with (first | (go_at_call 8; (with_reducible refine callsM (HC.out _ HS.out.b) ?_); rintro r w1 ⟨hr, hb⟩; replace HS := Lib.hid (HS.out.on.later hb); clear hb; simp only [Bool.false_eq_true, if_false] at hr; subst hr) | fail)
    go_ret2
    exact ⟨rfl, HS.out.b⟩
  | true =>
    have hl : 4096 < s.acts.length := by simpa using hk
    clear hk
    have KG := (aBlk.get HS.out).cell
    go_enter Tryz.func26, Tryz.ntmps26
    go_wp2_with (first | (go_at_call 8; (with_reducible refine callsM (HC.out _ HS.out.b) ?_); rintro r w1 ⟨hr, hb⟩; replace HS := Lib.hid (HS.out.on.later hb); clear hb; simp only [if_true] at hr; subst hr; replace KG := (aBlk.get HS.out).cell) | fail)
    go_ret2
    exact ⟨rfl, HS.out.b⟩
end Go.Proofs.YtafomdobfmmleaaGreatDoor

/- script.Print: the text. -/
namespace Go.Proofs.YtafomdobfmmleaaGreatDoor
open Go.RowKit Go.Deep
set_option linter.unusedVariables false

theorem lineYes {w : World} {x : ActD} {r : Ending} {w' : World} (hk : lineOk x) (h : LinePost w x r w') : r = .returned (.tuple #[.string (bstr (lineF x)), .int .i64 0]) ∧ B w w' := by
  obtain ⟨h1, h2⟩ := h
  exact ⟨by rw [h1, if_pos hk], h2⟩
theorem lineNo {w : World} {x : ActD} {r : Ending} {w' : World} (hk : ¬ lineOk x) (h : LinePost w x r w') : r = .returned (.tuple #[.string ⟨#[]⟩, .int .i64 1]) ∧ B w w' := by
  obtain ⟨h1, h2⟩ := h
  exact ⟨by rw [h1, if_neg hk], h2⟩
theorem bstr10_size (l : List UInt8) : (bstr l ++ ⟨#[10]⟩).size = l.length + 1 := by
  rw [ByteArray.size_append]
  simp [bstr, ByteArray.size]
theorem write_c {K b : Nat} {bs : List Value} {s : ByteArray} {w : World} (h : Lib.IsBuilder 114 5 K b bs w) (hlen : bs.length + s.size ≤ 140737488355328) (hK : K ≤ w.heap.size) :
    Calls Tryz.prog 57 #[.pointer (some ⟨b, 0, none⟩), .string s] w fun e w' => e = .returned (.tuple #[.int .i64 s.size, .nilIface]) ∧ (Lib.BuilderAt 114 5 K b (.pointer (some ⟨b, 0, none⟩)) (bs ++ Lib.strCells s) w' ∧ Below K w w') :=
  Any.Builder_WriteString { Tryz.lays156 with } Tryz.Builder_Extra_156 K b bs s w h hlen hK
theorem string_c {K b : Nat} {l : List UInt8} {w : World} (h : Lib.IsBuilder 114 5 K b (Lib.byteCells l) w) (h0 : l ≠ []) :
    Calls Tryz.prog 58 #[.pointer (some ⟨b, 0, none⟩)] w fun e w' => e = .returned (.string ⟨l.toArray⟩) ∧ Below K w w' :=
  Tryz.Builder_String K b l w h h0
open Classical in
theorem printP_no {s : ScriptD} {x : ActD} {q : Nat} (hk : nameF s.setup.topic = true) (hl : s.acts.length ≤ 4096) (hx : s.acts[q]? = some x) (hy : ¬ lineOk x) : printP s = ([], 1) := by
  unfold printP
  rw [if_neg (by simp [hk]), if_neg (by omega), if_neg (fun h => hy (h x (List.mem_of_getElem? hx)))]
open Classical in
theorem printP_yes {s : ScriptD} (hk : nameF s.setup.topic = true) (hl : s.acts.length ≤ 4096) (h : ∀ j a, j < s.acts.length → s.acts[j]? = some a → lineOk a) : printP s = (outF s s.acts.length, 0) := by
  unfold printP
  rw [if_neg (by simp [hk]), if_neg (by omega), if_pos (by
    intro a ha
    obtain ⟨j, hj⟩ := List.getElem?_of_mem ha
    exact h j a (List.getElem?_eq_some_iff.1 hj).1 hj)]
  unfold outF
  rw [List.take_length]
/-- an act stored into a fresh box of its own -/
theorem storeNew {ops : Array Oper} {Q : Exit → Act → World → Prop} {rest : List Oper} {op : Oper} {a : Act} {wr : World} {Z C : Array Value} {tx ty : Tmp} (hgd : op.guard = none) (ho : op.op = .store 61 (.tmp tx) (.tmp ty)) (hz : Z.size = 40) (hC : C.size = 40) (h1 : C.all (·.oneCell') = true)
    (hx : a.eval (.tmp tx) = .pointer (some ⟨wr.heap.size, 0, none⟩)) (hy : a.eval (.tmp ty) = .agg C) (h : ∀ w3, St wr w3 [aBlk wr.heap.size 61 C] → wpList Tryz.prog ops Q rest (a.put op.dst undef) w3) : wpList Tryz.prog ops Q (op :: rest) a (wr.alloc (.cells Z 61)) := by
  have hS := aBlk.new (St.nil wr) 61 Z
  exact wpList_store_mid hgd 61 (.tmp tx) (.tmp ty) ho wr.heap.size 0 C hx hy (there_of hS 0 _ (by omega)) (by rw [hC]; exact aInfo) h1 (h _ (aBlk.setAll hS (by omega)))
set_option maxRecDepth 20000 in
set_option maxHeartbeats 16000000 in
theorem printY_c {inn : Nat → Prop} {w : World} {cs : List Value} {s : ScriptD} (hT : TabW w) (h : tScript.rd inn w cs s) (hk : nameF s.setup.topic = true) (hl : s.acts.length ≤ 4096) :
    Calls Tryz.prog 26 #[.agg cs.toArray] w fun r w' => r = .returned (.tuple #[.string (bstr (printP s).1), .int .i64 (printP s).2]) ∧ B w w' := by
  obtain ⟨c0, c1, rfl, h0, h1⟩ := h
  have HC := Lib.hid (fun w' (hb : B w w') => setup_c (hT.later hb) (tSetup.later h0 hb))
  have HL0 := Lib.hid (setupF_len h0)
  obtain ⟨rfl, b1, b2, b3, b4, b5⟩ := tSetup.parts h0
  obtain ⟨A, c, rfl, hs⟩ := tL.slice h1
  have HS := Lib.hid (aBlk.new (St.nil w) 69 #[.int .i64 s.setup.f, .int .u16 s.setup.faulty, .int .u16 s.setup.liars, .int .i64 s.setup.room, .string (bstr s.setup.topic), .slice A s.acts.length c])
  have HK := Lib.hid hk
  have HT := Lib.hid hT
  have HR := Lib.hid h1
  obtain ⟨n, hn⟩ : ∃ n, s.acts.length = n := ⟨_, rfl⟩
  have HN := Lib.hid hn
  obtain ⟨T0, hT0⟩ : ∃ z, setupF s.setup = z := ⟨_, rfl⟩
  have HT0 := Lib.hid hT0
  rw [hn] at hl HS ⊢
  rw [hk, hT0] at HC
  clear hk hT h0 h1 hs hn hT0
  have HLn := Lib.hid (show ([] : List Value).length + (bstr T0 ++ ⟨#[10]⟩).size ≤ 140737488355328 from by have := HL0.out; rw [HT0.out] at this; rw [bstr10_size]; simp; omega)
  have hcat : ¬ 9223372036854775807 < (bstr T0).size + 1 := by have := HL0.out; rw [HT0.out] at this; simp [bstr, ByteArray.size]; omega
  have HLen := Lib.hid (show ∀ j a, s.acts[j]? = some a → lineOk a → (lineF a).length ≤ 33554448 from fun j a hj ho => by
    obtain ⟨_, ba, oa, ca, rfl, r1, k1⟩ := tL.at HR.out hj
    exact lineF_len r1 ho.1)
  have hln : (n : Int) ≤ 4096 := by omega
  have KG := (aBlk.get HS.out).cell
  go_enter Tryz.func26, Tryz.ntmps26
  go_wp2_with (first
    | (go_at_call 8; (with_reducible refine callsM (HC.out _ HS.out.b) ?_); rintro r w1 ⟨hr, hb⟩; replace HS := Lib.hid (HS.out.on.later hb); clear hb; simp only [if_true] at hr; subst hr; replace KG := (aBlk.get HS.out).cell; have HBW := Lib.hid HS.out.b; have HF := Lib.hid (Lib.fresh_isBuilder 114 5 w1); have HLw := Lib.hid (show w1.heap.size ≤ (w1.alloc (.cells #[.pointer none, .slice none 0 0] 114)).heap.size from by simp))
    | (go_at_call 57; ((with_reducible refine callsM (write_c HF.out HLn.out HLw.out) ?_); rintro r w2 ⟨rfl, hB, hb⟩; replace HS := Lib.hid (HS.out.later (show B w1 w2 from Below.trans ((Below.refl w1.heap.size w1).alloc (Nat.le_refl _) _) hb)); replace KG := (aBlk.get HS.out).cell; replace HF := Lib.hid hB; clear hb hB HLn))
    | fail)
  have HF2 := Lib.hid (show Lib.IsBuilder 114 5 w1.heap.size w1.heap.size (Lib.byteCells (outF s 0)) w2 from by
    have h := HF.out
    rw [List.nil_append, ← HT0.out, outF_zero] at h
    exact .inr h)
  have HB2 := Lib.hid HS.out.b
  have HB1 := Lib.hid (show w.heap.size ≤ w1.heap.size from HBW.out.size)
  have HB3 := Lib.hid (show w1.heap.size ≤ w2.heap.size from Nat.le_of_lt HF.out.lt)
  clear HF KG HS HLw HC
  go_loopw [30] (fun i wr => ∃ q : Nat, q ≤ n ∧ i = .int .i64 q ∧ Hid (∀ j a, j < q → s.acts[j]? = some a → lineOk a) ∧ Hid (B w wr ∧ w1.heap.size ≤ wr.heap.size ∧ Lib.IsBuilder 114 5 w1.heap.size w1.heap.size (Lib.byteCells (outF s q)) wr)) (fun i _ => n - (intOf i).toNat)
  case atStart => exact ⟨0, Nat.zero_le _, rfl, fun j a h => by omega, HB2.out, HB3.out, HF2.out⟩
  case round =>
    obtain ⟨q, hq, rfl, HP, HW⟩ := hrel
    by_cases hlt : q < n
    · obtain ⟨x, hx⟩ : ∃ x, s.acts[q]? = some x := ⟨_, List.getElem?_eq_getElem (by have := HN.out; omega)⟩
      obtain ⟨_, ba, oa, ca, rfl, r1, k1⟩ := tL.at HR.out hx
      have hn1 : ca.length = 40 := tAct.len r1
      simp only [show tAct.n = 40 from rfl] at k1
      have HRG := Lib.hid (show wr.rangeAt ba (oa + q * 40) ca from fun j v hv => B.cell HW.out.1 (k1 j v hv))
      have HI := Lib.hid (show (Tryz.prog.info? 61).map (·.size) = some ca.length from by rw [hn1]; exact aInfo)
      have HLC := Lib.hid (fun w' (hb : B w w') => line_c (HT.out.later hb) (tAct.later r1 hb))
      obtain ⟨C, hC⟩ : ∃ C, ca.toArray = C := ⟨_, rfl⟩
      have HCC := Lib.hid (show C.size = 40 ∧ C.all (·.oneCell') = true from by rw [← hC]; exact tAct.one r1)
      have HIC := Lib.hid (show (Tryz.prog.info? 61).map (·.size) = some C.size from by rw [HCC.out.1]; exact aInfo)
      have HX := Lib.hid hx
      have HNew := Lib.hid (fun Z : Array Value => aBlk.new (St.nil wr) 61 Z)
      rw [hC] at HLC
      have HCE := Lib.hid hC
      clear k1 r1 hx hC hn1
      by_cases hy : lineOk x
      · have HY := Lib.hid hy
        have hxl := HLen.out q x HX.out hy
        have hcat2 : ¬ 9223372036854775807 < (bstr (lineF x)).size + 1 := by simp [bstr, ByteArray.size]; omega
        have HLQ := Lib.hid (show (Lib.byteCells (outF s q)).length + (bstr (lineF x) ++ ⟨#[10]⟩).size ≤ 140737488355328 from by
          have h := outF_len 33554448 HL0.out q (fun j a hj ha => HLen.out j a ha (HP.out j a hj ha))
          rw [Lib.byteCells_length, bstr10_size]
          omega)
        clear hy hxl
        go_wp2_with (first
          | (refine wpList_load_mid rfl 61 (.tmp 32) rfl ba (oa + q * 40) rfl ca _ HRG.out Tryz.underlying61 rfl HI.out ?_; rw [HCE.out])
          | (refine storeNew (C := C) rfl rfl rfl HCC.out.1 HCC.out.2 rfl rfl (fun w3 hS3 => ?_); have HS3 := Lib.hid hS3; clear hS3; have HG3 := Lib.hid (aBlk.get HS3.out))
          | (refine wpList_load_row rfl 61 (.tmp 8) rfl wr.heap.size rfl 61 C (0, 0) _ HG3.out Tryz.underlying61 rfl HIC.out ?_)
          | (go_at_call 17; (with_reducible refine callsM (HLC.out _ (HW.out.1.trans HS3.out.b)) ?_); rintro r w4 hr; obtain ⟨rfl, hb⟩ := lineYes HY.out hr; clear hr; have HB4 := Lib.hid (show B wr w4 from HS3.out.b.trans hb); clear hb)
          | (go_at_call 57; (with_reducible refine callsM (write_c (isBuilder_later HW.out.2.2 HB4.out) HLQ.out (Nat.le_trans HW.out.2.1 HB4.out.size)) ?_); rintro r w5 ⟨rfl, hB, hb⟩)
          | fail)
        have HE := Lib.hid (Below.trans (HW.out.1.trans HB4.out) (Below.mono hb HB1.out))
        have hP := HP.out
        refine ⟨⟨q + 1, by omega, by push_cast; rfl, fun j a hj ha => ?_, HE.out, Nat.le_trans (Nat.le_trans HW.out.2.1 HB4.out.size) hb.size, .inr (by rw [← outF_succ HX.out]; exact hB)⟩, by simp [intOf]; omega⟩
        by_cases hjq : j = q
        · subst hjq
          have := HX.out
          rw [ha] at this
          injection this with this
          rw [this]
          exact HY.out
        · exact hP j a (by omega) ha
      · have HY := Lib.hid hy
        have HQ := Lib.hid (printP_no HK.out (by have := HN.out; omega) HX.out hy)
        clear hy
        go_wp2_with (first
          | (refine wpList_load_mid rfl 61 (.tmp 32) rfl ba (oa + q * 40) rfl ca _ HRG.out Tryz.underlying61 rfl HI.out ?_; rw [HCE.out])
          | (refine storeNew (C := C) rfl rfl rfl HCC.out.1 HCC.out.2 rfl rfl (fun w3 hS3 => ?_); have HS3 := Lib.hid hS3; clear hS3; have HG3 := Lib.hid (aBlk.get HS3.out))
          | (refine wpList_load_row rfl 61 (.tmp 8) rfl wr.heap.size rfl 61 C (0, 0) _ HG3.out Tryz.underlying61 rfl HIC.out ?_)
          | (go_at_call 17; (with_reducible refine callsM (HLC.out _ (HW.out.1.trans HS3.out.b)) ?_); rintro r w4 hr; obtain ⟨rfl, hb⟩ := lineNo HY.out hr; clear hr; have HB4 := Lib.hid (show B wr w4 from HS3.out.b.trans hb); clear hb)
          | fail)
        go_ret2
        rw [HQ.out]
        exact ⟨rfl, HW.out.1.trans HB4.out⟩
    · have hqn : q = n := by omega
      subst hqn
      have HQ := Lib.hid (printP_yes HK.out (by have := HN.out; omega) (fun j a hj ha => HP.out j a (by have := HN.out; omega) ha))
      have HO := Lib.hid (show outF s q ≠ [] from by simp [outF])
      go_wp2_with (first
        | (go_at_call 58; (with_reducible refine callsM (string_c HW.out.2.2 HO.out) ?_); rintro r w4 ⟨rfl, hb⟩)
        | fail)
      go_ret2
      rw [HQ.out, HN.out]
      exact ⟨rfl, Below.trans HW.out.1 (Below.mono hb HB1.out)⟩
theorem print_c {inn : Nat → Prop} {w : World} {cs : List Value} {s : ScriptD} (hT : TabW w) (h : tScript.rd inn w cs s) :
    Calls Tryz.prog 26 #[.agg cs.toArray] w fun r w' => r = .returned (.tuple #[.string (bstr (printP s).1), .int .i64 (printP s).2]) ∧ B w w' := by
  cases hk : nameF s.setup.topic with
  | false => exact printN_c hT h (.inl hk)
  | true =>
    by_cases hl : s.acts.length ≤ 4096
    · exact printY_c hT h hk hl
    · exact printN_c hT h (.inr (by omega))
end Go.Proofs.YtafomdobfmmleaaGreatDoor

/- bullalaw27.live: the fixed script prints as it should. -/
namespace Go.Proofs.YtafomdobfmmleaaGreatDoor
open Go.RowKit Go.Deep
set_option linter.unusedVariables false

def lvO : List Value := [.int .i64 1, .string (bstr [116]), .string ⟨#[]⟩, .int .i64 0, .slice none 0 0]
def lvC1 : List Value := actC 6 2 0 lvO (.slice none 0 0) zMsgC false
def lvC2 : List Value := actC 8 3 (-1) zOpC (.slice none 0 0) zMsgC false
def lvC3 : List Value := actC 12 0 0 zOpC (.slice none 0 0) zMsgC false
theorem lvO_rd (inn : Nat → Prop) (w : World) : tOp.rd inn w lvO lvA.op :=
  tOp.mk (s := lvA.op) (by simp [lvA, zOp, zAct]) (by simp [lvA, zOp, zAct]) (by simp [lvA, zOp, zAct]) (by simp [lvA, zOp, zAct]) (tL.nil _ _ _)
theorem lv1_rd (inn : Nat → Prop) (w : World) : tAct.rd inn w lvC1 lvA :=
  tAct.mk' (s := lvA) (by simp [lvA]) (by simp [lvA]) (by simp [lvA, zAct]) (lvO_rd _ _) (tY.nil _ _) (zMsg_rd _ _)
theorem lv2_rd (inn : Nat → Prop) (w : World) : tAct.rd inn w lvC2 lvC :=
  tAct.mk' (s := lvC) (by simp [lvC]) (by simp [lvC]) (by simp [lvC]) (zOp_rd _ _) (tY.nil _ _) (zMsg_rd _ _)
theorem lv3_rd (inn : Nat → Prop) (w : World) : tAct.rd inn w lvC3 lvR :=
  tAct.mk' (s := lvR) (by simp [lvR]) (by simp [lvR, zAct]) (by simp [lvR, zAct]) (zOp_rd _ _) (tY.nil _ _) (zMsg_rd _ _)
theorem lv_at {w : World} {g o : Nat} {Z : Array Value} {t : TypeId} {a c d : List Value} (hb : Blk w g t Z) (hz : Z.toList = a ++ c ++ d) (ho : a.length = o) : ∀ j v, c[j]? = some v → w.cell? ⟨g, o + j, none⟩ = some v := by
  intro j v hv
  have hl : j < c.length := (List.getElem?_eq_some_iff.1 hv).1
  rw [hb.cell, ← Array.getElem?_toList, hz, List.append_assoc, List.getElem?_append_right (by omega), List.getElem?_append_left (by omega)]
  rw [show o + j - a.length = j by omega]
  exact hv
theorem liveP {w : World} (hT : TabW w) {Z : Array Value} (hz : Z.toList = lvC1 ++ lvC2 ++ lvC3) :
    Calls Tryz.prog 26 #[.agg #[.int .i64 1, .int .u16 0, .int .u16 0, .int .i64 65536, .string ⟨#[116]⟩, .slice (some ⟨w.heap.size, 0, none⟩) 3 3]] (w.alloc (.cells Z 61)) fun r w' => r = .returned (.tuple #[.string (bstr lvL), .int .i64 0]) ∧ B w w' := by
  have hb : Blk (w.alloc (.cells Z 61)) w.heap.size 61 Z := aBlk.get (aBlk.new (St.nil w) 61 Z)
  have hB : B w (w.alloc (.cells Z 61)) := B.alloc' _ _
  have l1 : lvC1.length = 40 := rfl
  have l2 : lvC2.length = 40 := rfl
  have l3 : lvC3.length = 40 := rfl
  have h : (tL tAct).rd (fun _ => True) (w.alloc (.cells Z 61)) [.slice (some ⟨w.heap.size, 0, none⟩) 3 3] lvS.acts := by
    refine ⟨some ⟨w.heap.size, 0, none⟩, 3, rfl, by simp [lvS], by unfold maxLen; omega, by simp, by simp [lvS], fun _ => ⟨w.heap.size, 0, rfl, by simp, trivial, ?_⟩⟩
    intro i x hx
    rcases i with _ | _ | _ | i
    · simp only [lvS, List.getElem?_cons_zero, Option.some.injEq] at hx
      subst hx
      exact ⟨lvC1, lv1_rd _ _, lv_at (o := 0) (a := []) (d := lvC2 ++ lvC3) hb (by rw [hz]; simp) rfl⟩
    · simp only [lvS, List.getElem?_cons_zero, List.getElem?_cons_succ, Option.some.injEq] at hx
      subst hx
      exact ⟨lvC2, lv2_rd _ _, lv_at (o := 40) (a := lvC1) (d := lvC3) hb hz l1⟩
    · simp only [lvS, List.getElem?_cons_zero, List.getElem?_cons_succ, Option.some.injEq] at hx
      subst hx
      exact ⟨lvC3, lv3_rd _ _, lv_at (o := 80) (a := lvC1 ++ lvC2) (d := []) hb (by rw [hz]; simp) (by rw [List.length_append, l1, l2])⟩
    · simp [lvS] at hx
  have hS := tScript.mk (s := lvS) (by simp [lvS, lvU]) (by simp [lvS, lvU]) (by simp [lvS, lvU]) (by simp [lvS, lvU]) (by simp [lvS, lvU]) h
  refine (print_c (hT.later hB) hS).mono fun r w' hr => ?_
  obtain ⟨rfl, hb'⟩ := hr
  rw [lv_print]
  exact ⟨rfl, hB.trans hb'⟩
set_option maxRecDepth 20000 in
set_option maxHeartbeats 8000000 in
theorem live_c {w : World} (hT : TabW w) : Calls Tryz.prog 7 #[] w fun r w' => r = .returned (.bool true) ∧ B w w' := by
  have HP := Lib.hid (fun (Z : Array Value) hz => liveP hT (Z := Z) hz)
  have hlv : bstr lvL = ⟨#[119, 111, 114, 108, 100, 32, 49, 32, 48, 32, 48, 32, 54, 53, 53, 51, 54, 32, 116, 10, 97, 115, 107, 32, 50, 32, 120, 48, 49, 48, 49, 55, 52, 10, 99, 114, 97, 115, 104, 32, 51, 32, 45, 49, 10, 114, 111, 117, 110, 100, 10]⟩ := by decide +kernel
  rw [hlv] at HP
  clear hT
  go_enter Tryz.func7, Tryz.ntmps7
  go_wp2_with (first | (go_at_call 26; (refine callsM (HP.out _ rfl) ?_); rintro r w1 ⟨rfl, hb⟩) | fail)
  go_ret
  exact ⟨rfl, hb⟩
end Go.Proofs.YtafomdobfmmleaaGreatDoor

/- bullalaw27.ScriptSetups, over data. -/
namespace Go.Proofs.YtafomdobfmmleaaGreatDoor
open Go.RowKit
set_option linter.unusedVariables false
set_option maxRecDepth 20000
attribute [local instance] scrWd0

theorem FnP.co {f : FuncId} {ar : List D} {r r' : D} (hF : FnP Tryz.prog f ar r) (h : Co r r') : FnP Tryz.prog f ar r' := by
  refine ⟨hF.1, fun w I g vs hW hd hv => (hF.2 w I g vs hW hd hv).mono ?_⟩
  rintro e w' (⟨v, I', g', r0, h0, e1, ⟨rfl, e3⟩, e4, e5, e6⟩ | hp)
  · exact .inl ⟨v, I', g', r', h0, e1, ⟨rfl, e3⟩, e4, h.ok e5, e6⟩
  · exact .inr hp
theorem pairs_len : ∀ (n : Nat) (r bs : List UInt8), r.length ≤ n → pairsF r = some bs → bs.length ≤ r.length
  | _, [], bs, _, h => by simp [pairsF] at h; subst h; simp
  | _, [_], bs, _, h => by simp [pairsF] at h
  | 0, x :: y :: r, bs, hn, h => by simp at hn
  | n + 1, x :: y :: r, bs, hn, h => by
    simp only [pairsF] at h
    split at h
    · rw [Option.map_eq_some_iff] at h
      obtain ⟨c, hc, rfl⟩ := h
      have := pairs_len n r c (by simp at hn; omega) hc
      simp; omega
    · cases h
theorem hex_len {s bs : List UInt8} (h : parseHexF s = some bs) : bs.length ≤ s.length := by
  cases s with
  | nil => cases h
  | cons x r =>
    simp only [parseHexF] at h
    split at h
    · have := pairs_len _ r bs (Nat.le_refl _) h
      simp; omega
    · cases h
theorem hex_both (s : List UInt8) (hl : s.length ≤ 4194304) : ∃ (bs : List UInt8) (b : Bool), bs.length ≤ 4194304 ∧ FnP Tryz.prog 12 [.str s] (.tup [.list 1 (bs.map cByte), .bool b]) ∧ FnP Tryz.prog 13 [.str s] (.tup [.list 1 (bs.map cByte), .bool b]) := by
  have h1 := sParseHex_s s hl
  have h2 := rParseHex_s s hl
  cases h : parseHexF s with
  | none =>
    rw [hexR_none h] at h1 h2
    exact ⟨[], false, by simp, h1.co (co_nil2 _), h2.co (co_nil2 _)⟩
  | some bs =>
    rw [hexR_some h] at h1 h2
    exact ⟨bs, true, Nat.le_trans (hex_len h) hl, h1, h2⟩
theorem line_both (s : SetupD) (hs : dSetup.ok s) : ∃ (x : List UInt8) (e : Int), FnP Tryz.prog 8 [.agg (cSetup s)] (.tup [.str x, .int .i64 e]) ∧ FnP Tryz.prog 9 [.agg (cSetup s)] (.tup [.str x, .int .i64 e]) := by
  cases h : nameF s.topic with
  | true => exact ⟨_, _, sSetupY_s s hs h, rSetupY_s rNum_ok s hs h⟩
  | false => exact ⟨_, _, sSetupN_s s hs h, rSetupN_s rNum_ok s hs h⟩
theorem parse_both (line : List UInt8) (hl : line.length ≤ 4194304) : ∃ (p : SetupD) (b : Bool), FnP Tryz.prog 10 [.str line] (.tup [.agg (cSetup p), .bool b]) ∧ FnP Tryz.prog 11 [.str line] (.tup [.agg (cSetup p), .bool b]) := by
  by_cases h : ∃ s, setupOk line s
  · obtain ⟨s, hs⟩ := h
    exact ⟨s, true, pSetupY_s line hl s hs, rpSetupY_s rNum_ok line hl s hs⟩
  · exact ⟨zSetup, false, pSetupN_s line hl h, rpSetupN_s rNum_ok line hl h⟩
theorem live_s : FnP Tryz.prog 7 [] (.bool true) := FnS.oldW (v := .bool true) (fun _ _ => .bool true) (by kernel_rfl) (fun w I vs hW hi hd => by
  have : vs = [] := List.eq_nil_of_length_eq_zero hd.1
  subst this
  exact live_c (hW.tab hi)) rfl
theorem setups_s (s : SetupD) (hs : dSetup.ok s) (line b : List UInt8) (hl : line.length ≤ 4194304) (hb : b.length ≤ 4194304) : FnP Tryz.prog 3 [.agg (cSetup s), .str line, .list 1 (b.map cByte)] (.bool true) := by
  obtain ⟨x, e, k1, k2⟩ := line_both s hs
  obtain ⟨p, o, k3, k4⟩ := parse_both line hl
  obtain ⟨c, t, hc, k5, k6⟩ := hex_both line hl
  have k7 := sHex_s b (by omega)
  have k8 := rHex_s b (by omega)
  have k9 := bEq_s c c hc hc
  refine mkS 86 [] Tryz.func3 rfl (by kernel_rfl) ?_
  repeat'
    (conv => arg 2; whnf)
    first
    | (exfalso; simp [eqB] at h; done)
    | refine okFn live_s rfl (Cos.refl _) ?_
    | refine okFn k1 rfl (Cos.refl _) ?_
    | refine okFn k2 rfl (Cos.refl _) ?_
    | refine okFn k3 rfl (Cos.refl _) ?_
    | refine okFn k4 rfl (Cos.refl _) ?_
    | refine okFn k5 rfl (Cos.refl _) ?_
    | refine okFn k6 rfl (Cos.refl _) ?_
    | refine okFn k7 rfl (Cos.refl _) ?_
    | refine okFn k8 rfl (Cos.refl _) ?_
    | refine okFn k9 rfl (Cos.refl _) ?_
    | refine okBrT ?_
    | refine okBrF ?_
    | (refine endBool (.inr rfl) rfl ?_; simp []; done)
    | refine okBr (fun h => ?_) (fun h => ?_)
end Go.Proofs.YtafomdobfmmleaaGreatDoor
