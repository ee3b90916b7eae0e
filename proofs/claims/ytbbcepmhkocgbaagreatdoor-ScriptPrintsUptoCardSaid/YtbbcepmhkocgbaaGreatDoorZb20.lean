/- Lemmas and contracts, part 20. -/
import Derived.Test.YtbbcepmhkocgbaaGreatDoorZb19
import Derived.Lib.ItoaLen
import Derived.Deep.Light
import Derived.Deep.QuietTactic
import Derived.BigQuiet
import Derived.Deep.RegionLaw
/- script.Line: an act's line (printed by gen_uc.py). -/
namespace Go.Proofs.YtbbcepmhkocgbaaGreatDoor
open Go.RowKit Go.Deep
set_option linter.unusedVariables false

theorem newRow (w1 : World) (U : Array Value) : B w1 ((w1.alloc (.cells #[.int .i64 0, .int .i64 0, .int .i64 0, .int .i64 0, .string ⟨#[]⟩, .string ⟨#[]⟩, .int .i64 0, .slice none 0 0, .slice none 0 0, .int .i64 0, .int .i64 0, .int .i64 0, .int .i64 0, .int .i64 0, .int .i64 0, .int .i64 0, .int .i64 0, .int .i64 0, .slice none 0 0, .int .i64 0, .int .i64 0, .slice none 0 0, .slice none 0 0, .slice none 0 0, .slice none 0 0, .string ⟨#[]⟩, .int .i64 0, .string ⟨#[]⟩, .int .i64 0, .slice none 0 0, .slice none 0 0, .int .i64 0, .int .i64 0, .slice none 0 0, .int .i64 0, .int .i64 0, .slice none 0 0, .int .i64 0, .int .i64 0, .bool false] 58)).setRow w1.heap.size U) := setRow_B (t := 58) (cs := #[]) (B.alloc' w1 _) (Nat.le_refl _) U
theorem joinF_len (M : Nat) : ∀ l : List (List UInt8), (∀ y ∈ l, y.length ≤ M) → (joinF l).length ≤ l.length * (M + 1)
  | [], _ => by simp [joinF]
  | [x], h => by have := h x (by simp); simp [joinF]; omega
  | x :: y :: r, h => by
    have h1 := h x (by simp)
    have h2 := joinF_len M (y :: r) (fun z hz => h z (by simp [hz]))
    simp only [joinF, List.length_append, List.length_cons] at h2 ⊢
    rw [Nat.add_mul (r.length + 1) 1, Nat.one_mul]
    omega
theorem kwN_len (n : Nat) (s : Bool) : (kwN n s).length ≤ 10 := by
  unfold kwN
  split
  all_goals first
    | (simp [wDeliver, wDrop, wDouble, wTick, wClock, wAsk, wRead, wCrash, wStart, wHash, wRound]; done)
    | (cases s <;> simp [wSend, wSeal])
theorem keepW_len {inn : Nat → Prop} {w : World} {cs : List Value} {x : ActD} (hx : tAct.rd inn w cs x) (hk : keepOk x) : (∀ y ∈ keepW x, y.length ≤ 8388610) ∧ (keepW x).length ≤ 4 := by
  obtain ⟨oc, b, mc, rfl, ⟨b1, b2, b3⟩, ho, hb, hm⟩ := tAct.open' hx
  obtain ⟨hr, h6, h11⟩ := hk
  have i1 := Lib.itoa_length_le x.who b2.1 b2.2
  have i2 := Lib.itoa_length_le x.num b3.1 b3.2
  have hy := tY.le hb
  unfold keepW
  constructor
  · intro y hy'
    rcases List.mem_cons.1 hy' with rfl | hy'
    · have := kwN_len x.kind.toNat x.sealed; omega
    · unfold argW at hy'
      split at hy'
      · simp at hy'; subst hy'; omega
      split at hy'
      · simp at hy'; subst hy'; omega
      split at hy'
      · rename_i k6
        simp at hy'
        rcases hy' with rfl | rfl
        · omega
        · exact hexF_len _ 0 (by have := opB_short (h6 k6); omega)
      split at hy'
      · simp at hy'; rcases hy' with rfl | rfl <;> omega
      split at hy'
      · simp at hy'; subst hy'; exact hexF_len _ 0 hy
      split at hy'
      · rename_i k11
        have hw := h11 k11
        have hu := unsB_len (msgE_kind (checkE_msg hw.1.1))
        rw [unsB_withS] at hu
        have ob := ownS_b hm
        simp [msgW, signW] at hy'
        rcases hy' with rfl | rfl | rfl
        · omega
        · exact hexF_len _ 0 (by omega)
        · have e1 := encLe10 (ownS x.msg).key.toNat (by omega)
          have e2 := encLe10 (ownS x.msg).digest.toNat (by omega)
          exact hexF_len _ 0 (by rw [List.length_append]; omega)
      · simp at hy'
  · unfold argW
    repeat' split
    all_goals simp [msgW]
theorem lineF_len {inn : Nat → Prop} {w : World} {cs : List Value} {x : ActD} (hx : tAct.rd inn w cs x) (hk : keepOk x) : (lineF x).length ≤ 33554448 := by
  obtain ⟨h1, h2⟩ := keepW_len hx hk
  have := joinF_len 8388610 (keepW x) h1
  have h3 : (keepW x).length * (8388610 + 1) ≤ 4 * (8388610 + 1) := Nat.mul_le_mul_right _ h2
  unfold lineF
  omega
set_option maxRecDepth 20000 in
set_option maxHeartbeats 8000000 in
theorem lineN_c {inn : Nat → Prop} {w : World} {cs : List Value} {x : ActD} (hT : TabW w) (hx : tAct.rd inn w cs x) (hk : ¬ keepOk x) :
    Calls Tryz.prog 8 #[.agg cs.toArray] w fun r w' => r = .returned (.tuple #[.string ⟨#[]⟩, .int .i64 1]) ∧ B w w' := by
  have hn := (tAct.one hx).1
  have HT := Lib.hid hT
  have HX := Lib.hid hx
  obtain ⟨A, hA⟩ : ∃ A, cs.toArray = A := ⟨_, rfl⟩
  have HAS := Lib.hid (show A.size = 40 from by rw [← hA, hn])
  have HIA := Lib.hid (show (Tryz.prog.info? 58).map (·.size) = some A.size from by rw [aInfo, ← hA, hn])
  have HK := Lib.hid (fun w1 (hb : B w w1) => (show Calls Tryz.prog 19 #[.agg A] w1 _ from by rw [← hA]; exact keepU_c (hT.later hb) (tAct.later hx hb) hk))
  have HS := Lib.hid (aBlk.new (St.nil w) 58 A)
  rw [hA]
  clear hA hn hx hk hT
  go_enter Tryz.func8, Tryz.ntmps8
  go_wp2_with (first
    | (refine wpList_load_row rfl 58 (.tmp 1) rfl w.heap.size rfl 58 A (0, 0) _ (aBlk.get HS.out.on) Tryz.underlying58 rfl HIA.out ?_)
    | (go_at_call 19; (with_reducible refine callsM (HK.out _ HS.out.on.b) ?_); rintro r w1 ⟨U, v, rfl, hU, hb⟩; replace HS := Lib.hid (aBlk.new (HS.out.on.later hb) 58 #[.int .i64 0, .int .i64 0, .int .i64 0, .int .i64 0, .string ⟨#[]⟩, .string ⟨#[]⟩, .int .i64 0, .slice none 0 0, .slice none 0 0, .int .i64 0, .int .i64 0, .int .i64 0, .int .i64 0, .int .i64 0, .int .i64 0, .int .i64 0, .int .i64 0, .int .i64 0, .slice none 0 0, .int .i64 0, .int .i64 0, .slice none 0 0, .slice none 0 0, .slice none 0 0, .slice none 0 0, .string ⟨#[]⟩, .int .i64 0, .string ⟨#[]⟩, .int .i64 0, .slice none 0 0, .slice none 0 0, .int .i64 0, .int .i64 0, .slice none 0 0, .int .i64 0, .int .i64 0, .slice none 0 0, .int .i64 0, .int .i64 0, .bool false]); have HU := Lib.hid hU; clear hU hb)
    | (refine wpList_store_row rfl 58 (.tmp 4) (.tmp 10) rfl w1.heap.size U rfl rfl 58 #[.int .i64 0, .int .i64 0, .int .i64 0, .int .i64 0, .string ⟨#[]⟩, .string ⟨#[]⟩, .int .i64 0, .slice none 0 0, .slice none 0 0, .int .i64 0, .int .i64 0, .int .i64 0, .int .i64 0, .int .i64 0, .int .i64 0, .int .i64 0, .int .i64 0, .int .i64 0, .slice none 0 0, .int .i64 0, .int .i64 0, .slice none 0 0, .slice none 0 0, .slice none 0 0, .slice none 0 0, .string ⟨#[]⟩, .int .i64 0, .string ⟨#[]⟩, .int .i64 0, .slice none 0 0, .slice none 0 0, .int .i64 0, .int .i64 0, .slice none 0 0, .int .i64 0, .int .i64 0, .slice none 0 0, .int .i64 0, .int .i64 0, .bool false] (aBlk.get HS.out) (by rw [aInfo, HU.out.1]) (by rw [HU.out.1]; rfl) HU.out.2 ?_; replace HS := Lib.hid (aBlk.setRow HS.out U))
    | fail)
  go_ret2
  exact ⟨rfl, HS.out.b⟩
set_option maxRecDepth 20000 in
set_option maxHeartbeats 8000000 in
theorem lineS_c {inn : Nat → Prop} {w : World} {cs : List Value} {x : ActD} (hT : TabW w) (hx : tAct.rd inn w cs x) (hk : keepOk x) (he : ¬ x = keepF x) :
    Calls Tryz.prog 8 #[.agg cs.toArray] w fun r w' => r = .returned (.tuple #[.string ⟨#[]⟩, .int .i64 1]) ∧ B w w' := by
  have hn := (tAct.one hx).1
  have HT := Lib.hid hT
  have HX := Lib.hid hx
  obtain ⟨A, hA⟩ : ∃ A, cs.toArray = A := ⟨_, rfl⟩
  have HAS := Lib.hid (show A.size = 40 from by rw [← hA, hn])
  have HIA := Lib.hid (show (Tryz.prog.info? 58).map (·.size) = some A.size from by rw [aInfo, ← hA, hn])
  have HK := Lib.hid (fun w1 (hb : B w w1) => (show Calls Tryz.prog 19 #[.agg A] w1 _ from by rw [← hA]; exact keepV_c (hT.later hb) (tAct.later hx hb) hk))
  have HSM := Lib.hid (fun w1 (U : Array Value) (hb : B w w1) (hd : ∃ ds : List Value, U = ds.toArray ∧ tAct.rd (fun _ => True) w1 ds (keepF x)) w2 (hb2 : B w1 w2) => (show Calls Tryz.prog 20 #[.agg A, .agg U] w2 fun e w' => e = .returned (.bool false) ∧ B w2 w' from by
    obtain ⟨ds, rfl, hd⟩ := hd
    rw [← hA, ← eqB_false he]
    exact sSame_c (tAct.later hx (hb.trans hb2)) (tAct.later hd hb2)))
  have HS := Lib.hid (aBlk.new (St.nil w) 58 A)
  have HJ := Lib.hid (show (joinF (keepW x)).length ≤ 140737488355328 from by have := lineF_len hx hk; unfold lineF at this; omega)
  have HJ2 := Lib.hid (show (keepW x).length ≤ 140737488355328 from by have := (keepW_len hx hk).2; omega)
  rw [hA]
  clear hA hn hx hk hT he
  go_enter Tryz.func8, Tryz.ntmps8
  go_wp2_with (first
    | (refine wpList_load_row rfl 58 (.tmp 1) rfl w.heap.size rfl 58 A (0, 0) _ (aBlk.get HS.out.on) Tryz.underlying58 rfl HIA.out ?_)
    | (go_at_call 19; (with_reducible refine callsM (HK.out _ HS.out.on.b) ?_); rintro r w1 ⟨U, v, rfl, hU, hS⟩; have HB1 := Lib.hid (B.trans HS.out.on.b hS.b); replace HS := Lib.hid (aBlk.new (St.onto HS.out.on hS) 58 #[.int .i64 0, .int .i64 0, .int .i64 0, .int .i64 0, .string ⟨#[]⟩, .string ⟨#[]⟩, .int .i64 0, .slice none 0 0, .slice none 0 0, .int .i64 0, .int .i64 0, .int .i64 0, .int .i64 0, .int .i64 0, .int .i64 0, .int .i64 0, .int .i64 0, .int .i64 0, .slice none 0 0, .int .i64 0, .int .i64 0, .slice none 0 0, .slice none 0 0, .slice none 0 0, .slice none 0 0, .string ⟨#[]⟩, .int .i64 0, .string ⟨#[]⟩, .int .i64 0, .slice none 0 0, .slice none 0 0, .int .i64 0, .int .i64 0, .slice none 0 0, .int .i64 0, .int .i64 0, .slice none 0 0, .int .i64 0, .int .i64 0, .bool false]); have HU := Lib.hid hU; clear hU hS)
    | (refine wpList_store_row rfl 58 (.tmp 4) (.tmp 10) rfl w1.heap.size U rfl rfl 58 #[.int .i64 0, .int .i64 0, .int .i64 0, .int .i64 0, .string ⟨#[]⟩, .string ⟨#[]⟩, .int .i64 0, .slice none 0 0, .slice none 0 0, .int .i64 0, .int .i64 0, .int .i64 0, .int .i64 0, .int .i64 0, .int .i64 0, .int .i64 0, .int .i64 0, .int .i64 0, .slice none 0 0, .int .i64 0, .int .i64 0, .slice none 0 0, .slice none 0 0, .slice none 0 0, .slice none 0 0, .string ⟨#[]⟩, .int .i64 0, .string ⟨#[]⟩, .int .i64 0, .slice none 0 0, .slice none 0 0, .int .i64 0, .int .i64 0, .slice none 0 0, .int .i64 0, .int .i64 0, .slice none 0 0, .int .i64 0, .int .i64 0, .bool false] (aBlk.get HS.out) (by rw [aInfo, HU.out.1.1]) (by rw [HU.out.1.1]; rfl) HU.out.1.2 ?_; have HB2 := Lib.hid (newRow w1 U); replace HS := Lib.hid (aBlk.setRow HS.out U))
    | (refine list_take (d := some 16) (v := .agg A) rfl rfl (run_load_op (ty := 58) rfl rfl (actLoad (aBlk.get HS.out.rot3) HAS.out)) ?_)
    | (refine list_take (d := some 17) (v := .agg U) rfl rfl (run_load_op (ty := 58) rfl rfl (actLoad (aBlk.get HS.out) HU.out.1.1)) ?_)
    | (go_at_call 20; (with_reducible refine callsM (HSM.out _ _ HB1.out HU.out.2 _ HB2.out) ?_); rintro r w3 ⟨rfl, hb⟩; replace HS := Lib.hid (HS.out.later hb); clear hb)
    | fail)
  go_ret2
  exact ⟨rfl, HS.out.b⟩
set_option maxRecDepth 20000 in
set_option maxHeartbeats 8000000 in
theorem lineY_c {inn : Nat → Prop} {w : World} {cs : List Value} {x : ActD} (hT : TabW w) (hx : tAct.rd inn w cs x) (hk : keepOk x) (he : x = keepF x) :
    Calls Tryz.prog 8 #[.agg cs.toArray] w fun r w' => r = .returned (.tuple #[.string (bstr (lineF x)), .int .i64 0]) ∧ B w w' := by
  have hn := (tAct.one hx).1
  have HT := Lib.hid hT
  have HX := Lib.hid hx
  obtain ⟨A, hA⟩ : ∃ A, cs.toArray = A := ⟨_, rfl⟩
  have HAS := Lib.hid (show A.size = 40 from by rw [← hA, hn])
  have HIA := Lib.hid (show (Tryz.prog.info? 58).map (·.size) = some A.size from by rw [aInfo, ← hA, hn])
  have HK := Lib.hid (fun w1 (hb : B w w1) => (show Calls Tryz.prog 19 #[.agg A] w1 _ from by rw [← hA]; exact keepV_c (hT.later hb) (tAct.later hx hb) hk))
  have HSM := Lib.hid (fun w1 (U : Array Value) (hb : B w w1) (hd : ∃ ds : List Value, U = ds.toArray ∧ tAct.rd (fun _ => True) w1 ds (keepF x)) w2 (hb2 : B w1 w2) => (show Calls Tryz.prog 20 #[.agg A, .agg U] w2 fun e w' => e = .returned (.bool true) ∧ B w2 w' from by
    obtain ⟨ds, rfl, hd⟩ := hd
    rw [← hA, ← eqB_true he]
    exact sSame_c (tAct.later hx (hb.trans hb2)) (tAct.later hd hb2)))
  have HS := Lib.hid (aBlk.new (St.nil w) 58 A)
  have HJ := Lib.hid (show (joinF (keepW x)).length ≤ 140737488355328 from by have := lineF_len hx hk; unfold lineF at this; omega)
  have HJ2 := Lib.hid (show (keepW x).length ≤ 140737488355328 from by have := (keepW_len hx hk).2; omega)
  rw [hA]
  clear hA hn hx hk hT he
  go_enter Tryz.func8, Tryz.ntmps8
  go_wp2_with (first
    | (refine wpList_load_row rfl 58 (.tmp 1) rfl w.heap.size rfl 58 A (0, 0) _ (aBlk.get HS.out.on) Tryz.underlying58 rfl HIA.out ?_)
    | (go_at_call 19; (with_reducible refine callsM (HK.out _ HS.out.on.b) ?_); rintro r w1 ⟨U, v, rfl, hU, hS⟩; have HB1 := Lib.hid (B.trans HS.out.on.b hS.b); replace HS := Lib.hid (aBlk.new (St.onto HS.out.on hS) 58 #[.int .i64 0, .int .i64 0, .int .i64 0, .int .i64 0, .string ⟨#[]⟩, .string ⟨#[]⟩, .int .i64 0, .slice none 0 0, .slice none 0 0, .int .i64 0, .int .i64 0, .int .i64 0, .int .i64 0, .int .i64 0, .int .i64 0, .int .i64 0, .int .i64 0, .int .i64 0, .slice none 0 0, .int .i64 0, .int .i64 0, .slice none 0 0, .slice none 0 0, .slice none 0 0, .slice none 0 0, .string ⟨#[]⟩, .int .i64 0, .string ⟨#[]⟩, .int .i64 0, .slice none 0 0, .slice none 0 0, .int .i64 0, .int .i64 0, .slice none 0 0, .int .i64 0, .int .i64 0, .slice none 0 0, .int .i64 0, .int .i64 0, .bool false]); have HU := Lib.hid hU; clear hU hS)
    | (refine wpList_store_row rfl 58 (.tmp 4) (.tmp 10) rfl w1.heap.size U rfl rfl 58 #[.int .i64 0, .int .i64 0, .int .i64 0, .int .i64 0, .string ⟨#[]⟩, .string ⟨#[]⟩, .int .i64 0, .slice none 0 0, .slice none 0 0, .int .i64 0, .int .i64 0, .int .i64 0, .int .i64 0, .int .i64 0, .int .i64 0, .int .i64 0, .int .i64 0, .int .i64 0, .slice none 0 0, .int .i64 0, .int .i64 0, .slice none 0 0, .slice none 0 0, .slice none 0 0, .slice none 0 0, .string ⟨#[]⟩, .int .i64 0, .string ⟨#[]⟩, .int .i64 0, .slice none 0 0, .slice none 0 0, .int .i64 0, .int .i64 0, .slice none 0 0, .int .i64 0, .int .i64 0, .slice none 0 0, .int .i64 0, .int .i64 0, .bool false] (aBlk.get HS.out) (by rw [aInfo, HU.out.1.1]) (by rw [HU.out.1.1]; rfl) HU.out.1.2 ?_; have HB2 := Lib.hid (newRow w1 U); replace HS := Lib.hid (aBlk.setRow HS.out U))
    | (refine list_take (d := some 16) (v := .agg A) rfl rfl (run_load_op (ty := 58) rfl rfl (actLoad (aBlk.get HS.out.rot3) HAS.out)) ?_)
    | (refine list_take (d := some 17) (v := .agg U) rfl rfl (run_load_op (ty := 58) rfl rfl (actLoad (aBlk.get HS.out) HU.out.1.1)) ?_)
    | (go_at_call 20; (with_reducible refine callsM (HSM.out _ _ HB1.out HU.out.2 _ HB2.out) ?_); rintro r w3 ⟨rfl, hb⟩; replace HS := Lib.hid (HS.out.later hb); clear hb)
    | (go_at_call 21; (with_reducible refine callsM (join_c HS.out.swap (HJ.out) (HJ2.out) rfl) ?_); rintro r w4 ⟨rfl, hb⟩; replace HS := Lib.hid (HS.out.later hb); clear hb)
    | fail)
  go_ret2
  exact ⟨rfl, HS.out.b⟩
/-- what script.Line answers -/
def LinePost (w : World) (x : ActD) (r : Ending) (w' : World) : Prop := open Classical in
  (r = if lineOk x then .returned (.tuple #[.string (bstr (lineF x)), .int .i64 0]) else .returned (.tuple #[.string ⟨#[]⟩, .int .i64 1])) ∧ B w w'
theorem line_c {inn : Nat → Prop} {w : World} {cs : List Value} {x : ActD} (hT : TabW w) (hx : tAct.rd inn w cs x) : Calls Tryz.prog 8 #[.agg cs.toArray] w (LinePost w x) := by
  by_cases hk : keepOk x
  · by_cases he : x = keepF x
    · refine (lineY_c hT hx hk he).mono fun r w' h => ?_
      unfold LinePost; rw [if_pos ⟨hk, he⟩]; exact h
    · refine (lineS_c hT hx hk he).mono fun r w' h => ?_
      unfold LinePost; rw [if_neg (fun h => he h.2)]; exact h
  · refine (lineN_c hT hx hk).mono fun r w' h => ?_
    unfold LinePost; rw [if_neg (fun h => hk h.1)]; exact h
end Go.Proofs.YtbbcepmhkocgbaaGreatDoor

/- script.SetupLine: a setup's line (printed by gen_uk.py). -/
namespace Go.Proofs.YtbbcepmhkocgbaaGreatDoor
open Go.RowKit Go.Deep
set_option linter.unusedVariables false

def wWorld : List UInt8 := [119, 111, 114, 108, 100]
def setupW (s : SetupD) : List (List UInt8) := [wWorld, Lib.itoa s.f, Lib.itoa s.faulty, Lib.itoa s.liars, Lib.itoa s.room, s.topic]
def setupF (s : SetupD) : List UInt8 := joinF (setupW s)
theorem i64_idk {x : Int} (h : 0 ≤ x ∧ x ≤ 9223372036854775807) : IntKind.i64.wrap x = x := by
  simp [IntKind.wrap, IntKind.signed, IntKind.bits]; omega
theorem setupF_len {inn : Nat → Prop} {w : World} {cs : List Value} {s : SetupD} (h : tSetup.rd inn w cs s) : (setupF s).length ≤ 30000000 := by
  obtain ⟨_, b1, b2, b3, b4, b5⟩ := tSetup.parts h
  have i1 := Lib.itoa_length_le s.f b1.1 b1.2
  have i2 := Lib.itoa_length_le s.faulty (by omega) (by omega)
  have i3 := Lib.itoa_length_le s.liars (by omega) (by omega)
  have i4 := Lib.itoa_length_le s.room b4.1 b4.2
  have := joinF_len 4194304 (setupW s) (by
    intro y hy
    simp only [setupW, List.mem_cons, List.not_mem_nil, or_false] at hy
    rcases hy with rfl | rfl | rfl | rfl | rfl | rfl
    · simp [wWorld]
    all_goals omega)
  unfold setupF
  have e : (setupW s).length = 6 := rfl
  rw [e] at this
  omega
set_option maxRecDepth 20000 in
set_option maxHeartbeats 8000000 in
theorem setupN_c {inn : Nat → Prop} {w : World} {cs : List Value} {s : SetupD} (h : tSetup.rd inn w cs s) (hk : nameF s.topic = false) :
    Calls Tryz.prog 14 #[.agg cs.toArray] w fun r w' => r = .returned (.tuple #[.string ⟨#[]⟩, .int .i64 1]) ∧ B w w' := by
  obtain ⟨rfl, b1, b2, b3, b4, b5⟩ := tSetup.parts h
  have HN := Lib.hid (fun w' => name_c w' s.topic b5)
  rw [hk] at HN
  have HS := Lib.hid (aBlk.new (St.nil w) 25 #[.int .i64 s.f, .int .u16 s.faulty, .int .u16 s.liars, .int .i64 s.room, .string (bstr s.topic)])
  clear h hk
  go_enter Tryz.func14, Tryz.ntmps14
  go_wp2_with (first | (go_at_call 29; (with_reducible refine callsM (HN.out _) ?_); rintro r w1 ⟨rfl, hb⟩; replace HS := Lib.hid (HS.out.on.later hb); clear hb) | fail)
  go_ret2
  exact ⟨rfl, HS.out.b⟩
set_option maxRecDepth 20000 in
set_option maxHeartbeats 8000000 in
theorem setupY_c {inn : Nat → Prop} {w : World} {cs : List Value} {s : SetupD} (hT : TabW w) (h : tSetup.rd inn w cs s) (hk : nameF s.topic = true) :
    Calls Tryz.prog 14 #[.agg cs.toArray] w fun r w' => r = .returned (.tuple #[.string (bstr (setupF s)), .int .i64 0]) ∧ B w w' := by
  have HJ := Lib.hid (show (joinF (setupW s)).length ≤ 140737488355328 from by have := setupF_len h; unfold setupF at this; omega)
  obtain ⟨rfl, b1, b2, b3, b4, b5⟩ := tSetup.parts h
  have HN := Lib.hid (fun w' => name_c w' s.topic b5)
  rw [hk] at HN
  have HS := Lib.hid (aBlk.new (St.nil w) 25 #[.int .i64 s.f, .int .u16 s.faulty, .int .u16 s.liars, .int .i64 s.room, .string (bstr s.topic)])
  have HT := Lib.hid hT
  have HB1 := Lib.hid b1
  have HB2 := Lib.hid b2
  have HB3 := Lib.hid b3
  have HB4 := Lib.hid b4
  have w1k : IntKind.i64.wrap s.faulty = s.faulty := i64_idk (by omega)
  have w2k : IntKind.i64.wrap s.liars = s.liars := i64_idk (by omega)
  clear h hk hT
  go_enter Tryz.func14, Tryz.ntmps14
  go_wp2_with (first | (go_at_call 29; (with_reducible refine callsM (HN.out _) ?_); rintro r w1 ⟨rfl, hb⟩; replace HS := Lib.hid (HS.out.on.later hb); clear hb) | fail)
  have HSW := HS
  obtain ⟨SS, H0, HSB, HST, HLL⟩ : ∃ SS : World → Prop, SS w1.drew ∧ (∀ w', SS w' → B w w') ∧ (∀ w' w'', SS w' → B w' w'' → SS w'') ∧ (∀ w', SS w' → Blk w' w.heap.size 25 #[.int .i64 s.f, .int .u16 s.faulty, .int .u16 s.liars, .int .i64 s.room, .string (bstr s.topic)]) :=
    ⟨fun w' => B w1 w', (Below.refl _ _).drew, fun w' hb => HS.out.b.trans hb, fun w' w'' h1 h2 => h1.trans h2, fun w' hb => aBlk.get (HS.out.later hb)⟩
  replace H0 := Lib.hid H0
  replace HSB := Lib.hid HSB
  replace HST := Lib.hid HST
  replace HLL := Lib.hid HLL
  clear HS HSW
  refine wp_region_held_drew (S := SS) (by kernel_rfl) H0.out (fun HS => ?_)
  replace HS := Lib.hid HS
  generalize World.drew _ = W1 at *
  refine anyH_take (i := 0) (d := some 8) (v := .pointer (some ⟨w.heap.size, 0, none⟩)) rfl rfl (by kernel_rfl) (by kernel_rfl) (by kernel_rfl) (fun _ _ _ h => h) rfl (fun w' hS => by go_simp) HS.out ?_
  simp only [Act.put, List.setIfInBounds_toArray, List.set_cons_zero, List.set_cons_succ]
  refine anyH_take (i := 1) (d := some 9) (v := .int .i64 s.f) rfl rfl (by kernel_rfl) (by kernel_rfl) (by kernel_rfl) (fun _ _ _ h => h) rfl (fun w' hS => by exact run_load_op (ty := 3) rfl rfl (load1 (by rw [(HLL.out w' hS).cell 0]; rfl) Tryz.underlying3 rfl)) HS.out ?_
  simp only [Act.put, List.setIfInBounds_toArray, List.set_cons_zero, List.set_cons_succ]
  refine anyH_take (i := 3) (d := some 11) (v := .pointer (some ⟨w.heap.size, 1, none⟩)) rfl rfl (by kernel_rfl) (by kernel_rfl) (by kernel_rfl) (fun _ _ _ h => h) rfl (fun w' hS => by go_simp) HS.out ?_
  simp only [Act.put, List.setIfInBounds_toArray, List.set_cons_zero, List.set_cons_succ]
  refine anyH_take (i := 4) (d := some 12) (v := .int .u16 s.faulty) rfl rfl (by kernel_rfl) (by kernel_rfl) (by kernel_rfl) (fun _ _ _ h => h) rfl (fun w' hS => by exact run_load_op (ty := 23) rfl rfl (load1 (by rw [(HLL.out w' hS).cell 1]; rfl) Tryz.underlying23 rfl)) HS.out ?_
  simp only [Act.put, List.setIfInBounds_toArray, List.set_cons_zero, List.set_cons_succ]
  refine anyH_take (i := 5) (d := some 13) (v := .int .i64 s.faulty) rfl rfl (by kernel_rfl) (by kernel_rfl) (by kernel_rfl) (fun _ _ _ h => h) rfl (fun w' hS => by go_simp) HS.out ?_
  simp only [Act.put, List.setIfInBounds_toArray, List.set_cons_zero, List.set_cons_succ]
  refine anyH_take (i := 7) (d := some 15) (v := .pointer (some ⟨w.heap.size, 2, none⟩)) rfl rfl (by kernel_rfl) (by kernel_rfl) (by kernel_rfl) (fun _ _ _ h => h) rfl (fun w' hS => by go_simp) HS.out ?_
  simp only [Act.put, List.setIfInBounds_toArray, List.set_cons_zero, List.set_cons_succ]
  refine anyH_take (i := 8) (d := some 16) (v := .int .u16 s.liars) rfl rfl (by kernel_rfl) (by kernel_rfl) (by kernel_rfl) (fun _ _ _ h => h) rfl (fun w' hS => by exact run_load_op (ty := 23) rfl rfl (load1 (by rw [(HLL.out w' hS).cell 2]; rfl) Tryz.underlying23 rfl)) HS.out ?_
  simp only [Act.put, List.setIfInBounds_toArray, List.set_cons_zero, List.set_cons_succ]
  refine anyH_take (i := 9) (d := some 17) (v := .int .i64 s.liars) rfl rfl (by kernel_rfl) (by kernel_rfl) (by kernel_rfl) (fun _ _ _ h => h) rfl (fun w' hS => by go_simp) HS.out ?_
  simp only [Act.put, List.setIfInBounds_toArray, List.set_cons_zero, List.set_cons_succ]
  refine anyH_take (i := 11) (d := some 19) (v := .pointer (some ⟨w.heap.size, 3, none⟩)) rfl rfl (by kernel_rfl) (by kernel_rfl) (by kernel_rfl) (fun _ _ _ h => h) rfl (fun w' hS => by go_simp) HS.out ?_
  simp only [Act.put, List.setIfInBounds_toArray, List.set_cons_zero, List.set_cons_succ]
  refine anyH_take (i := 12) (d := some 20) (v := .int .i64 s.room) rfl rfl (by kernel_rfl) (by kernel_rfl) (by kernel_rfl) (fun _ _ _ h => h) rfl (fun w' hS => by exact run_load_op (ty := 3) rfl rfl (load1 (by rw [(HLL.out w' hS).cell 3]; rfl) Tryz.underlying3 rfl)) HS.out ?_
  simp only [Act.put, List.setIfInBounds_toArray, List.set_cons_zero, List.set_cons_succ]
  refine anyH_take (i := 14) (d := some 22) (v := .pointer (some ⟨w.heap.size, 4, none⟩)) rfl rfl (by kernel_rfl) (by kernel_rfl) (by kernel_rfl) (fun _ _ _ h => h) rfl (fun w' hS => by go_simp) HS.out ?_
  simp only [Act.put, List.setIfInBounds_toArray, List.set_cons_zero, List.set_cons_succ]
  refine anyH_take (i := 15) (d := some 23) (v := .string (bstr s.topic)) rfl rfl (by kernel_rfl) (by kernel_rfl) (by kernel_rfl) (fun _ _ _ h => h) rfl (fun w' hS => by exact run_load_op (ty := 9) rfl rfl (load1 (by rw [(HLL.out w' hS).cell 4]; rfl) Tryz.underlying9 rfl)) HS.out ?_
  simp only [Act.put, List.setIfInBounds_toArray, List.set_cons_zero, List.set_cons_succ]
  refine anyH_call (i := 2) (d := some 10) (v := .string (bstr (Lib.itoa s.f))) (by kernel_rfl) rfl rfl rfl (by go_simp) (num_c (HT.out.later (HSB.out _ HS.out)) HB1.out) (fun w' hb => HST.out _ _ HS.out hb) (fun w' HS => ?_)
  replace HS := Lib.hid HS
  simp only [Act.put, List.setIfInBounds_toArray, List.set_cons_zero, List.set_cons_succ]
  refine anyH_call (i := 6) (d := some 14) (v := .string (bstr (Lib.itoa s.faulty))) (by kernel_rfl) rfl rfl rfl (by go_simp) (num_c (HT.out.later (HSB.out _ HS.out)) (by have := HB2.out; omega)) (fun w' hb => HST.out _ _ HS.out hb) (fun w' HS => ?_)
  replace HS := Lib.hid HS
  simp only [Act.put, List.setIfInBounds_toArray, List.set_cons_zero, List.set_cons_succ]
  refine anyH_call (i := 10) (d := some 18) (v := .string (bstr (Lib.itoa s.liars))) (by kernel_rfl) rfl rfl rfl (by go_simp) (num_c (HT.out.later (HSB.out _ HS.out)) (by have := HB3.out; omega)) (fun w' hb => HST.out _ _ HS.out hb) (fun w' HS => ?_)
  replace HS := Lib.hid HS
  simp only [Act.put, List.setIfInBounds_toArray, List.set_cons_zero, List.set_cons_succ]
  refine anyH_call (i := 13) (d := some 21) (v := .string (bstr (Lib.itoa s.room))) (by kernel_rfl) rfl rfl rfl (by go_simp) (num_c (HT.out.later (HSB.out _ HS.out)) HB4.out) (fun w' hb => HST.out _ _ HS.out hb) (fun w' HS => ?_)
  replace HS := Lib.hid HS
  simp only [Act.put, List.setIfInBounds_toArray, List.set_cons_zero, List.set_cons_succ]
  have h1 := aStrs.new (St.nil w') (setupW s) (by simp [setupW, maxLen]) (cs := #[.string ⟨#[119, 111, 114, 108, 100]⟩, .string (bstr (Lib.itoa s.f)), .string (bstr (Lib.itoa s.faulty)), .string (bstr (Lib.itoa s.liars)), .string (bstr (Lib.itoa s.room)), .string (bstr s.topic)]) rfl (n := 6) rfl
  refine anyH_do (i := 16) (d := some 24) (v := .slice (some ⟨w'.heap.size, 0, none⟩) 6 6) (w' := w'.alloc (.cells #[.string ⟨#[119, 111, 114, 108, 100]⟩, .string (bstr (Lib.itoa s.f)), .string (bstr (Lib.itoa s.faulty)), .string (bstr (Lib.itoa s.liars)), .string (bstr (Lib.itoa s.room)), .string (bstr s.topic)] 9)) (by kernel_rfl) rfl rfl rfl (by go_simp) (HST.out _ _ HS.out (B.alloc' _ _)) ?_
  simp only [Act.put, List.setIfInBounds_toArray, List.set_cons_zero, List.set_cons_succ]
  replace HS := Lib.hid (HST.out _ _ HS.out (B.alloc' w' (.cells #[.string ⟨#[119, 111, 114, 108, 100]⟩, .string (bstr (Lib.itoa s.f)), .string (bstr (Lib.itoa s.faulty)), .string (bstr (Lib.itoa s.liars)), .string (bstr (Lib.itoa s.room)), .string (bstr s.topic)] 9)))
  refine anyH_call (i := 17) (d := some 25) (v := .string (bstr (setupF s))) (by kernel_rfl) rfl rfl rfl (by go_simp) (join_c (s := ⟨#[32]⟩) h1 HJ.out (by simp [setupW]) rfl) (fun w' hb => HST.out _ _ HS.out hb) (fun w' HS => ?_)
  replace HS := Lib.hid HS
  simp only [Act.put, List.setIfInBounds_toArray, List.set_cons_zero, List.set_cons_succ]
  refine anyH_take (i := 18) (d := some 2) (v := .string (bstr (setupF s))) rfl rfl (by kernel_rfl) (by kernel_rfl) (by kernel_rfl) (fun _ _ _ h => h) rfl (fun w' hS => by go_simp) HS.out ?_
  simp only [Act.put, List.setIfInBounds_toArray, List.set_cons_zero, List.set_cons_succ]
  refine anyH_take (i := 19) (d := some 3) (v := .int .i64 0) rfl rfl (by kernel_rfl) (by kernel_rfl) (by kernel_rfl) (fun _ _ _ h => h) rfl (fun w' hS => by go_simp) HS.out ?_
  simp only [Act.put, List.setIfInBounds_toArray, List.set_cons_zero, List.set_cons_succ]
  refine wpAnyH_done (by kernel_rfl) ?_ _
  go_wp2_with fail
  go_ret2
  exact ⟨rfl, HSB.out _ HS.out⟩
theorem setup_c {inn : Nat → Prop} {w : World} {cs : List Value} {s : SetupD} (hT : TabW w) (h : tSetup.rd inn w cs s) :
    Calls Tryz.prog 14 #[.agg cs.toArray] w fun r w' => (r = if nameF s.topic = true then .returned (.tuple #[.string (bstr (setupF s)), .int .i64 0]) else .returned (.tuple #[.string ⟨#[]⟩, .int .i64 1])) ∧ B w w' := by
  cases hk : nameF s.topic with
  | true => simpa using setupY_c hT h hk
  | false => simpa using setupN_c h hk
end Go.Proofs.YtbbcepmhkocgbaaGreatDoor

/- Numbers as words, where the table of powers is laid; bullaref27.SetupLine, over data (printed by gen_bl.py). -/
namespace Go.Proofs.YtbbcepmhkocgbaaGreatDoor
open Go.RowKit
set_option linter.unusedVariables false
set_option maxRecDepth 20000

theorem tabG : Tryz.prog.globalNamed "internal/strconv.uint64pow10" = some 1 := by kernel_rfl
/-- the table of powers is laid, and read alone -/
abbrev tabWd : Wd where
  W I w := I 1 ∧ Lib.TabIs Tryz.prog w "internal/strconv.uint64pow10" .u64 Lib.pow10Tab
  cl := by
    rintro I I' w w' ⟨h1, h2⟩ hb hI
    refine ⟨hI _ h1, ?_⟩
    unfold Lib.TabIs World.var? at *
    rw [tabG] at h2 ⊢
    simp only [Option.bind_some] at h2 ⊢
    rw [hb 1 h1]
    exact h2
theorem rNumT_c {w : World} {n : Int} (h : Lib.TabIs Tryz.prog w "internal/strconv.uint64pow10" .u64 Lib.pow10Tab) (hn : -9223372036854775808 ≤ n ∧ n ≤ 9223372036854775807) : Calls Tryz.prog 33 #[.int .i64 n] w fun e w' => e = .returned (.string (bstr (Lib.itoa n))) ∧ B w w' := by
  have HC := Lib.hid (Tryz.strconv_Itoa n hn.1 hn.2 w h)
  go_enter Tryz.func33, Tryz.ntmps33
  go_wp2_with (first
    | (go_at_call 47; (with_reducible refine callsM HC.out ?_); rintro e wn ⟨rfl, k, os, rfl⟩))
  go_ret
  exact ⟨rfl, grow_B _ _ _⟩
/-- numbers are turned to words -/
def NumOk [Wd] : Prop := ∀ n : Int, -9223372036854775808 ≤ n ∧ n ≤ 9223372036854775807 → FnP Tryz.prog 33 [.int .i64 n] (.str (Lib.itoa n))
theorem numOk_tab : @NumOk tabWd := by
  intro n hn
  refine ⟨by kernel_rfl, fun w I g vs hW hd ha => ?_⟩
  obtain ⟨v, vs', rfl, h1, h2⟩ := ha.uncons
  obtain rfl := h2.nil_inv
  rw [h1.int_inv]
  have hg : g = [] := List.eq_nil_of_length_eq_zero hd.len
  subst hg
  refine (rNumT_c hW.2 hn).mono ?_
  rintro e w' ⟨rfl, hb⟩
  exact ⟨_, I, [], _, [], rfl, ⟨rfl, rfl⟩, hd.later hb, .rd (.str _), Ext.of_B hb, fun _ h => h, fun _ h => .inl h, fun b h => .inl h, fun o p t cs _ h => by simp at h⟩
theorem dSetup_ok (s : SetupD) : dSetup.ok s = (dI.ok s.f ∧ dW.ok s.faulty ∧ dW.ok s.liars ∧ dI.ok s.room ∧ dS.ok s.topic) := rfl
theorem rSetupY_s [Wd] (hnum : NumOk) (s : SetupD) (hs : dSetup.ok s) (h0 : nameF s.topic = true) : FnP Tryz.prog 17 [.agg (cSetup s)] (.tup [.str (setupF s), .int .i64 0]) := by
  rw [dSetup_ok] at hs
  obtain ⟨b1, b2, b3, b4, b5⟩ := hs
  replace b1 : -9223372036854775808 ≤ s.f ∧ s.f ≤ 9223372036854775807 := b1
  replace b2 : 0 ≤ s.faulty ∧ s.faulty ≤ 65535 := b2
  replace b3 : 0 ≤ s.liars ∧ s.liars ≤ 65535 := b3
  replace b4 : -9223372036854775808 ≤ s.room ∧ s.room ≤ 9223372036854775807 := b4
  replace b5 : s.topic.length ≤ 4194304 := b5
  have i1 := Lib.itoa_length_le s.f b1.1 b1.2
  have i2 := Lib.itoa_length_le s.faulty (by omega) (by omega)
  have i3 := Lib.itoa_length_le s.liars (by omega) (by omega)
  have i4 := Lib.itoa_length_le s.room b4.1 b4.2
  refine mkS 33 [(3, ⟨[(0, false), (1, false), (5, false), (6, false), (7, false), (11, false), (12, false), (13, false), (17, false), (18, false), (22, false), (23, false), (2, true), (3, false), (4, false), (8, true), (9, false), (10, false), (14, true), (15, false), (16, false), (19, true), (20, false), (21, false), (24, false), (25, false), (26, false)], []⟩)] Tryz.func17 rfl (by kernel_rfl) ?_
  repeat'
    (conv => arg 2; whnf)
    first
    | refine okWrap (w64 (by omega) (by omega)) ?_
    | refine okAsk (by simp; omega) ?_
    | refine okAsk (by kernel_rfl) ?_
    | refine okBoth ?_ ?_
    | refine okBrT ?_
    | refine okBrF ?_
    | refine okBr (fun h => ?_) (fun h => ?_)
    | refine okFn (rName_s s.topic b5) rfl (Cos.refl _) ?_
    | refine okFn (hnum s.f b1) rfl (Cos.refl _) ?_
    | refine okFn (hnum s.faulty (by omega)) rfl (Cos.refl _) ?_
    | refine okFn (hnum s.liars (by omega)) rfl (Cos.refl _) ?_
    | refine okFn (hnum s.room b4) rfl (Cos.refl _) ?_
    | refine okWrap (w64 (by omega) (by omega)) ?_
    | (refine endT (.inr rfl) rfl ?_ rfl; simp [setupF, setupW, joinF, wWorld, cst]; done)
    | (exfalso; simp [h0] at *; done)
    | (exfalso; simp_all; done)
theorem rSetupN_s [Wd] (hnum : NumOk) (s : SetupD) (hs : dSetup.ok s) (h0 : nameF s.topic = false) : FnP Tryz.prog 17 [.agg (cSetup s)] (.tup [.str [], .int .i64 1]) := by
  rw [dSetup_ok] at hs
  obtain ⟨b1, b2, b3, b4, b5⟩ := hs
  replace b1 : -9223372036854775808 ≤ s.f ∧ s.f ≤ 9223372036854775807 := b1
  replace b2 : 0 ≤ s.faulty ∧ s.faulty ≤ 65535 := b2
  replace b3 : 0 ≤ s.liars ∧ s.liars ≤ 65535 := b3
  replace b4 : -9223372036854775808 ≤ s.room ∧ s.room ≤ 9223372036854775807 := b4
  replace b5 : s.topic.length ≤ 4194304 := b5
  have i1 := Lib.itoa_length_le s.f b1.1 b1.2
  have i2 := Lib.itoa_length_le s.faulty (by omega) (by omega)
  have i3 := Lib.itoa_length_le s.liars (by omega) (by omega)
  have i4 := Lib.itoa_length_le s.room b4.1 b4.2
  refine mkS 33 [(3, ⟨[(0, false), (1, false), (5, false), (6, false), (7, false), (11, false), (12, false), (13, false), (17, false), (18, false), (22, false), (23, false), (2, true), (3, false), (4, false), (8, true), (9, false), (10, false), (14, true), (15, false), (16, false), (19, true), (20, false), (21, false), (24, false), (25, false), (26, false)], []⟩)] Tryz.func17 rfl (by kernel_rfl) ?_
  repeat'
    (conv => arg 2; whnf)
    first
    | refine okWrap (w64 (by omega) (by omega)) ?_
    | refine okAsk (by simp; omega) ?_
    | refine okAsk (by kernel_rfl) ?_
    | refine okBoth ?_ ?_
    | refine okBrT ?_
    | refine okBrF ?_
    | refine okBr (fun h => ?_) (fun h => ?_)
    | refine okFn (rName_s s.topic b5) rfl (Cos.refl _) ?_
    | refine okFn (hnum s.f b1) rfl (Cos.refl _) ?_
    | refine okFn (hnum s.faulty (by omega)) rfl (Cos.refl _) ?_
    | refine okFn (hnum s.liars (by omega)) rfl (Cos.refl _) ?_
    | refine okFn (hnum s.room b4) rfl (Cos.refl _) ?_
    | refine okWrap (w64 (by omega) (by omega)) ?_
    | refine endFn0 (.inr rfl) rfl (.refl _) rfl
    | (exfalso; simp [h0] at *; done)
    | (exfalso; simp_all; done)
end Go.Proofs.YtbbcepmhkocgbaaGreatDoor

/- bullaref27.Line, a kind at a time, over data (printed by gen_bm.py). -/
namespace Go.Proofs.YtbbcepmhkocgbaaGreatDoor
open Go.RowKit
set_option linter.unusedVariables false
set_option maxRecDepth 20000

theorem dAct_ok (a : ActD) : dAct.ok a = (dI.ok a.kind ∧ dI.ok a.who ∧ dI.ok a.num ∧ dOp.ok a.op ∧ dY.ok a.bytes ∧ dMsg.ok a.msg ∧ dB.ok a.sealed) := rfl
theorem zOp_ok : dOp.ok zOp := by
  simp [dOp, dM, dP, dI, dS, dY, dL, zOp]
theorem zY_ok : dY.ok [] := by simp [dY]
theorem i_ok {n : Int} (h : -9223372036854775808 ≤ n ∧ n ≤ 9223372036854775807) : dI.ok n := h
theorem rLine1Y_s [Wd] (hnum : NumOk) (a : ActD) (ha : dAct.ok { a with kind := 1 }) (hE : eqB { a with kind := 1 } (⟨1, 0, a.num, zOp, [], zMsg, false⟩ : ActD) = true) : FnP Tryz.prog 18 [.agg (cAct { a with kind := 1 })] (.tup [.str (lineF { a with kind := 1 }), .int .i64 0]) := by
  have hO := ha
  rw [dAct_ok] at ha
  obtain ⟨_, b2, b3, b4, b5, b6, b7⟩ := ha
  replace b2 : -9223372036854775808 ≤ a.who ∧ a.who ≤ 9223372036854775807 := b2
  replace b3 : -9223372036854775808 ≤ a.num ∧ a.num ≤ 9223372036854775807 := b3
  replace b5 : a.bytes.length ≤ 4194304 := b5
  have i1 := Lib.itoa_length_le a.who b2.1 b2.2
  have i2 := Lib.itoa_length_le a.num b3.1 b3.2
  have hx : dAct.ok (⟨1, 0, a.num, zOp, [], zMsg, false⟩ : ActD) := by
    rw [dAct_ok]
    exact ⟨i_ok (n := 1) (by omega), i_ok (n := 0) (by omega), b3, zOp_ok, zY_ok, zMsg_ok, trivial⟩
  refine mkS 137 [(19, ⟨[(0, false), (1, false), (2, false), (6, false), (7, false), (3, true), (4, false), (5, false), (8, true), (9, false), (10, false), (11, false)], []⟩)] Tryz.func18 rfl (by kernel_rfl) ?_
  repeat'
    (conv => arg 2; whnf)
    first
    | refine okAsk (by kernel_rfl) ?_
    | refine okBoth ?_ ?_
    | refine okBrT ?_
    | refine okBrF ?_
    | refine okBr (fun h => ?_) (fun h => ?_)
    | refine okFn (rWord1_s a) rfl (Cos.refl _) ?_
    | refine okFn (hnum a.num b3) rfl (Cos.refl _) ?_
    | refine okFn (hnum a.who b2) rfl (Cos.refl _) ?_
    | refine okFn (rAct_s { a with kind := 1 } (⟨1, 0, a.num, zOp, [], zMsg, false⟩ : ActD) hO hx) rfl (by refine Cos.cons (Co.refl _) (Cos.cons (Cos.mkAgg ?_) Cos.nil); repeat' first | exact Cos.nil | exact Co.refl _ | exact Co.nil _ | refine Cos.cons ?_ ?_) ?_
    | refine okAsk (by simp [wDeliver]; omega) ?_
    | (refine endT (.inr rfl) rfl ?_ rfl; simp [lineF, keepW, argW, kwN, joinF, cst]; done)
    | (exfalso; simp [hE] at *; done)
    | (exfalso; simp_all; done)
theorem rLine1N_s [Wd] (hnum : NumOk) (a : ActD) (ha : dAct.ok { a with kind := 1 }) (hE : eqB { a with kind := 1 } (⟨1, 0, a.num, zOp, [], zMsg, false⟩ : ActD) = false) : FnP Tryz.prog 18 [.agg (cAct { a with kind := 1 })] (.tup [.str [], .int .i64 1]) := by
  have hO := ha
  rw [dAct_ok] at ha
  obtain ⟨_, b2, b3, b4, b5, b6, b7⟩ := ha
  replace b2 : -9223372036854775808 ≤ a.who ∧ a.who ≤ 9223372036854775807 := b2
  replace b3 : -9223372036854775808 ≤ a.num ∧ a.num ≤ 9223372036854775807 := b3
  replace b5 : a.bytes.length ≤ 4194304 := b5
  have i1 := Lib.itoa_length_le a.who b2.1 b2.2
  have i2 := Lib.itoa_length_le a.num b3.1 b3.2
  have hx : dAct.ok (⟨1, 0, a.num, zOp, [], zMsg, false⟩ : ActD) := by
    rw [dAct_ok]
    exact ⟨i_ok (n := 1) (by omega), i_ok (n := 0) (by omega), b3, zOp_ok, zY_ok, zMsg_ok, trivial⟩
  refine mkS 137 [(19, ⟨[(0, false), (1, false), (2, false), (6, false), (7, false), (3, true), (4, false), (5, false), (8, true), (9, false), (10, false), (11, false)], []⟩)] Tryz.func18 rfl (by kernel_rfl) ?_
  repeat'
    (conv => arg 2; whnf)
    first
    | refine okAsk (by kernel_rfl) ?_
    | refine okBoth ?_ ?_
    | refine okBrT ?_
    | refine okBrF ?_
    | refine okBr (fun h => ?_) (fun h => ?_)
    | refine okFn (rWord1_s a) rfl (Cos.refl _) ?_
    | refine okFn (hnum a.num b3) rfl (Cos.refl _) ?_
    | refine okFn (hnum a.who b2) rfl (Cos.refl _) ?_
    | refine okFn (rAct_s { a with kind := 1 } (⟨1, 0, a.num, zOp, [], zMsg, false⟩ : ActD) hO hx) rfl (by refine Cos.cons (Co.refl _) (Cos.cons (Cos.mkAgg ?_) Cos.nil); repeat' first | exact Cos.nil | exact Co.refl _ | exact Co.nil _ | refine Cos.cons ?_ ?_) ?_
    | refine okAsk (by simp [wDeliver]; omega) ?_
    | refine endFn0 (.inr rfl) rfl (.refl _) rfl
    | (exfalso; simp [hE] at *; done)
    | (exfalso; simp_all; done)
theorem rLine2Y_s [Wd] (hnum : NumOk) (a : ActD) (ha : dAct.ok { a with kind := 2 }) (hE : eqB { a with kind := 2 } (⟨2, 0, a.num, zOp, [], zMsg, false⟩ : ActD) = true) : FnP Tryz.prog 18 [.agg (cAct { a with kind := 2 })] (.tup [.str (lineF { a with kind := 2 }), .int .i64 0]) := by
  have hO := ha
  rw [dAct_ok] at ha
  obtain ⟨_, b2, b3, b4, b5, b6, b7⟩ := ha
  replace b2 : -9223372036854775808 ≤ a.who ∧ a.who ≤ 9223372036854775807 := b2
  replace b3 : -9223372036854775808 ≤ a.num ∧ a.num ≤ 9223372036854775807 := b3
  replace b5 : a.bytes.length ≤ 4194304 := b5
  have i1 := Lib.itoa_length_le a.who b2.1 b2.2
  have i2 := Lib.itoa_length_le a.num b3.1 b3.2
  have hx : dAct.ok (⟨2, 0, a.num, zOp, [], zMsg, false⟩ : ActD) := by
    rw [dAct_ok]
    exact ⟨i_ok (n := 2) (by omega), i_ok (n := 0) (by omega), b3, zOp_ok, zY_ok, zMsg_ok, trivial⟩
  refine mkS 137 [(19, ⟨[(0, false), (1, false), (2, false), (6, false), (7, false), (3, true), (4, false), (5, false), (8, true), (9, false), (10, false), (11, false)], []⟩)] Tryz.func18 rfl (by kernel_rfl) ?_
  repeat'
    (conv => arg 2; whnf)
    first
    | refine okAsk (by kernel_rfl) ?_
    | refine okBoth ?_ ?_
    | refine okBrT ?_
    | refine okBrF ?_
    | refine okBr (fun h => ?_) (fun h => ?_)
    | refine okFn (rWord2_s a) rfl (Cos.refl _) ?_
    | refine okFn (hnum a.num b3) rfl (Cos.refl _) ?_
    | refine okFn (hnum a.who b2) rfl (Cos.refl _) ?_
    | refine okFn (rAct_s { a with kind := 2 } (⟨2, 0, a.num, zOp, [], zMsg, false⟩ : ActD) hO hx) rfl (by refine Cos.cons (Co.refl _) (Cos.cons (Cos.mkAgg ?_) Cos.nil); repeat' first | exact Cos.nil | exact Co.refl _ | exact Co.nil _ | refine Cos.cons ?_ ?_) ?_
    | refine okAsk (by simp [wDrop]; omega) ?_
    | (refine endT (.inr rfl) rfl ?_ rfl; simp [lineF, keepW, argW, kwN, joinF, cst]; done)
    | (exfalso; simp [hE] at *; done)
    | (exfalso; simp_all; done)
theorem rLine2N_s [Wd] (hnum : NumOk) (a : ActD) (ha : dAct.ok { a with kind := 2 }) (hE : eqB { a with kind := 2 } (⟨2, 0, a.num, zOp, [], zMsg, false⟩ : ActD) = false) : FnP Tryz.prog 18 [.agg (cAct { a with kind := 2 })] (.tup [.str [], .int .i64 1]) := by
  have hO := ha
  rw [dAct_ok] at ha
  obtain ⟨_, b2, b3, b4, b5, b6, b7⟩ := ha
  replace b2 : -9223372036854775808 ≤ a.who ∧ a.who ≤ 9223372036854775807 := b2
  replace b3 : -9223372036854775808 ≤ a.num ∧ a.num ≤ 9223372036854775807 := b3
  replace b5 : a.bytes.length ≤ 4194304 := b5
  have i1 := Lib.itoa_length_le a.who b2.1 b2.2
  have i2 := Lib.itoa_length_le a.num b3.1 b3.2
  have hx : dAct.ok (⟨2, 0, a.num, zOp, [], zMsg, false⟩ : ActD) := by
    rw [dAct_ok]
    exact ⟨i_ok (n := 2) (by omega), i_ok (n := 0) (by omega), b3, zOp_ok, zY_ok, zMsg_ok, trivial⟩
  refine mkS 137 [(19, ⟨[(0, false), (1, false), (2, false), (6, false), (7, false), (3, true), (4, false), (5, false), (8, true), (9, false), (10, false), (11, false)], []⟩)] Tryz.func18 rfl (by kernel_rfl) ?_
  repeat'
    (conv => arg 2; whnf)
    first
    | refine okAsk (by kernel_rfl) ?_
    | refine okBoth ?_ ?_
    | refine okBrT ?_
    | refine okBrF ?_
    | refine okBr (fun h => ?_) (fun h => ?_)
    | refine okFn (rWord2_s a) rfl (Cos.refl _) ?_
    | refine okFn (hnum a.num b3) rfl (Cos.refl _) ?_
    | refine okFn (hnum a.who b2) rfl (Cos.refl _) ?_
    | refine okFn (rAct_s { a with kind := 2 } (⟨2, 0, a.num, zOp, [], zMsg, false⟩ : ActD) hO hx) rfl (by refine Cos.cons (Co.refl _) (Cos.cons (Cos.mkAgg ?_) Cos.nil); repeat' first | exact Cos.nil | exact Co.refl _ | exact Co.nil _ | refine Cos.cons ?_ ?_) ?_
    | refine okAsk (by simp [wDrop]; omega) ?_
    | refine endFn0 (.inr rfl) rfl (.refl _) rfl
    | (exfalso; simp [hE] at *; done)
    | (exfalso; simp_all; done)
theorem rLine3Y_s [Wd] (hnum : NumOk) (a : ActD) (ha : dAct.ok { a with kind := 3 }) (hE : eqB { a with kind := 3 } (⟨3, 0, a.num, zOp, [], zMsg, false⟩ : ActD) = true) : FnP Tryz.prog 18 [.agg (cAct { a with kind := 3 })] (.tup [.str (lineF { a with kind := 3 }), .int .i64 0]) := by
  have hO := ha
  rw [dAct_ok] at ha
  obtain ⟨_, b2, b3, b4, b5, b6, b7⟩ := ha
  replace b2 : -9223372036854775808 ≤ a.who ∧ a.who ≤ 9223372036854775807 := b2
  replace b3 : -9223372036854775808 ≤ a.num ∧ a.num ≤ 9223372036854775807 := b3
  replace b5 : a.bytes.length ≤ 4194304 := b5
  have i1 := Lib.itoa_length_le a.who b2.1 b2.2
  have i2 := Lib.itoa_length_le a.num b3.1 b3.2
  have hx : dAct.ok (⟨3, 0, a.num, zOp, [], zMsg, false⟩ : ActD) := by
    rw [dAct_ok]
    exact ⟨i_ok (n := 3) (by omega), i_ok (n := 0) (by omega), b3, zOp_ok, zY_ok, zMsg_ok, trivial⟩
  refine mkS 137 [(19, ⟨[(0, false), (1, false), (2, false), (6, false), (7, false), (3, true), (4, false), (5, false), (8, true), (9, false), (10, false), (11, false)], []⟩)] Tryz.func18 rfl (by kernel_rfl) ?_
  repeat'
    (conv => arg 2; whnf)
    first
    | refine okAsk (by kernel_rfl) ?_
    | refine okBoth ?_ ?_
    | refine okBrT ?_
    | refine okBrF ?_
    | refine okBr (fun h => ?_) (fun h => ?_)
    | refine okFn (rWord3_s a) rfl (Cos.refl _) ?_
    | refine okFn (hnum a.num b3) rfl (Cos.refl _) ?_
    | refine okFn (hnum a.who b2) rfl (Cos.refl _) ?_
    | refine okFn (rAct_s { a with kind := 3 } (⟨3, 0, a.num, zOp, [], zMsg, false⟩ : ActD) hO hx) rfl (by refine Cos.cons (Co.refl _) (Cos.cons (Cos.mkAgg ?_) Cos.nil); repeat' first | exact Cos.nil | exact Co.refl _ | exact Co.nil _ | refine Cos.cons ?_ ?_) ?_
    | refine okAsk (by simp [wDouble]; omega) ?_
    | (refine endT (.inr rfl) rfl ?_ rfl; simp [lineF, keepW, argW, kwN, joinF, cst]; done)
    | (exfalso; simp [hE] at *; done)
    | (exfalso; simp_all; done)
theorem rLine3N_s [Wd] (hnum : NumOk) (a : ActD) (ha : dAct.ok { a with kind := 3 }) (hE : eqB { a with kind := 3 } (⟨3, 0, a.num, zOp, [], zMsg, false⟩ : ActD) = false) : FnP Tryz.prog 18 [.agg (cAct { a with kind := 3 })] (.tup [.str [], .int .i64 1]) := by
  have hO := ha
  rw [dAct_ok] at ha
  obtain ⟨_, b2, b3, b4, b5, b6, b7⟩ := ha
  replace b2 : -9223372036854775808 ≤ a.who ∧ a.who ≤ 9223372036854775807 := b2
  replace b3 : -9223372036854775808 ≤ a.num ∧ a.num ≤ 9223372036854775807 := b3
  replace b5 : a.bytes.length ≤ 4194304 := b5
  have i1 := Lib.itoa_length_le a.who b2.1 b2.2
  have i2 := Lib.itoa_length_le a.num b3.1 b3.2
  have hx : dAct.ok (⟨3, 0, a.num, zOp, [], zMsg, false⟩ : ActD) := by
    rw [dAct_ok]
    exact ⟨i_ok (n := 3) (by omega), i_ok (n := 0) (by omega), b3, zOp_ok, zY_ok, zMsg_ok, trivial⟩
  refine mkS 137 [(19, ⟨[(0, false), (1, false), (2, false), (6, false), (7, false), (3, true), (4, false), (5, false), (8, true), (9, false), (10, false), (11, false)], []⟩)] Tryz.func18 rfl (by kernel_rfl) ?_
  repeat'
    (conv => arg 2; whnf)
    first
    | refine okAsk (by kernel_rfl) ?_
    | refine okBoth ?_ ?_
    | refine okBrT ?_
    | refine okBrF ?_
    | refine okBr (fun h => ?_) (fun h => ?_)
    | refine okFn (rWord3_s a) rfl (Cos.refl _) ?_
    | refine okFn (hnum a.num b3) rfl (Cos.refl _) ?_
    | refine okFn (hnum a.who b2) rfl (Cos.refl _) ?_
    | refine okFn (rAct_s { a with kind := 3 } (⟨3, 0, a.num, zOp, [], zMsg, false⟩ : ActD) hO hx) rfl (by refine Cos.cons (Co.refl _) (Cos.cons (Cos.mkAgg ?_) Cos.nil); repeat' first | exact Cos.nil | exact Co.refl _ | exact Co.nil _ | refine Cos.cons ?_ ?_) ?_
    | refine okAsk (by simp [wDouble]; omega) ?_
    | refine endFn0 (.inr rfl) rfl (.refl _) rfl
    | (exfalso; simp [hE] at *; done)
    | (exfalso; simp_all; done)
theorem rLine4Y_s [Wd] (hnum : NumOk) (a : ActD) (ha : dAct.ok { a with kind := 4 }) (hE : eqB { a with kind := 4 } (⟨4, a.who, 0, zOp, [], zMsg, false⟩ : ActD) = true) : FnP Tryz.prog 18 [.agg (cAct { a with kind := 4 })] (.tup [.str (lineF { a with kind := 4 }), .int .i64 0]) := by
  have hO := ha
  rw [dAct_ok] at ha
  obtain ⟨_, b2, b3, b4, b5, b6, b7⟩ := ha
  replace b2 : -9223372036854775808 ≤ a.who ∧ a.who ≤ 9223372036854775807 := b2
  replace b3 : -9223372036854775808 ≤ a.num ∧ a.num ≤ 9223372036854775807 := b3
  replace b5 : a.bytes.length ≤ 4194304 := b5
  have i1 := Lib.itoa_length_le a.who b2.1 b2.2
  have i2 := Lib.itoa_length_le a.num b3.1 b3.2
  have hx : dAct.ok (⟨4, a.who, 0, zOp, [], zMsg, false⟩ : ActD) := by
    rw [dAct_ok]
    exact ⟨i_ok (n := 4) (by omega), b2, i_ok (n := 0) (by omega), zOp_ok, zY_ok, zMsg_ok, trivial⟩
  refine mkS 137 [(19, ⟨[(0, false), (1, false), (2, false), (6, false), (7, false), (3, true), (4, false), (5, false), (8, true), (9, false), (10, false), (11, false)], []⟩)] Tryz.func18 rfl (by kernel_rfl) ?_
  repeat'
    (conv => arg 2; whnf)
    first
    | refine okAsk (by kernel_rfl) ?_
    | refine okBoth ?_ ?_
    | refine okBrT ?_
    | refine okBrF ?_
    | refine okBr (fun h => ?_) (fun h => ?_)
    | refine okFn (rWord4_s a) rfl (Cos.refl _) ?_
    | refine okFn (hnum a.num b3) rfl (Cos.refl _) ?_
    | refine okFn (hnum a.who b2) rfl (Cos.refl _) ?_
    | refine okFn (rAct_s { a with kind := 4 } (⟨4, a.who, 0, zOp, [], zMsg, false⟩ : ActD) hO hx) rfl (by refine Cos.cons (Co.refl _) (Cos.cons (Cos.mkAgg ?_) Cos.nil); repeat' first | exact Cos.nil | exact Co.refl _ | exact Co.nil _ | refine Cos.cons ?_ ?_) ?_
    | refine okAsk (by simp [wTick]; omega) ?_
    | (refine endT (.inr rfl) rfl ?_ rfl; simp [lineF, keepW, argW, kwN, joinF, cst]; done)
    | (exfalso; simp [hE] at *; done)
    | (exfalso; simp_all; done)
theorem rLine4N_s [Wd] (hnum : NumOk) (a : ActD) (ha : dAct.ok { a with kind := 4 }) (hE : eqB { a with kind := 4 } (⟨4, a.who, 0, zOp, [], zMsg, false⟩ : ActD) = false) : FnP Tryz.prog 18 [.agg (cAct { a with kind := 4 })] (.tup [.str [], .int .i64 1]) := by
  have hO := ha
  rw [dAct_ok] at ha
  obtain ⟨_, b2, b3, b4, b5, b6, b7⟩ := ha
  replace b2 : -9223372036854775808 ≤ a.who ∧ a.who ≤ 9223372036854775807 := b2
  replace b3 : -9223372036854775808 ≤ a.num ∧ a.num ≤ 9223372036854775807 := b3
  replace b5 : a.bytes.length ≤ 4194304 := b5
  have i1 := Lib.itoa_length_le a.who b2.1 b2.2
  have i2 := Lib.itoa_length_le a.num b3.1 b3.2
  have hx : dAct.ok (⟨4, a.who, 0, zOp, [], zMsg, false⟩ : ActD) := by
    rw [dAct_ok]
    exact ⟨i_ok (n := 4) (by omega), b2, i_ok (n := 0) (by omega), zOp_ok, zY_ok, zMsg_ok, trivial⟩
  refine mkS 137 [(19, ⟨[(0, false), (1, false), (2, false), (6, false), (7, false), (3, true), (4, false), (5, false), (8, true), (9, false), (10, false), (11, false)], []⟩)] Tryz.func18 rfl (by kernel_rfl) ?_
  repeat'
    (conv => arg 2; whnf)
    first
    | refine okAsk (by kernel_rfl) ?_
    | refine okBoth ?_ ?_
    | refine okBrT ?_
    | refine okBrF ?_
    | refine okBr (fun h => ?_) (fun h => ?_)
    | refine okFn (rWord4_s a) rfl (Cos.refl _) ?_
    | refine okFn (hnum a.num b3) rfl (Cos.refl _) ?_
    | refine okFn (hnum a.who b2) rfl (Cos.refl _) ?_
    | refine okFn (rAct_s { a with kind := 4 } (⟨4, a.who, 0, zOp, [], zMsg, false⟩ : ActD) hO hx) rfl (by refine Cos.cons (Co.refl _) (Cos.cons (Cos.mkAgg ?_) Cos.nil); repeat' first | exact Cos.nil | exact Co.refl _ | exact Co.nil _ | refine Cos.cons ?_ ?_) ?_
    | refine okAsk (by simp [wTick]; omega) ?_
    | refine endFn0 (.inr rfl) rfl (.refl _) rfl
    | (exfalso; simp [hE] at *; done)
    | (exfalso; simp_all; done)
theorem rLine5Y_s [Wd] (hnum : NumOk) (a : ActD) (ha : dAct.ok { a with kind := 5 }) (hE : eqB { a with kind := 5 } (⟨5, a.who, 0, zOp, [], zMsg, false⟩ : ActD) = true) : FnP Tryz.prog 18 [.agg (cAct { a with kind := 5 })] (.tup [.str (lineF { a with kind := 5 }), .int .i64 0]) := by
  have hO := ha
  rw [dAct_ok] at ha
  obtain ⟨_, b2, b3, b4, b5, b6, b7⟩ := ha
  replace b2 : -9223372036854775808 ≤ a.who ∧ a.who ≤ 9223372036854775807 := b2
  replace b3 : -9223372036854775808 ≤ a.num ∧ a.num ≤ 9223372036854775807 := b3
  replace b5 : a.bytes.length ≤ 4194304 := b5
  have i1 := Lib.itoa_length_le a.who b2.1 b2.2
  have i2 := Lib.itoa_length_le a.num b3.1 b3.2
  have hx : dAct.ok (⟨5, a.who, 0, zOp, [], zMsg, false⟩ : ActD) := by
    rw [dAct_ok]
    exact ⟨i_ok (n := 5) (by omega), b2, i_ok (n := 0) (by omega), zOp_ok, zY_ok, zMsg_ok, trivial⟩
  refine mkS 137 [(19, ⟨[(0, false), (1, false), (2, false), (6, false), (7, false), (3, true), (4, false), (5, false), (8, true), (9, false), (10, false), (11, false)], []⟩)] Tryz.func18 rfl (by kernel_rfl) ?_
  repeat'
    (conv => arg 2; whnf)
    first
    | refine okAsk (by kernel_rfl) ?_
    | refine okBoth ?_ ?_
    | refine okBrT ?_
    | refine okBrF ?_
    | refine okBr (fun h => ?_) (fun h => ?_)
    | refine okFn (rWord5_s a) rfl (Cos.refl _) ?_
    | refine okFn (hnum a.num b3) rfl (Cos.refl _) ?_
    | refine okFn (hnum a.who b2) rfl (Cos.refl _) ?_
    | refine okFn (rAct_s { a with kind := 5 } (⟨5, a.who, 0, zOp, [], zMsg, false⟩ : ActD) hO hx) rfl (by refine Cos.cons (Co.refl _) (Cos.cons (Cos.mkAgg ?_) Cos.nil); repeat' first | exact Cos.nil | exact Co.refl _ | exact Co.nil _ | refine Cos.cons ?_ ?_) ?_
    | refine okAsk (by simp [wClock]; omega) ?_
    | (refine endT (.inr rfl) rfl ?_ rfl; simp [lineF, keepW, argW, kwN, joinF, cst]; done)
    | (exfalso; simp [hE] at *; done)
    | (exfalso; simp_all; done)
theorem rLine5N_s [Wd] (hnum : NumOk) (a : ActD) (ha : dAct.ok { a with kind := 5 }) (hE : eqB { a with kind := 5 } (⟨5, a.who, 0, zOp, [], zMsg, false⟩ : ActD) = false) : FnP Tryz.prog 18 [.agg (cAct { a with kind := 5 })] (.tup [.str [], .int .i64 1]) := by
  have hO := ha
  rw [dAct_ok] at ha
  obtain ⟨_, b2, b3, b4, b5, b6, b7⟩ := ha
  replace b2 : -9223372036854775808 ≤ a.who ∧ a.who ≤ 9223372036854775807 := b2
  replace b3 : -9223372036854775808 ≤ a.num ∧ a.num ≤ 9223372036854775807 := b3
  replace b5 : a.bytes.length ≤ 4194304 := b5
  have i1 := Lib.itoa_length_le a.who b2.1 b2.2
  have i2 := Lib.itoa_length_le a.num b3.1 b3.2
  have hx : dAct.ok (⟨5, a.who, 0, zOp, [], zMsg, false⟩ : ActD) := by
    rw [dAct_ok]
    exact ⟨i_ok (n := 5) (by omega), b2, i_ok (n := 0) (by omega), zOp_ok, zY_ok, zMsg_ok, trivial⟩
  refine mkS 137 [(19, ⟨[(0, false), (1, false), (2, false), (6, false), (7, false), (3, true), (4, false), (5, false), (8, true), (9, false), (10, false), (11, false)], []⟩)] Tryz.func18 rfl (by kernel_rfl) ?_
  repeat'
    (conv => arg 2; whnf)
    first
    | refine okAsk (by kernel_rfl) ?_
    | refine okBoth ?_ ?_
    | refine okBrT ?_
    | refine okBrF ?_
    | refine okBr (fun h => ?_) (fun h => ?_)
    | refine okFn (rWord5_s a) rfl (Cos.refl _) ?_
    | refine okFn (hnum a.num b3) rfl (Cos.refl _) ?_
    | refine okFn (hnum a.who b2) rfl (Cos.refl _) ?_
    | refine okFn (rAct_s { a with kind := 5 } (⟨5, a.who, 0, zOp, [], zMsg, false⟩ : ActD) hO hx) rfl (by refine Cos.cons (Co.refl _) (Cos.cons (Cos.mkAgg ?_) Cos.nil); repeat' first | exact Cos.nil | exact Co.refl _ | exact Co.nil _ | refine Cos.cons ?_ ?_) ?_
    | refine okAsk (by simp [wClock]; omega) ?_
    | refine endFn0 (.inr rfl) rfl (.refl _) rfl
    | (exfalso; simp [hE] at *; done)
    | (exfalso; simp_all; done)
theorem rLine7Y_s [Wd] (hnum : NumOk) (a : ActD) (ha : dAct.ok { a with kind := 7 }) (hE : eqB { a with kind := 7 } (⟨7, a.who, 0, zOp, [], zMsg, false⟩ : ActD) = true) : FnP Tryz.prog 18 [.agg (cAct { a with kind := 7 })] (.tup [.str (lineF { a with kind := 7 }), .int .i64 0]) := by
  have hO := ha
  rw [dAct_ok] at ha
  obtain ⟨_, b2, b3, b4, b5, b6, b7⟩ := ha
  replace b2 : -9223372036854775808 ≤ a.who ∧ a.who ≤ 9223372036854775807 := b2
  replace b3 : -9223372036854775808 ≤ a.num ∧ a.num ≤ 9223372036854775807 := b3
  replace b5 : a.bytes.length ≤ 4194304 := b5
  have i1 := Lib.itoa_length_le a.who b2.1 b2.2
  have i2 := Lib.itoa_length_le a.num b3.1 b3.2
  have hx : dAct.ok (⟨7, a.who, 0, zOp, [], zMsg, false⟩ : ActD) := by
    rw [dAct_ok]
    exact ⟨i_ok (n := 7) (by omega), b2, i_ok (n := 0) (by omega), zOp_ok, zY_ok, zMsg_ok, trivial⟩
  refine mkS 137 [(19, ⟨[(0, false), (1, false), (2, false), (6, false), (7, false), (3, true), (4, false), (5, false), (8, true), (9, false), (10, false), (11, false)], []⟩)] Tryz.func18 rfl (by kernel_rfl) ?_
  repeat'
    (conv => arg 2; whnf)
    first
    | refine okAsk (by kernel_rfl) ?_
    | refine okBoth ?_ ?_
    | refine okBrT ?_
    | refine okBrF ?_
    | refine okBr (fun h => ?_) (fun h => ?_)
    | refine okFn (rWord7_s a) rfl (Cos.refl _) ?_
    | refine okFn (hnum a.num b3) rfl (Cos.refl _) ?_
    | refine okFn (hnum a.who b2) rfl (Cos.refl _) ?_
    | refine okFn (rAct_s { a with kind := 7 } (⟨7, a.who, 0, zOp, [], zMsg, false⟩ : ActD) hO hx) rfl (by refine Cos.cons (Co.refl _) (Cos.cons (Cos.mkAgg ?_) Cos.nil); repeat' first | exact Cos.nil | exact Co.refl _ | exact Co.nil _ | refine Cos.cons ?_ ?_) ?_
    | refine okAsk (by simp [wRead]; omega) ?_
    | (refine endT (.inr rfl) rfl ?_ rfl; simp [lineF, keepW, argW, kwN, joinF, cst]; done)
    | (exfalso; simp [hE] at *; done)
    | (exfalso; simp_all; done)
theorem rLine7N_s [Wd] (hnum : NumOk) (a : ActD) (ha : dAct.ok { a with kind := 7 }) (hE : eqB { a with kind := 7 } (⟨7, a.who, 0, zOp, [], zMsg, false⟩ : ActD) = false) : FnP Tryz.prog 18 [.agg (cAct { a with kind := 7 })] (.tup [.str [], .int .i64 1]) := by
  have hO := ha
  rw [dAct_ok] at ha
  obtain ⟨_, b2, b3, b4, b5, b6, b7⟩ := ha
  replace b2 : -9223372036854775808 ≤ a.who ∧ a.who ≤ 9223372036854775807 := b2
  replace b3 : -9223372036854775808 ≤ a.num ∧ a.num ≤ 9223372036854775807 := b3
  replace b5 : a.bytes.length ≤ 4194304 := b5
  have i1 := Lib.itoa_length_le a.who b2.1 b2.2
  have i2 := Lib.itoa_length_le a.num b3.1 b3.2
  have hx : dAct.ok (⟨7, a.who, 0, zOp, [], zMsg, false⟩ : ActD) := by
    rw [dAct_ok]
    exact ⟨i_ok (n := 7) (by omega), b2, i_ok (n := 0) (by omega), zOp_ok, zY_ok, zMsg_ok, trivial⟩
  refine mkS 137 [(19, ⟨[(0, false), (1, false), (2, false), (6, false), (7, false), (3, true), (4, false), (5, false), (8, true), (9, false), (10, false), (11, false)], []⟩)] Tryz.func18 rfl (by kernel_rfl) ?_
  repeat'
    (conv => arg 2; whnf)
    first
    | refine okAsk (by kernel_rfl) ?_
    | refine okBoth ?_ ?_
    | refine okBrT ?_
    | refine okBrF ?_
    | refine okBr (fun h => ?_) (fun h => ?_)
    | refine okFn (rWord7_s a) rfl (Cos.refl _) ?_
    | refine okFn (hnum a.num b3) rfl (Cos.refl _) ?_
    | refine okFn (hnum a.who b2) rfl (Cos.refl _) ?_
    | refine okFn (rAct_s { a with kind := 7 } (⟨7, a.who, 0, zOp, [], zMsg, false⟩ : ActD) hO hx) rfl (by refine Cos.cons (Co.refl _) (Cos.cons (Cos.mkAgg ?_) Cos.nil); repeat' first | exact Cos.nil | exact Co.refl _ | exact Co.nil _ | refine Cos.cons ?_ ?_) ?_
    | refine okAsk (by simp [wRead]; omega) ?_
    | refine endFn0 (.inr rfl) rfl (.refl _) rfl
    | (exfalso; simp [hE] at *; done)
    | (exfalso; simp_all; done)
theorem rLine8Y_s [Wd] (hnum : NumOk) (a : ActD) (ha : dAct.ok { a with kind := 8 }) (hE : eqB { a with kind := 8 } (⟨8, a.who, a.num, zOp, [], zMsg, false⟩ : ActD) = true) : FnP Tryz.prog 18 [.agg (cAct { a with kind := 8 })] (.tup [.str (lineF { a with kind := 8 }), .int .i64 0]) := by
  have hO := ha
  rw [dAct_ok] at ha
  obtain ⟨_, b2, b3, b4, b5, b6, b7⟩ := ha
  replace b2 : -9223372036854775808 ≤ a.who ∧ a.who ≤ 9223372036854775807 := b2
  replace b3 : -9223372036854775808 ≤ a.num ∧ a.num ≤ 9223372036854775807 := b3
  replace b5 : a.bytes.length ≤ 4194304 := b5
  have i1 := Lib.itoa_length_le a.who b2.1 b2.2
  have i2 := Lib.itoa_length_le a.num b3.1 b3.2
  have hx : dAct.ok (⟨8, a.who, a.num, zOp, [], zMsg, false⟩ : ActD) := by
    rw [dAct_ok]
    exact ⟨i_ok (n := 8) (by omega), b2, b3, zOp_ok, zY_ok, zMsg_ok, trivial⟩
  refine mkS 137 [(19, ⟨[(0, false), (1, false), (2, false), (6, false), (7, false), (3, true), (4, false), (5, false), (8, true), (9, false), (10, false), (11, false)], []⟩)] Tryz.func18 rfl (by kernel_rfl) ?_
  repeat'
    (conv => arg 2; whnf)
    first
    | refine okAsk (by kernel_rfl) ?_
    | refine okBoth ?_ ?_
    | refine okBrT ?_
    | refine okBrF ?_
    | refine okBr (fun h => ?_) (fun h => ?_)
    | refine okFn (rWord8_s a) rfl (Cos.refl _) ?_
    | refine okFn (hnum a.num b3) rfl (Cos.refl _) ?_
    | refine okFn (hnum a.who b2) rfl (Cos.refl _) ?_
    | refine okFn (rAct_s { a with kind := 8 } (⟨8, a.who, a.num, zOp, [], zMsg, false⟩ : ActD) hO hx) rfl (by refine Cos.cons (Co.refl _) (Cos.cons (Cos.mkAgg ?_) Cos.nil); repeat' first | exact Cos.nil | exact Co.refl _ | exact Co.nil _ | refine Cos.cons ?_ ?_) ?_
    | refine okAsk (by simp [wCrash]; omega) ?_
    | (refine endT (.inr rfl) rfl ?_ rfl; simp [lineF, keepW, argW, kwN, joinF, cst]; done)
    | (exfalso; simp [hE] at *; done)
    | (exfalso; simp_all; done)
theorem rLine8N_s [Wd] (hnum : NumOk) (a : ActD) (ha : dAct.ok { a with kind := 8 }) (hE : eqB { a with kind := 8 } (⟨8, a.who, a.num, zOp, [], zMsg, false⟩ : ActD) = false) : FnP Tryz.prog 18 [.agg (cAct { a with kind := 8 })] (.tup [.str [], .int .i64 1]) := by
  have hO := ha
  rw [dAct_ok] at ha
  obtain ⟨_, b2, b3, b4, b5, b6, b7⟩ := ha
  replace b2 : -9223372036854775808 ≤ a.who ∧ a.who ≤ 9223372036854775807 := b2
  replace b3 : -9223372036854775808 ≤ a.num ∧ a.num ≤ 9223372036854775807 := b3
  replace b5 : a.bytes.length ≤ 4194304 := b5
  have i1 := Lib.itoa_length_le a.who b2.1 b2.2
  have i2 := Lib.itoa_length_le a.num b3.1 b3.2
  have hx : dAct.ok (⟨8, a.who, a.num, zOp, [], zMsg, false⟩ : ActD) := by
    rw [dAct_ok]
    exact ⟨i_ok (n := 8) (by omega), b2, b3, zOp_ok, zY_ok, zMsg_ok, trivial⟩
  refine mkS 137 [(19, ⟨[(0, false), (1, false), (2, false), (6, false), (7, false), (3, true), (4, false), (5, false), (8, true), (9, false), (10, false), (11, false)], []⟩)] Tryz.func18 rfl (by kernel_rfl) ?_
  repeat'
    (conv => arg 2; whnf)
    first
    | refine okAsk (by kernel_rfl) ?_
    | refine okBoth ?_ ?_
    | refine okBrT ?_
    | refine okBrF ?_
    | refine okBr (fun h => ?_) (fun h => ?_)
    | refine okFn (rWord8_s a) rfl (Cos.refl _) ?_
    | refine okFn (hnum a.num b3) rfl (Cos.refl _) ?_
    | refine okFn (hnum a.who b2) rfl (Cos.refl _) ?_
    | refine okFn (rAct_s { a with kind := 8 } (⟨8, a.who, a.num, zOp, [], zMsg, false⟩ : ActD) hO hx) rfl (by refine Cos.cons (Co.refl _) (Cos.cons (Cos.mkAgg ?_) Cos.nil); repeat' first | exact Cos.nil | exact Co.refl _ | exact Co.nil _ | refine Cos.cons ?_ ?_) ?_
    | refine okAsk (by simp [wCrash]; omega) ?_
    | refine endFn0 (.inr rfl) rfl (.refl _) rfl
    | (exfalso; simp [hE] at *; done)
    | (exfalso; simp_all; done)
theorem rLine9Y_s [Wd] (hnum : NumOk) (a : ActD) (ha : dAct.ok { a with kind := 9 }) (hE : eqB { a with kind := 9 } (⟨9, a.who, 0, zOp, [], zMsg, false⟩ : ActD) = true) : FnP Tryz.prog 18 [.agg (cAct { a with kind := 9 })] (.tup [.str (lineF { a with kind := 9 }), .int .i64 0]) := by
  have hO := ha
  rw [dAct_ok] at ha
  obtain ⟨_, b2, b3, b4, b5, b6, b7⟩ := ha
  replace b2 : -9223372036854775808 ≤ a.who ∧ a.who ≤ 9223372036854775807 := b2
  replace b3 : -9223372036854775808 ≤ a.num ∧ a.num ≤ 9223372036854775807 := b3
  replace b5 : a.bytes.length ≤ 4194304 := b5
  have i1 := Lib.itoa_length_le a.who b2.1 b2.2
  have i2 := Lib.itoa_length_le a.num b3.1 b3.2
  have hx : dAct.ok (⟨9, a.who, 0, zOp, [], zMsg, false⟩ : ActD) := by
    rw [dAct_ok]
    exact ⟨i_ok (n := 9) (by omega), b2, i_ok (n := 0) (by omega), zOp_ok, zY_ok, zMsg_ok, trivial⟩
  refine mkS 137 [(19, ⟨[(0, false), (1, false), (2, false), (6, false), (7, false), (3, true), (4, false), (5, false), (8, true), (9, false), (10, false), (11, false)], []⟩)] Tryz.func18 rfl (by kernel_rfl) ?_
  repeat'
    (conv => arg 2; whnf)
    first
    | refine okAsk (by kernel_rfl) ?_
    | refine okBoth ?_ ?_
    | refine okBrT ?_
    | refine okBrF ?_
    | refine okBr (fun h => ?_) (fun h => ?_)
    | refine okFn (rWord9_s a) rfl (Cos.refl _) ?_
    | refine okFn (hnum a.num b3) rfl (Cos.refl _) ?_
    | refine okFn (hnum a.who b2) rfl (Cos.refl _) ?_
    | refine okFn (rAct_s { a with kind := 9 } (⟨9, a.who, 0, zOp, [], zMsg, false⟩ : ActD) hO hx) rfl (by refine Cos.cons (Co.refl _) (Cos.cons (Cos.mkAgg ?_) Cos.nil); repeat' first | exact Cos.nil | exact Co.refl _ | exact Co.nil _ | refine Cos.cons ?_ ?_) ?_
    | refine okAsk (by simp [wStart]; omega) ?_
    | (refine endT (.inr rfl) rfl ?_ rfl; simp [lineF, keepW, argW, kwN, joinF, cst]; done)
    | (exfalso; simp [hE] at *; done)
    | (exfalso; simp_all; done)
theorem rLine9N_s [Wd] (hnum : NumOk) (a : ActD) (ha : dAct.ok { a with kind := 9 }) (hE : eqB { a with kind := 9 } (⟨9, a.who, 0, zOp, [], zMsg, false⟩ : ActD) = false) : FnP Tryz.prog 18 [.agg (cAct { a with kind := 9 })] (.tup [.str [], .int .i64 1]) := by
  have hO := ha
  rw [dAct_ok] at ha
  obtain ⟨_, b2, b3, b4, b5, b6, b7⟩ := ha
  replace b2 : -9223372036854775808 ≤ a.who ∧ a.who ≤ 9223372036854775807 := b2
  replace b3 : -9223372036854775808 ≤ a.num ∧ a.num ≤ 9223372036854775807 := b3
  replace b5 : a.bytes.length ≤ 4194304 := b5
  have i1 := Lib.itoa_length_le a.who b2.1 b2.2
  have i2 := Lib.itoa_length_le a.num b3.1 b3.2
  have hx : dAct.ok (⟨9, a.who, 0, zOp, [], zMsg, false⟩ : ActD) := by
    rw [dAct_ok]
    exact ⟨i_ok (n := 9) (by omega), b2, i_ok (n := 0) (by omega), zOp_ok, zY_ok, zMsg_ok, trivial⟩
  refine mkS 137 [(19, ⟨[(0, false), (1, false), (2, false), (6, false), (7, false), (3, true), (4, false), (5, false), (8, true), (9, false), (10, false), (11, false)], []⟩)] Tryz.func18 rfl (by kernel_rfl) ?_
  repeat'
    (conv => arg 2; whnf)
    first
    | refine okAsk (by kernel_rfl) ?_
    | refine okBoth ?_ ?_
    | refine okBrT ?_
    | refine okBrF ?_
    | refine okBr (fun h => ?_) (fun h => ?_)
    | refine okFn (rWord9_s a) rfl (Cos.refl _) ?_
    | refine okFn (hnum a.num b3) rfl (Cos.refl _) ?_
    | refine okFn (hnum a.who b2) rfl (Cos.refl _) ?_
    | refine okFn (rAct_s { a with kind := 9 } (⟨9, a.who, 0, zOp, [], zMsg, false⟩ : ActD) hO hx) rfl (by refine Cos.cons (Co.refl _) (Cos.cons (Cos.mkAgg ?_) Cos.nil); repeat' first | exact Cos.nil | exact Co.refl _ | exact Co.nil _ | refine Cos.cons ?_ ?_) ?_
    | refine okAsk (by simp [wStart]; omega) ?_
    | refine endFn0 (.inr rfl) rfl (.refl _) rfl
    | (exfalso; simp [hE] at *; done)
    | (exfalso; simp_all; done)
theorem rLine12Y_s [Wd] (hnum : NumOk) (a : ActD) (ha : dAct.ok { a with kind := 12 }) (hE : eqB { a with kind := 12 } (⟨12, 0, 0, zOp, [], zMsg, false⟩ : ActD) = true) : FnP Tryz.prog 18 [.agg (cAct { a with kind := 12 })] (.tup [.str (lineF { a with kind := 12 }), .int .i64 0]) := by
  have hO := ha
  rw [dAct_ok] at ha
  obtain ⟨_, b2, b3, b4, b5, b6, b7⟩ := ha
  replace b2 : -9223372036854775808 ≤ a.who ∧ a.who ≤ 9223372036854775807 := b2
  replace b3 : -9223372036854775808 ≤ a.num ∧ a.num ≤ 9223372036854775807 := b3
  replace b5 : a.bytes.length ≤ 4194304 := b5
  have i1 := Lib.itoa_length_le a.who b2.1 b2.2
  have i2 := Lib.itoa_length_le a.num b3.1 b3.2
  have hx : dAct.ok (⟨12, 0, 0, zOp, [], zMsg, false⟩ : ActD) := by
    rw [dAct_ok]
    exact ⟨i_ok (n := 12) (by omega), i_ok (n := 0) (by omega), i_ok (n := 0) (by omega), zOp_ok, zY_ok, zMsg_ok, trivial⟩
  refine mkS 137 [(19, ⟨[(0, false), (1, false), (2, false), (6, false), (7, false), (3, true), (4, false), (5, false), (8, true), (9, false), (10, false), (11, false)], []⟩)] Tryz.func18 rfl (by kernel_rfl) ?_
  repeat'
    (conv => arg 2; whnf)
    first
    | refine okAsk (by kernel_rfl) ?_
    | refine okBoth ?_ ?_
    | refine okBrT ?_
    | refine okBrF ?_
    | refine okBr (fun h => ?_) (fun h => ?_)
    | refine okFn (rWord12_s a) rfl (Cos.refl _) ?_
    | refine okFn (hnum a.num b3) rfl (Cos.refl _) ?_
    | refine okFn (hnum a.who b2) rfl (Cos.refl _) ?_
    | refine okFn (rAct_s { a with kind := 12 } (⟨12, 0, 0, zOp, [], zMsg, false⟩ : ActD) hO hx) rfl (by refine Cos.cons (Co.refl _) (Cos.cons (Cos.mkAgg ?_) Cos.nil); repeat' first | exact Cos.nil | exact Co.refl _ | exact Co.nil _ | refine Cos.cons ?_ ?_) ?_
    | refine okAsk (by simp [wRound]; omega) ?_
    | (refine endT (.inr rfl) rfl ?_ rfl; simp [lineF, keepW, argW, kwN, joinF, cst]; done)
    | (exfalso; simp [hE] at *; done)
    | (exfalso; simp_all; done)
theorem rLine12N_s [Wd] (hnum : NumOk) (a : ActD) (ha : dAct.ok { a with kind := 12 }) (hE : eqB { a with kind := 12 } (⟨12, 0, 0, zOp, [], zMsg, false⟩ : ActD) = false) : FnP Tryz.prog 18 [.agg (cAct { a with kind := 12 })] (.tup [.str [], .int .i64 1]) := by
  have hO := ha
  rw [dAct_ok] at ha
  obtain ⟨_, b2, b3, b4, b5, b6, b7⟩ := ha
  replace b2 : -9223372036854775808 ≤ a.who ∧ a.who ≤ 9223372036854775807 := b2
  replace b3 : -9223372036854775808 ≤ a.num ∧ a.num ≤ 9223372036854775807 := b3
  replace b5 : a.bytes.length ≤ 4194304 := b5
  have i1 := Lib.itoa_length_le a.who b2.1 b2.2
  have i2 := Lib.itoa_length_le a.num b3.1 b3.2
  have hx : dAct.ok (⟨12, 0, 0, zOp, [], zMsg, false⟩ : ActD) := by
    rw [dAct_ok]
    exact ⟨i_ok (n := 12) (by omega), i_ok (n := 0) (by omega), i_ok (n := 0) (by omega), zOp_ok, zY_ok, zMsg_ok, trivial⟩
  refine mkS 137 [(19, ⟨[(0, false), (1, false), (2, false), (6, false), (7, false), (3, true), (4, false), (5, false), (8, true), (9, false), (10, false), (11, false)], []⟩)] Tryz.func18 rfl (by kernel_rfl) ?_
  repeat'
    (conv => arg 2; whnf)
    first
    | refine okAsk (by kernel_rfl) ?_
    | refine okBoth ?_ ?_
    | refine okBrT ?_
    | refine okBrF ?_
    | refine okBr (fun h => ?_) (fun h => ?_)
    | refine okFn (rWord12_s a) rfl (Cos.refl _) ?_
    | refine okFn (hnum a.num b3) rfl (Cos.refl _) ?_
    | refine okFn (hnum a.who b2) rfl (Cos.refl _) ?_
    | refine okFn (rAct_s { a with kind := 12 } (⟨12, 0, 0, zOp, [], zMsg, false⟩ : ActD) hO hx) rfl (by refine Cos.cons (Co.refl _) (Cos.cons (Cos.mkAgg ?_) Cos.nil); repeat' first | exact Cos.nil | exact Co.refl _ | exact Co.nil _ | refine Cos.cons ?_ ?_) ?_
    | refine okAsk (by simp [wRound]; omega) ?_
    | refine endFn0 (.inr rfl) rfl (.refl _) rfl
    | (exfalso; simp [hE] at *; done)
    | (exfalso; simp_all; done)
theorem ownS_dok {m : MsgD} (hm : dMsg.ok m) : (ownS m).key ≤ 9223372036854775807 ∧ (ownS m).digest ≤ 9223372036854775807 := by
  have hs : ∀ s : SignD, dSign.ok s → s.key ≤ 9223372036854775807 ∧ s.digest ≤ 9223372036854775807 := fun s h => ⟨h.1.2, h.2.2⟩
  rw [dMsg_ok] at hm
  obtain ⟨h1, h2, h3, h4, h5, h6, h7, h8, h9, h10, h11, h12, h13, h14, h15, h16, h17⟩ := hm
  unfold ownS
  split
  · split
    · rename_i c hc
      have h := h11.2 c (by rw [hc]; simp)
      rw [dChange_ok] at h
      exact hs _ h.2.2.2.2
    · exact hs _ h17
  · exact hs _ h17
theorem hexF_l (b : List UInt8) : (hexF b).length ≤ 1 + 2 * b.length := hexP_l b
theorem rLine10Y_s [Wd] (hnum : NumOk) (a : ActD) (ha : dAct.ok { a with kind := 10 })  (hE : eqB { a with kind := 10 } (⟨10, 0, 0, zOp, a.bytes, zMsg, false⟩ : ActD) = true) : FnP Tryz.prog 18 [.agg (cAct { a with kind := 10 })] (.tup [.str (lineF { a with kind := 10 }), .int .i64 0]) := by
  have hO := ha
  rw [dAct_ok] at ha
  obtain ⟨_, b2, b3, b4, b5, b6, b7⟩ := ha
  replace b2 : -9223372036854775808 ≤ a.who ∧ a.who ≤ 9223372036854775807 := b2
  replace b3 : -9223372036854775808 ≤ a.num ∧ a.num ≤ 9223372036854775807 := b3
  replace b5 : a.bytes.length ≤ 4194304 := b5
  have i1 := Lib.itoa_length_le a.who b2.1 b2.2
  have i2 := Lib.itoa_length_le a.num b3.1 b3.2
  have hx : dAct.ok (⟨10, 0, 0, zOp, a.bytes, zMsg, false⟩ : ActD) := by
    rw [dAct_ok]
    exact ⟨i_ok (n := 10) (by omega), i_ok (n := 0) (by omega), i_ok (n := 0) (by omega), zOp_ok, b5, zMsg_ok, trivial⟩
  have q1 := hexF_l a.bytes
  refine mkS 137 [(19, ⟨[(0, false), (1, false), (2, false), (6, false), (7, false), (3, true), (4, false), (5, false), (8, true), (9, false), (10, false), (11, false)], []⟩)] Tryz.func18 rfl (by kernel_rfl) ?_
  repeat'
    (conv => arg 2; whnf)
    first
    | refine okAsk (by kernel_rfl) ?_
    | refine okBoth ?_ ?_
    | refine okBrT ?_
    | refine okBrF ?_
    | refine okBr (fun h => ?_) (fun h => ?_)
    | refine okFn (rWord10_s a) rfl (Cos.refl _) ?_
    | refine okFn (hnum a.who b2) rfl (Cos.refl _) ?_
    | refine okFn (rHex_s a.bytes (by omega)) rfl (Cos.refl _) ?_
    | refine okFn (rAct_s { a with kind := 10 } (⟨10, 0, 0, zOp, a.bytes, zMsg, false⟩ : ActD) hO hx) rfl (by refine Cos.cons (Co.refl _) (Cos.cons (Cos.mkAgg ?_) Cos.nil); repeat' first | exact Cos.nil | exact Co.refl _ | exact Co.nil _ | refine Cos.cons ?_ ?_) ?_
    | refine okAsk (by simp [wHash]; omega) ?_
    | (refine endT (.inr rfl) rfl ?_ rfl; simp [lineF, keepW, argW, kwN, joinF, cst, msgW]; done)
    | (exfalso; simp [hE] at *; done)
    | (exfalso; simp_all; done)
theorem rLine10N_s [Wd] (hnum : NumOk) (a : ActD) (ha : dAct.ok { a with kind := 10 })  (hE : eqB { a with kind := 10 } (⟨10, 0, 0, zOp, a.bytes, zMsg, false⟩ : ActD) = false) : FnP Tryz.prog 18 [.agg (cAct { a with kind := 10 })] (.tup [.str [], .int .i64 1]) := by
  have hO := ha
  rw [dAct_ok] at ha
  obtain ⟨_, b2, b3, b4, b5, b6, b7⟩ := ha
  replace b2 : -9223372036854775808 ≤ a.who ∧ a.who ≤ 9223372036854775807 := b2
  replace b3 : -9223372036854775808 ≤ a.num ∧ a.num ≤ 9223372036854775807 := b3
  replace b5 : a.bytes.length ≤ 4194304 := b5
  have i1 := Lib.itoa_length_le a.who b2.1 b2.2
  have i2 := Lib.itoa_length_le a.num b3.1 b3.2
  have hx : dAct.ok (⟨10, 0, 0, zOp, a.bytes, zMsg, false⟩ : ActD) := by
    rw [dAct_ok]
    exact ⟨i_ok (n := 10) (by omega), i_ok (n := 0) (by omega), i_ok (n := 0) (by omega), zOp_ok, b5, zMsg_ok, trivial⟩
  have q1 := hexF_l a.bytes
  refine mkS 137 [(19, ⟨[(0, false), (1, false), (2, false), (6, false), (7, false), (3, true), (4, false), (5, false), (8, true), (9, false), (10, false), (11, false)], []⟩)] Tryz.func18 rfl (by kernel_rfl) ?_
  repeat'
    (conv => arg 2; whnf)
    first
    | refine okAsk (by kernel_rfl) ?_
    | refine okBoth ?_ ?_
    | refine okBrT ?_
    | refine okBrF ?_
    | refine okBr (fun h => ?_) (fun h => ?_)
    | refine okFn (rWord10_s a) rfl (Cos.refl _) ?_
    | refine okFn (hnum a.who b2) rfl (Cos.refl _) ?_
    | refine okFn (rHex_s a.bytes (by omega)) rfl (Cos.refl _) ?_
    | refine okFn (rAct_s { a with kind := 10 } (⟨10, 0, 0, zOp, a.bytes, zMsg, false⟩ : ActD) hO hx) rfl (by refine Cos.cons (Co.refl _) (Cos.cons (Cos.mkAgg ?_) Cos.nil); repeat' first | exact Cos.nil | exact Co.refl _ | exact Co.nil _ | refine Cos.cons ?_ ?_) ?_
    | refine okAsk (by simp [wHash]; omega) ?_
    | refine endFn0 (.inr rfl) rfl (.refl _) rfl
    | (exfalso; simp [hE] at *; done)
    | (exfalso; simp_all; done)
theorem rLine6Y_s [Wd] (hnum : NumOk) (a : ActD) (ha : dAct.ok { a with kind := 6 }) (h0 : opE a.op = 0) (hE : eqB { a with kind := 6 } (⟨6, a.who, 0, a.op, [], zMsg, false⟩ : ActD) = true) : FnP Tryz.prog 18 [.agg (cAct { a with kind := 6 })] (.tup [.str (lineF { a with kind := 6 }), .int .i64 0]) := by
  have hO := ha
  rw [dAct_ok] at ha
  obtain ⟨_, b2, b3, b4, b5, b6, b7⟩ := ha
  replace b2 : -9223372036854775808 ≤ a.who ∧ a.who ≤ 9223372036854775807 := b2
  replace b3 : -9223372036854775808 ≤ a.num ∧ a.num ≤ 9223372036854775807 := b3
  replace b5 : a.bytes.length ≤ 4194304 := b5
  have i1 := Lib.itoa_length_le a.who b2.1 b2.2
  have i2 := Lib.itoa_length_le a.num b3.1 b3.2
  have hx : dAct.ok (⟨6, a.who, 0, a.op, [], zMsg, false⟩ : ActD) := by
    rw [dAct_ok]
    exact ⟨i_ok (n := 6) (by omega), b2, i_ok (n := 0) (by omega), b4, zY_ok, zMsg_ok, trivial⟩
  have l1 := opB_short h0
  have q1 := hexF_l (opB a.op)
  have hb := rOpBytes_s a.op b4
  rw [if_pos h0] at hb
  refine mkS 137 [(19, ⟨[(0, false), (1, false), (2, false), (6, false), (7, false), (3, true), (4, false), (5, false), (8, true), (9, false), (10, false), (11, false)], []⟩)] Tryz.func18 rfl (by kernel_rfl) ?_
  repeat'
    (conv => arg 2; whnf)
    first
    | refine okAsk (by kernel_rfl) ?_
    | refine okBoth ?_ ?_
    | refine okBrT ?_
    | refine okBrF ?_
    | refine okBr (fun h => ?_) (fun h => ?_)
    | refine okFn (rWord6_s a) rfl (Cos.refl _) ?_
    | refine okFn (hnum a.who b2) rfl (Cos.refl _) ?_
    | refine okFn (hb) rfl (Cos.refl _) ?_
    | refine okFn (rHex_s (opB a.op) (by omega)) rfl (Cos.refl _) ?_
    | refine okFn (rAct_s { a with kind := 6 } (⟨6, a.who, 0, a.op, [], zMsg, false⟩ : ActD) hO hx) rfl (by refine Cos.cons (Co.refl _) (Cos.cons (Cos.mkAgg ?_) Cos.nil); repeat' first | exact Cos.nil | exact Co.refl _ | exact Co.nil _ | refine Cos.cons ?_ ?_) ?_
    | refine okAsk (by simp [wAsk]; omega) ?_
    | (refine endT (.inr rfl) rfl ?_ rfl; simp [lineF, keepW, argW, kwN, joinF, cst, msgW]; done)
    | (exfalso; simp [hE] at *; done)
    | (exfalso; simp_all; done)
theorem rLine6N_s [Wd] (hnum : NumOk) (a : ActD) (ha : dAct.ok { a with kind := 6 }) (h0 : opE a.op = 0) (hE : eqB { a with kind := 6 } (⟨6, a.who, 0, a.op, [], zMsg, false⟩ : ActD) = false) : FnP Tryz.prog 18 [.agg (cAct { a with kind := 6 })] (.tup [.str [], .int .i64 1]) := by
  have hO := ha
  rw [dAct_ok] at ha
  obtain ⟨_, b2, b3, b4, b5, b6, b7⟩ := ha
  replace b2 : -9223372036854775808 ≤ a.who ∧ a.who ≤ 9223372036854775807 := b2
  replace b3 : -9223372036854775808 ≤ a.num ∧ a.num ≤ 9223372036854775807 := b3
  replace b5 : a.bytes.length ≤ 4194304 := b5
  have i1 := Lib.itoa_length_le a.who b2.1 b2.2
  have i2 := Lib.itoa_length_le a.num b3.1 b3.2
  have hx : dAct.ok (⟨6, a.who, 0, a.op, [], zMsg, false⟩ : ActD) := by
    rw [dAct_ok]
    exact ⟨i_ok (n := 6) (by omega), b2, i_ok (n := 0) (by omega), b4, zY_ok, zMsg_ok, trivial⟩
  have l1 := opB_short h0
  have q1 := hexF_l (opB a.op)
  have hb := rOpBytes_s a.op b4
  rw [if_pos h0] at hb
  refine mkS 137 [(19, ⟨[(0, false), (1, false), (2, false), (6, false), (7, false), (3, true), (4, false), (5, false), (8, true), (9, false), (10, false), (11, false)], []⟩)] Tryz.func18 rfl (by kernel_rfl) ?_
  repeat'
    (conv => arg 2; whnf)
    first
    | refine okAsk (by kernel_rfl) ?_
    | refine okBoth ?_ ?_
    | refine okBrT ?_
    | refine okBrF ?_
    | refine okBr (fun h => ?_) (fun h => ?_)
    | refine okFn (rWord6_s a) rfl (Cos.refl _) ?_
    | refine okFn (hnum a.who b2) rfl (Cos.refl _) ?_
    | refine okFn (hb) rfl (Cos.refl _) ?_
    | refine okFn (rHex_s (opB a.op) (by omega)) rfl (Cos.refl _) ?_
    | refine okFn (rAct_s { a with kind := 6 } (⟨6, a.who, 0, a.op, [], zMsg, false⟩ : ActD) hO hx) rfl (by refine Cos.cons (Co.refl _) (Cos.cons (Cos.mkAgg ?_) Cos.nil); repeat' first | exact Cos.nil | exact Co.refl _ | exact Co.nil _ | refine Cos.cons ?_ ?_) ?_
    | refine okAsk (by simp [wAsk]; omega) ?_
    | refine endFn0 (.inr rfl) rfl (.refl _) rfl
    | (exfalso; simp [hE] at *; done)
    | (exfalso; simp_all; done)
theorem rLine6E_s [Wd] (a : ActD) (ha : dAct.ok { a with kind := 6 }) (h0 : ¬ opE a.op = 0) : FnP Tryz.prog 18 [.agg (cAct { a with kind := 6 })] (.tup [.str [], .int .i64 1]) := by
  have hO := ha
  rw [dAct_ok] at ha
  obtain ⟨_, b2, b3, b4, b5, b6, b7⟩ := ha
  replace b2 : -9223372036854775808 ≤ a.who ∧ a.who ≤ 9223372036854775807 := b2
  replace b3 : -9223372036854775808 ≤ a.num ∧ a.num ≤ 9223372036854775807 := b3
  replace b5 : a.bytes.length ≤ 4194304 := b5
  have i1 := Lib.itoa_length_le a.who b2.1 b2.2
  have i2 := Lib.itoa_length_le a.num b3.1 b3.2
  have hb := rOpBytes_s a.op b4
  rw [if_neg h0] at hb
  refine mkS 137 [(19, ⟨[(0, false), (1, false), (2, false), (6, false), (7, false), (3, true), (4, false), (5, false), (8, true), (9, false), (10, false), (11, false)], []⟩)] Tryz.func18 rfl (by kernel_rfl) ?_
  repeat'
    (conv => arg 2; whnf)
    first
    | refine okAsk (by kernel_rfl) ?_
    | refine okBoth ?_ ?_
    | refine okBrT ?_
    | refine okBrF ?_
    | refine okBr (fun h => ?_) (fun h => ?_)
    | refine okFn (rWord6_s a) rfl (Cos.refl _) ?_
    | refine okFn (hb) rfl (Cos.refl _) ?_
    | refine endFn0 (.inr rfl) rfl (.refl _) rfl
    | (exfalso; simp [h0] at *; done)
    | (exfalso; simp_all; done)
theorem rLine11trueY_s [Wd] (hnum : NumOk) (a : ActD) (ha : dAct.ok { a with kind := 11 }) (hs : a.sealed = true) (hw : wordsOk a.msg) (hE : eqB { a with kind := 11 } (⟨11, a.who, 0, zOp, [], a.msg, a.sealed⟩ : ActD) = true) : FnP Tryz.prog 18 [.agg (cAct { a with kind := 11 })] (.tup [.str (lineF { a with kind := 11 }), .int .i64 0]) := by
  have hO := ha
  rw [dAct_ok] at ha
  obtain ⟨_, b2, b3, b4, b5, b6, b7⟩ := ha
  replace b2 : -9223372036854775808 ≤ a.who ∧ a.who ≤ 9223372036854775807 := b2
  replace b3 : -9223372036854775808 ≤ a.num ∧ a.num ≤ 9223372036854775807 := b3
  replace b5 : a.bytes.length ≤ 4194304 := b5
  have i1 := Lib.itoa_length_le a.who b2.1 b2.2
  have i2 := Lib.itoa_length_le a.num b3.1 b3.2
  have hx : dAct.ok (⟨11, a.who, 0, zOp, [], a.msg, a.sealed⟩ : ActD) := by
    rw [dAct_ok]
    exact ⟨i_ok (n := 11) (by omega), b2, i_ok (n := 0) (by omega), zOp_ok, zY_ok, b6, trivial⟩
  have ho : (ownS a.msg).key ≤ 9223372036854775807 ∧ (ownS a.msg).digest ≤ 9223372036854775807 := ownS_dok b6
  have hi := (words_iff a.msg).1 hw
  have l1 := unsB_len (msgE_kind (checkE_msg (bytesE0.1 hi.1).1))
  rw [unsB_withS] at l1
  have q1 := hexF_l (unsB a.msg)
  have e1 := encLe10 (ownS a.msg).key.toNat (by omega)
  have e2 := encLe10 (ownS a.msg).digest.toNat (by omega)
  have q2 := hexF_l (enc (ownS a.msg).key.toNat ++ enc (ownS a.msg).digest.toNat)
  rw [List.length_append] at q2
  have q3 : (signW (ownS a.msg)).length ≤ 41 := by unfold signW; omega
  refine mkS 137 [(19, ⟨[(0, false), (1, false), (2, false), (6, false), (7, false), (3, true), (4, false), (5, false), (8, true), (9, false), (10, false), (11, false)], []⟩)] Tryz.func18 rfl (by kernel_rfl) ?_
  repeat'
    (conv => arg 2; whnf)
    first
    | refine okAsk (by kernel_rfl) ?_
    | refine okBoth ?_ ?_
    | refine okBrT ?_
    | refine okBrF ?_
    | refine okBr (fun h => ?_) (fun h => ?_)
    | refine okFn (rWord11true_s a hs) rfl (Cos.refl _) ?_
    | refine okFn (hnum a.who b2) rfl (Cos.refl _) ?_
    | refine okFn (rMessageY_s a.msg b6 hw ho) rfl (Cos.refl _) ?_
    | refine okFn (rAct_s { a with kind := 11 } (⟨11, a.who, 0, zOp, [], a.msg, a.sealed⟩ : ActD) hO hx) rfl (by refine Cos.cons (Co.refl _) (Cos.cons (Cos.mkAgg ?_) Cos.nil); repeat' first | exact Cos.nil | exact Co.refl _ | exact Co.nil _ | refine Cos.cons ?_ ?_) ?_
    | refine okAsk (by simp [wSeal]; omega) ?_
    | (refine endT (.inr rfl) rfl ?_ rfl; simp [lineF, keepW, argW, kwN, joinF, cst, msgW, hs]; done)
    | (exfalso; simp [hE] at *; done)
    | (exfalso; simp_all; done)
theorem rLine11trueN_s [Wd] (hnum : NumOk) (a : ActD) (ha : dAct.ok { a with kind := 11 }) (hs : a.sealed = true) (hw : wordsOk a.msg) (hE : eqB { a with kind := 11 } (⟨11, a.who, 0, zOp, [], a.msg, a.sealed⟩ : ActD) = false) : FnP Tryz.prog 18 [.agg (cAct { a with kind := 11 })] (.tup [.str [], .int .i64 1]) := by
  have hO := ha
  rw [dAct_ok] at ha
  obtain ⟨_, b2, b3, b4, b5, b6, b7⟩ := ha
  replace b2 : -9223372036854775808 ≤ a.who ∧ a.who ≤ 9223372036854775807 := b2
  replace b3 : -9223372036854775808 ≤ a.num ∧ a.num ≤ 9223372036854775807 := b3
  replace b5 : a.bytes.length ≤ 4194304 := b5
  have i1 := Lib.itoa_length_le a.who b2.1 b2.2
  have i2 := Lib.itoa_length_le a.num b3.1 b3.2
  have hx : dAct.ok (⟨11, a.who, 0, zOp, [], a.msg, a.sealed⟩ : ActD) := by
    rw [dAct_ok]
    exact ⟨i_ok (n := 11) (by omega), b2, i_ok (n := 0) (by omega), zOp_ok, zY_ok, b6, trivial⟩
  have ho : (ownS a.msg).key ≤ 9223372036854775807 ∧ (ownS a.msg).digest ≤ 9223372036854775807 := ownS_dok b6
  have hi := (words_iff a.msg).1 hw
  have l1 := unsB_len (msgE_kind (checkE_msg (bytesE0.1 hi.1).1))
  rw [unsB_withS] at l1
  have q1 := hexF_l (unsB a.msg)
  have e1 := encLe10 (ownS a.msg).key.toNat (by omega)
  have e2 := encLe10 (ownS a.msg).digest.toNat (by omega)
  have q2 := hexF_l (enc (ownS a.msg).key.toNat ++ enc (ownS a.msg).digest.toNat)
  rw [List.length_append] at q2
  have q3 : (signW (ownS a.msg)).length ≤ 41 := by unfold signW; omega
  refine mkS 137 [(19, ⟨[(0, false), (1, false), (2, false), (6, false), (7, false), (3, true), (4, false), (5, false), (8, true), (9, false), (10, false), (11, false)], []⟩)] Tryz.func18 rfl (by kernel_rfl) ?_
  repeat'
    (conv => arg 2; whnf)
    first
    | refine okAsk (by kernel_rfl) ?_
    | refine okBoth ?_ ?_
    | refine okBrT ?_
    | refine okBrF ?_
    | refine okBr (fun h => ?_) (fun h => ?_)
    | refine okFn (rWord11true_s a hs) rfl (Cos.refl _) ?_
    | refine okFn (hnum a.who b2) rfl (Cos.refl _) ?_
    | refine okFn (rMessageY_s a.msg b6 hw ho) rfl (Cos.refl _) ?_
    | refine okFn (rAct_s { a with kind := 11 } (⟨11, a.who, 0, zOp, [], a.msg, a.sealed⟩ : ActD) hO hx) rfl (by refine Cos.cons (Co.refl _) (Cos.cons (Cos.mkAgg ?_) Cos.nil); repeat' first | exact Cos.nil | exact Co.refl _ | exact Co.nil _ | refine Cos.cons ?_ ?_) ?_
    | refine okAsk (by simp [wSeal]; omega) ?_
    | refine endFn0 (.inr rfl) rfl (.refl _) rfl
    | (exfalso; simp [hE] at *; done)
    | (exfalso; simp_all; done)
theorem rLine11trueE_s [Wd] (a : ActD) (ha : dAct.ok { a with kind := 11 }) (hs : a.sealed = true) (hw : ¬ wordsOk a.msg) : FnP Tryz.prog 18 [.agg (cAct { a with kind := 11 })] (.tup [.str [], .int .i64 1]) := by
  have hO := ha
  rw [dAct_ok] at ha
  obtain ⟨_, b2, b3, b4, b5, b6, b7⟩ := ha
  replace b2 : -9223372036854775808 ≤ a.who ∧ a.who ≤ 9223372036854775807 := b2
  replace b3 : -9223372036854775808 ≤ a.num ∧ a.num ≤ 9223372036854775807 := b3
  replace b5 : a.bytes.length ≤ 4194304 := b5
  have i1 := Lib.itoa_length_le a.who b2.1 b2.2
  have i2 := Lib.itoa_length_le a.num b3.1 b3.2
  have hmm : FnP Tryz.prog 37 [.agg (cMsg a.msg)] (.tup [.str [], .bool false]) := by
    by_cases hB : bytesE (withS a.msg) = 0
    · exact rMessageN_s a.msg b6 hB hw
    · exact rMessage0_s a.msg b6 hB
  refine mkS 137 [(19, ⟨[(0, false), (1, false), (2, false), (6, false), (7, false), (3, true), (4, false), (5, false), (8, true), (9, false), (10, false), (11, false)], []⟩)] Tryz.func18 rfl (by kernel_rfl) ?_
  repeat'
    (conv => arg 2; whnf)
    first
    | refine okAsk (by kernel_rfl) ?_
    | refine okBoth ?_ ?_
    | refine okBrT ?_
    | refine okBrF ?_
    | refine okBr (fun h => ?_) (fun h => ?_)
    | refine okFn (rWord11true_s a hs) rfl (Cos.refl _) ?_
    | refine okFn (hmm) rfl (Cos.refl _) ?_
    | refine endFn0 (.inr rfl) rfl (.refl _) rfl
    | (exfalso; simp_all; done)
theorem rLine11falseY_s [Wd] (hnum : NumOk) (a : ActD) (ha : dAct.ok { a with kind := 11 }) (hs : a.sealed = false) (hw : wordsOk a.msg) (hE : eqB { a with kind := 11 } (⟨11, a.who, 0, zOp, [], a.msg, a.sealed⟩ : ActD) = true) : FnP Tryz.prog 18 [.agg (cAct { a with kind := 11 })] (.tup [.str (lineF { a with kind := 11 }), .int .i64 0]) := by
  have hO := ha
  rw [dAct_ok] at ha
  obtain ⟨_, b2, b3, b4, b5, b6, b7⟩ := ha
  replace b2 : -9223372036854775808 ≤ a.who ∧ a.who ≤ 9223372036854775807 := b2
  replace b3 : -9223372036854775808 ≤ a.num ∧ a.num ≤ 9223372036854775807 := b3
  replace b5 : a.bytes.length ≤ 4194304 := b5
  have i1 := Lib.itoa_length_le a.who b2.1 b2.2
  have i2 := Lib.itoa_length_le a.num b3.1 b3.2
  have hx : dAct.ok (⟨11, a.who, 0, zOp, [], a.msg, a.sealed⟩ : ActD) := by
    rw [dAct_ok]
    exact ⟨i_ok (n := 11) (by omega), b2, i_ok (n := 0) (by omega), zOp_ok, zY_ok, b6, trivial⟩
  have ho : (ownS a.msg).key ≤ 9223372036854775807 ∧ (ownS a.msg).digest ≤ 9223372036854775807 := ownS_dok b6
  have hi := (words_iff a.msg).1 hw
  have l1 := unsB_len (msgE_kind (checkE_msg (bytesE0.1 hi.1).1))
  rw [unsB_withS] at l1
  have q1 := hexF_l (unsB a.msg)
  have e1 := encLe10 (ownS a.msg).key.toNat (by omega)
  have e2 := encLe10 (ownS a.msg).digest.toNat (by omega)
  have q2 := hexF_l (enc (ownS a.msg).key.toNat ++ enc (ownS a.msg).digest.toNat)
  rw [List.length_append] at q2
  have q3 : (signW (ownS a.msg)).length ≤ 41 := by unfold signW; omega
  refine mkS 137 [(19, ⟨[(0, false), (1, false), (2, false), (6, false), (7, false), (3, true), (4, false), (5, false), (8, true), (9, false), (10, false), (11, false)], []⟩)] Tryz.func18 rfl (by kernel_rfl) ?_
  repeat'
    (conv => arg 2; whnf)
    first
    | refine okAsk (by kernel_rfl) ?_
    | refine okBoth ?_ ?_
    | refine okBrT ?_
    | refine okBrF ?_
    | refine okBr (fun h => ?_) (fun h => ?_)
    | refine okFn (rWord11false_s a hs) rfl (Cos.refl _) ?_
    | refine okFn (hnum a.who b2) rfl (Cos.refl _) ?_
    | refine okFn (rMessageY_s a.msg b6 hw ho) rfl (Cos.refl _) ?_
    | refine okFn (rAct_s { a with kind := 11 } (⟨11, a.who, 0, zOp, [], a.msg, a.sealed⟩ : ActD) hO hx) rfl (by refine Cos.cons (Co.refl _) (Cos.cons (Cos.mkAgg ?_) Cos.nil); repeat' first | exact Cos.nil | exact Co.refl _ | exact Co.nil _ | refine Cos.cons ?_ ?_) ?_
    | refine okAsk (by simp [wSend]; omega) ?_
    | (refine endT (.inr rfl) rfl ?_ rfl; simp [lineF, keepW, argW, kwN, joinF, cst, msgW, hs]; done)
    | (exfalso; simp [hE] at *; done)
    | (exfalso; simp_all; done)
theorem rLine11falseN_s [Wd] (hnum : NumOk) (a : ActD) (ha : dAct.ok { a with kind := 11 }) (hs : a.sealed = false) (hw : wordsOk a.msg) (hE : eqB { a with kind := 11 } (⟨11, a.who, 0, zOp, [], a.msg, a.sealed⟩ : ActD) = false) : FnP Tryz.prog 18 [.agg (cAct { a with kind := 11 })] (.tup [.str [], .int .i64 1]) := by
  have hO := ha
  rw [dAct_ok] at ha
  obtain ⟨_, b2, b3, b4, b5, b6, b7⟩ := ha
  replace b2 : -9223372036854775808 ≤ a.who ∧ a.who ≤ 9223372036854775807 := b2
  replace b3 : -9223372036854775808 ≤ a.num ∧ a.num ≤ 9223372036854775807 := b3
  replace b5 : a.bytes.length ≤ 4194304 := b5
  have i1 := Lib.itoa_length_le a.who b2.1 b2.2
  have i2 := Lib.itoa_length_le a.num b3.1 b3.2
  have hx : dAct.ok (⟨11, a.who, 0, zOp, [], a.msg, a.sealed⟩ : ActD) := by
    rw [dAct_ok]
    exact ⟨i_ok (n := 11) (by omega), b2, i_ok (n := 0) (by omega), zOp_ok, zY_ok, b6, trivial⟩
  have ho : (ownS a.msg).key ≤ 9223372036854775807 ∧ (ownS a.msg).digest ≤ 9223372036854775807 := ownS_dok b6
  have hi := (words_iff a.msg).1 hw
  have l1 := unsB_len (msgE_kind (checkE_msg (bytesE0.1 hi.1).1))
  rw [unsB_withS] at l1
  have q1 := hexF_l (unsB a.msg)
  have e1 := encLe10 (ownS a.msg).key.toNat (by omega)
  have e2 := encLe10 (ownS a.msg).digest.toNat (by omega)
  have q2 := hexF_l (enc (ownS a.msg).key.toNat ++ enc (ownS a.msg).digest.toNat)
  rw [List.length_append] at q2
  have q3 : (signW (ownS a.msg)).length ≤ 41 := by unfold signW; omega
  refine mkS 137 [(19, ⟨[(0, false), (1, false), (2, false), (6, false), (7, false), (3, true), (4, false), (5, false), (8, true), (9, false), (10, false), (11, false)], []⟩)] Tryz.func18 rfl (by kernel_rfl) ?_
  repeat'
    (conv => arg 2; whnf)
    first
    | refine okAsk (by kernel_rfl) ?_
    | refine okBoth ?_ ?_
    | refine okBrT ?_
    | refine okBrF ?_
    | refine okBr (fun h => ?_) (fun h => ?_)
    | refine okFn (rWord11false_s a hs) rfl (Cos.refl _) ?_
    | refine okFn (hnum a.who b2) rfl (Cos.refl _) ?_
    | refine okFn (rMessageY_s a.msg b6 hw ho) rfl (Cos.refl _) ?_
    | refine okFn (rAct_s { a with kind := 11 } (⟨11, a.who, 0, zOp, [], a.msg, a.sealed⟩ : ActD) hO hx) rfl (by refine Cos.cons (Co.refl _) (Cos.cons (Cos.mkAgg ?_) Cos.nil); repeat' first | exact Cos.nil | exact Co.refl _ | exact Co.nil _ | refine Cos.cons ?_ ?_) ?_
    | refine okAsk (by simp [wSend]; omega) ?_
    | refine endFn0 (.inr rfl) rfl (.refl _) rfl
    | (exfalso; simp [hE] at *; done)
    | (exfalso; simp_all; done)
theorem rLine11falseE_s [Wd] (a : ActD) (ha : dAct.ok { a with kind := 11 }) (hs : a.sealed = false) (hw : ¬ wordsOk a.msg) : FnP Tryz.prog 18 [.agg (cAct { a with kind := 11 })] (.tup [.str [], .int .i64 1]) := by
  have hO := ha
  rw [dAct_ok] at ha
  obtain ⟨_, b2, b3, b4, b5, b6, b7⟩ := ha
  replace b2 : -9223372036854775808 ≤ a.who ∧ a.who ≤ 9223372036854775807 := b2
  replace b3 : -9223372036854775808 ≤ a.num ∧ a.num ≤ 9223372036854775807 := b3
  replace b5 : a.bytes.length ≤ 4194304 := b5
  have i1 := Lib.itoa_length_le a.who b2.1 b2.2
  have i2 := Lib.itoa_length_le a.num b3.1 b3.2
  have hmm : FnP Tryz.prog 37 [.agg (cMsg a.msg)] (.tup [.str [], .bool false]) := by
    by_cases hB : bytesE (withS a.msg) = 0
    · exact rMessageN_s a.msg b6 hB hw
    · exact rMessage0_s a.msg b6 hB
  refine mkS 137 [(19, ⟨[(0, false), (1, false), (2, false), (6, false), (7, false), (3, true), (4, false), (5, false), (8, true), (9, false), (10, false), (11, false)], []⟩)] Tryz.func18 rfl (by kernel_rfl) ?_
  repeat'
    (conv => arg 2; whnf)
    first
    | refine okAsk (by kernel_rfl) ?_
    | refine okBoth ?_ ?_
    | refine okBrT ?_
    | refine okBrF ?_
    | refine okBr (fun h => ?_) (fun h => ?_)
    | refine okFn (rWord11false_s a hs) rfl (Cos.refl _) ?_
    | refine okFn (hmm) rfl (Cos.refl _) ?_
    | refine endFn0 (.inr rfl) rfl (.refl _) rfl
    | (exfalso; simp_all; done)
theorem rLineX_s [Wd] (a : ActD) (hk : ¬ (1 ≤ a.kind ∧ a.kind ≤ 12)) : FnP Tryz.prog 18 [.agg (cAct a)] (.tup [.str [], .int .i64 1]) := by
  refine mkS 137 [(19, ⟨[(0, false), (1, false), (2, false), (6, false), (7, false), (3, true), (4, false), (5, false), (8, true), (9, false), (10, false), (11, false)], []⟩)] Tryz.func18 rfl (by kernel_rfl) ?_
  repeat'
    (conv => arg 2; whnf)
    first
    | refine okAsk (by kernel_rfl) ?_
    | refine okBoth ?_ ?_
    | refine okBrT ?_
    | refine okBrF ?_
    | refine okBr (fun h => ?_) (fun h => ?_)
    | refine okFn (rWordN_s a hk) rfl (Cos.refl _) ?_
    | refine endFn0 (.inr rfl) rfl (.refl _) rfl
    | (exfalso; simp at *; omega)
    | (exfalso; simp_all; done)
end Go.Proofs.YtbbcepmhkocgbaaGreatDoor

/- bullaref27.Line whole, over data (printed by gen_bn.py). -/
namespace Go.Proofs.YtbbcepmhkocgbaaGreatDoor
open Go.RowKit
set_option linter.unusedVariables false
set_option maxRecDepth 20000

open Classical in
/-- what Line answers -/
noncomputable def lineR (a : ActD) : D := if lineOk a then .tup [.str (lineF a), .int .i64 0] else .tup [.str [], .int .i64 1]
theorem lineR_y {a : ActD} (h : lineOk a) : lineR a = .tup [.str (lineF a), .int .i64 0] := by unfold lineR; rw [if_pos h]
theorem lineR_n {a : ActD} (h : ¬ lineOk a) : lineR a = .tup [.str [], .int .i64 1] := by unfold lineR; rw [if_neg h]
theorem rLine_s [Wd] (hnum : NumOk) (a : ActD) (ha : dAct.ok a) : FnP Tryz.prog 18 [.agg (cAct a)] (lineR a) := by
  by_cases k1 : a.kind = 1
  · have e := actKind k1
    have ek : keepF a = (⟨1, 0, a.num, zOp, [], zMsg, false⟩ : ActD) := by simp [keepF, k1, zAct]
    have hk : keepOk a := ⟨by omega, fun h => by omega, fun h => by omega⟩
    by_cases h : a = (⟨1, 0, a.num, zOp, [], zMsg, false⟩ : ActD)
    · rw [lineR_y ⟨hk, by rw [ek]; exact h⟩]
      have t := rLine1Y_s hnum a (by rw [e]; exact ha) (by rw [e]; exact eqB_true h)
      rw [e] at t
      exact t
    · rw [lineR_n (fun hl => h (by rw [← ek]; exact hl.2))]
      have t := rLine1N_s hnum a (by rw [e]; exact ha) (by rw [e]; exact eqB_false h)
      rw [e] at t
      exact t
  by_cases k2 : a.kind = 2
  · have e := actKind k2
    have ek : keepF a = (⟨2, 0, a.num, zOp, [], zMsg, false⟩ : ActD) := by simp [keepF, k2, zAct]
    have hk : keepOk a := ⟨by omega, fun h => by omega, fun h => by omega⟩
    by_cases h : a = (⟨2, 0, a.num, zOp, [], zMsg, false⟩ : ActD)
    · rw [lineR_y ⟨hk, by rw [ek]; exact h⟩]
      have t := rLine2Y_s hnum a (by rw [e]; exact ha) (by rw [e]; exact eqB_true h)
      rw [e] at t
      exact t
    · rw [lineR_n (fun hl => h (by rw [← ek]; exact hl.2))]
      have t := rLine2N_s hnum a (by rw [e]; exact ha) (by rw [e]; exact eqB_false h)
      rw [e] at t
      exact t
  by_cases k3 : a.kind = 3
  · have e := actKind k3
    have ek : keepF a = (⟨3, 0, a.num, zOp, [], zMsg, false⟩ : ActD) := by simp [keepF, k3, zAct]
    have hk : keepOk a := ⟨by omega, fun h => by omega, fun h => by omega⟩
    by_cases h : a = (⟨3, 0, a.num, zOp, [], zMsg, false⟩ : ActD)
    · rw [lineR_y ⟨hk, by rw [ek]; exact h⟩]
      have t := rLine3Y_s hnum a (by rw [e]; exact ha) (by rw [e]; exact eqB_true h)
      rw [e] at t
      exact t
    · rw [lineR_n (fun hl => h (by rw [← ek]; exact hl.2))]
      have t := rLine3N_s hnum a (by rw [e]; exact ha) (by rw [e]; exact eqB_false h)
      rw [e] at t
      exact t
  by_cases k4 : a.kind = 4
  · have e := actKind k4
    have ek : keepF a = (⟨4, a.who, 0, zOp, [], zMsg, false⟩ : ActD) := by simp [keepF, k4, zAct]
    have hk : keepOk a := ⟨by omega, fun h => by omega, fun h => by omega⟩
    by_cases h : a = (⟨4, a.who, 0, zOp, [], zMsg, false⟩ : ActD)
    · rw [lineR_y ⟨hk, by rw [ek]; exact h⟩]
      have t := rLine4Y_s hnum a (by rw [e]; exact ha) (by rw [e]; exact eqB_true h)
      rw [e] at t
      exact t
    · rw [lineR_n (fun hl => h (by rw [← ek]; exact hl.2))]
      have t := rLine4N_s hnum a (by rw [e]; exact ha) (by rw [e]; exact eqB_false h)
      rw [e] at t
      exact t
  by_cases k5 : a.kind = 5
  · have e := actKind k5
    have ek : keepF a = (⟨5, a.who, 0, zOp, [], zMsg, false⟩ : ActD) := by simp [keepF, k5, zAct]
    have hk : keepOk a := ⟨by omega, fun h => by omega, fun h => by omega⟩
    by_cases h : a = (⟨5, a.who, 0, zOp, [], zMsg, false⟩ : ActD)
    · rw [lineR_y ⟨hk, by rw [ek]; exact h⟩]
      have t := rLine5Y_s hnum a (by rw [e]; exact ha) (by rw [e]; exact eqB_true h)
      rw [e] at t
      exact t
    · rw [lineR_n (fun hl => h (by rw [← ek]; exact hl.2))]
      have t := rLine5N_s hnum a (by rw [e]; exact ha) (by rw [e]; exact eqB_false h)
      rw [e] at t
      exact t
  by_cases k6 : a.kind = 6
  · have e := actKind k6
    have ek : keepF a = (⟨6, a.who, 0, a.op, [], zMsg, false⟩ : ActD) := by simp [keepF, k6, zAct]
    by_cases h0 : opE a.op = 0
    · have hk : keepOk a := ⟨by omega, fun _ => h0, fun h => by omega⟩
      by_cases h : a = (⟨6, a.who, 0, a.op, [], zMsg, false⟩ : ActD)
      · rw [lineR_y ⟨hk, by rw [ek]; exact h⟩]
        have t := rLine6Y_s hnum a (by rw [e]; exact ha) h0 (by rw [e]; exact eqB_true h)
        rw [e] at t
        exact t
      · rw [lineR_n (fun hl => h (by rw [← ek]; exact hl.2))]
        have t := rLine6N_s hnum a (by rw [e]; exact ha) h0 (by rw [e]; exact eqB_false h)
        rw [e] at t
        exact t
    · rw [lineR_n (fun hl => h0 (hl.1.2.1 k6))]
      have t := rLine6E_s a (by rw [e]; exact ha) h0
      rw [e] at t
      exact t
  by_cases k7 : a.kind = 7
  · have e := actKind k7
    have ek : keepF a = (⟨7, a.who, 0, zOp, [], zMsg, false⟩ : ActD) := by simp [keepF, k7, zAct]
    have hk : keepOk a := ⟨by omega, fun h => by omega, fun h => by omega⟩
    by_cases h : a = (⟨7, a.who, 0, zOp, [], zMsg, false⟩ : ActD)
    · rw [lineR_y ⟨hk, by rw [ek]; exact h⟩]
      have t := rLine7Y_s hnum a (by rw [e]; exact ha) (by rw [e]; exact eqB_true h)
      rw [e] at t
      exact t
    · rw [lineR_n (fun hl => h (by rw [← ek]; exact hl.2))]
      have t := rLine7N_s hnum a (by rw [e]; exact ha) (by rw [e]; exact eqB_false h)
      rw [e] at t
      exact t
  by_cases k8 : a.kind = 8
  · have e := actKind k8
    have ek : keepF a = (⟨8, a.who, a.num, zOp, [], zMsg, false⟩ : ActD) := by simp [keepF, k8, zAct]
    have hk : keepOk a := ⟨by omega, fun h => by omega, fun h => by omega⟩
    by_cases h : a = (⟨8, a.who, a.num, zOp, [], zMsg, false⟩ : ActD)
    · rw [lineR_y ⟨hk, by rw [ek]; exact h⟩]
      have t := rLine8Y_s hnum a (by rw [e]; exact ha) (by rw [e]; exact eqB_true h)
      rw [e] at t
      exact t
    · rw [lineR_n (fun hl => h (by rw [← ek]; exact hl.2))]
      have t := rLine8N_s hnum a (by rw [e]; exact ha) (by rw [e]; exact eqB_false h)
      rw [e] at t
      exact t
  by_cases k9 : a.kind = 9
  · have e := actKind k9
    have ek : keepF a = (⟨9, a.who, 0, zOp, [], zMsg, false⟩ : ActD) := by simp [keepF, k9, zAct]
    have hk : keepOk a := ⟨by omega, fun h => by omega, fun h => by omega⟩
    by_cases h : a = (⟨9, a.who, 0, zOp, [], zMsg, false⟩ : ActD)
    · rw [lineR_y ⟨hk, by rw [ek]; exact h⟩]
      have t := rLine9Y_s hnum a (by rw [e]; exact ha) (by rw [e]; exact eqB_true h)
      rw [e] at t
      exact t
    · rw [lineR_n (fun hl => h (by rw [← ek]; exact hl.2))]
      have t := rLine9N_s hnum a (by rw [e]; exact ha) (by rw [e]; exact eqB_false h)
      rw [e] at t
      exact t
  by_cases k10 : a.kind = 10
  · have e := actKind k10
    have ek : keepF a = (⟨10, 0, 0, zOp, a.bytes, zMsg, false⟩ : ActD) := by simp [keepF, k10, zAct]
    have hk : keepOk a := ⟨by omega, fun h => by omega, fun h => by omega⟩
    by_cases h : a = (⟨10, 0, 0, zOp, a.bytes, zMsg, false⟩ : ActD)
    · rw [lineR_y ⟨hk, by rw [ek]; exact h⟩]
      have t := rLine10Y_s hnum a (by rw [e]; exact ha) (by rw [e]; exact eqB_true h)
      rw [e] at t
      exact t
    · rw [lineR_n (fun hl => h (by rw [← ek]; exact hl.2))]
      have t := rLine10N_s hnum a (by rw [e]; exact ha) (by rw [e]; exact eqB_false h)
      rw [e] at t
      exact t
  by_cases k11 : a.kind = 11
  · have e := actKind k11
    have ek : keepF a = (⟨11, a.who, 0, zOp, [], a.msg, a.sealed⟩ : ActD) := by simp [keepF, k11, zAct]
    by_cases hw : wordsOk a.msg
    · have hk : keepOk a := ⟨by omega, fun h => by omega, fun _ => hw⟩
      cases hs : a.sealed with
      | true =>
        by_cases h : a = (⟨11, a.who, 0, zOp, [], a.msg, a.sealed⟩ : ActD)
        · rw [lineR_y ⟨hk, by rw [ek]; exact h⟩]
          have t := rLine11trueY_s hnum a (by rw [e]; exact ha) hs hw (by rw [e]; exact eqB_true h)
          rw [e] at t
          exact t
        · rw [lineR_n (fun hl => h (by rw [← ek]; exact hl.2))]
          have t := rLine11trueN_s hnum a (by rw [e]; exact ha) hs hw (by rw [e]; exact eqB_false h)
          rw [e] at t
          exact t
      | false =>
        by_cases h : a = (⟨11, a.who, 0, zOp, [], a.msg, a.sealed⟩ : ActD)
        · rw [lineR_y ⟨hk, by rw [ek]; exact h⟩]
          have t := rLine11falseY_s hnum a (by rw [e]; exact ha) hs hw (by rw [e]; exact eqB_true h)
          rw [e] at t
          exact t
        · rw [lineR_n (fun hl => h (by rw [← ek]; exact hl.2))]
          have t := rLine11falseN_s hnum a (by rw [e]; exact ha) hs hw (by rw [e]; exact eqB_false h)
          rw [e] at t
          exact t
    · rw [lineR_n (fun hl => hw (hl.1.2.2 k11))]
      cases hs : a.sealed with
      | true =>
        have t := rLine11trueE_s a (by rw [e]; exact ha) hs hw
        rw [e] at t
        exact t
      | false =>
        have t := rLine11falseE_s a (by rw [e]; exact ha) hs hw
        rw [e] at t
        exact t
  by_cases k12 : a.kind = 12
  · have e := actKind k12
    have ek : keepF a = (⟨12, 0, 0, zOp, [], zMsg, false⟩ : ActD) := by simp [keepF, k12, zAct]
    have hk : keepOk a := ⟨by omega, fun h => by omega, fun h => by omega⟩
    by_cases h : a = (⟨12, 0, 0, zOp, [], zMsg, false⟩ : ActD)
    · rw [lineR_y ⟨hk, by rw [ek]; exact h⟩]
      have t := rLine12Y_s hnum a (by rw [e]; exact ha) (by rw [e]; exact eqB_true h)
      rw [e] at t
      exact t
    · rw [lineR_n (fun hl => h (by rw [← ek]; exact hl.2))]
      have t := rLine12N_s hnum a (by rw [e]; exact ha) (by rw [e]; exact eqB_false h)
      rw [e] at t
      exact t
  have hk : ¬ (1 ≤ a.kind ∧ a.kind ≤ 12) := by omega
  rw [lineR_n (fun hl => hk hl.1.1)]
  exact rLineX_s a hk
end Go.Proofs.YtbbcepmhkocgbaaGreatDoor

/- script.Print's plain function and its value at the laws' fixed script. -/
namespace Go.Proofs.YtbbcepmhkocgbaaGreatDoor
open Go.RowKit Go.Deep
set_option linter.unusedVariables false

open Classical in
/-- what script.Print answers -/
noncomputable def printP (s : ScriptD) : List UInt8 × Int :=
  if nameF s.setup.topic = false then ([], 1)
  else if 4096 < s.acts.length then ([], 3)
  else if ∀ a ∈ s.acts, lineOk a then (setupF s.setup ++ 10 :: s.acts.flatMap (fun a => lineF a ++ [10]), 0)
  else ([], 1)
def lvA : ActD := { zAct with kind := 6, who := 2, op := { zOp with kind := 1, topic := [116] } }
def lvC : ActD := { zAct with kind := 8, who := 3, num := -1 }
def lvR : ActD := { zAct with kind := 12 }
def lvU : SetupD := ⟨1, 0, 0, 65536, [116]⟩
def lvS : ScriptD := ⟨lvU, [lvA, lvC, lvR]⟩
def lvL : List UInt8 := "world 1 0 0 65536 t\nask 2 x010174\ncrash 3 -1\nround\n".toUTF8.data.toList
theorem lv_name : nameF [116] = true := by decide +kernel
theorem lv_op : opE lvA.op = 0 := by
  have := lv_name
  simp [opE, lvA, zAct, zOp, kindOk, sameOp, onlyF, lv_name]
theorem lv_enc1 : enc 1 = [1] := by rw [enc, dif_pos (by omega)]; rfl
theorem lv_okA : lineOk lvA := by
  refine ⟨⟨by simp [lvA], fun _ => lv_op, fun h => by simp [lvA] at h⟩, ?_⟩
  simp [keepF, lvA]
theorem lv_okC : lineOk lvC := by
  refine ⟨⟨by simp [lvC], fun h => by simp [lvC] at h, fun h => by simp [lvC] at h⟩, ?_⟩
  simp [keepF, lvC]
theorem lv_okR : lineOk lvR := by
  refine ⟨⟨by simp [lvR], fun h => by simp [lvR] at h, fun h => by simp [lvR] at h⟩, ?_⟩
  simp [keepF, lvR]
theorem lv_i0 : Lib.itoa 0 = [48] := by simp [Lib.itoa, Lib.decDigits]
theorem lv_i1 : Lib.itoa 1 = [49] := by simp [Lib.itoa, Lib.decDigits]
theorem lv_i2 : Lib.itoa 2 = [50] := by simp [Lib.itoa, Lib.decDigits]
theorem lv_i3 : Lib.itoa 3 = [51] := by simp [Lib.itoa, Lib.decDigits]
theorem lv_in : Lib.itoa (-1) = [45, 49] := by simp [Lib.itoa, Lib.decDigits]
theorem lv_ir : Lib.itoa 65536 = [54, 53, 53, 51, 54] := by simp [Lib.itoa, Lib.decDigits]
theorem lv_opB : opB lvA.op = [1, 1, 116] := by
  simp [opB, lvA, zAct, zOp, byF, lv_enc1]
theorem lv_lA : lineF lvA = [97, 115, 107, 32, 50, 32, 120, 48, 49, 48, 49, 55, 52] := by
  have h : keepW lvA = [kwN 6 false, [50], hexF [1, 1, 116]] := by
    unfold keepW argW
    rw [lv_opB]
    simp [lvA, zAct, lv_i2]
  unfold lineF
  rw [h]
  decide +kernel
theorem lv_lC : lineF lvC = [99, 114, 97, 115, 104, 32, 51, 32, 45, 49] := by
  have h : keepW lvC = [kwN 8 false, [51], [45, 49]] := by
    unfold keepW argW
    simp [lvC, zAct, lv_i3, lv_in]
  unfold lineF
  rw [h]
  decide +kernel
theorem lv_lR : lineF lvR = [114, 111, 117, 110, 100] := by
  have h : keepW lvR = [kwN 12 false] := by
    unfold keepW argW
    simp [lvR, zAct]
  unfold lineF
  rw [h]
  decide +kernel
theorem lv_setup : setupF lvU = [119, 111, 114, 108, 100, 32, 49, 32, 48, 32, 48, 32, 54, 53, 53, 51, 54, 32, 116] := by
  have h : setupW lvU = [wWorld, [49], [48], [48], [54, 53, 53, 51, 54], [116]] := by
    unfold setupW
    simp [lvU, lv_i0, lv_i1, lv_ir]
  unfold setupF
  rw [h]
  decide +kernel
theorem lv_print : printP lvS = (lvL, 0) := by
  have hl : lvL = setupF lvU ++ 10 :: [lvA, lvC, lvR].flatMap (fun a => lineF a ++ [10]) := by
    simp only [List.flatMap_cons, List.flatMap_nil]
    rw [lv_setup, lv_lA, lv_lC, lv_lR]
    decide +kernel
  rw [hl]
  unfold printP
  rw [if_neg (by simp [lvS, lvU, lv_name]), if_neg (by simp [lvS]), if_pos (by
    intro a ha
    simp only [lvS, List.mem_cons, List.not_mem_nil, or_false] at ha
    rcases ha with rfl | rfl | rfl
    · exact lv_okA
    · exact lv_okC
    · exact lv_okR)]
  rfl
end Go.Proofs.YtbbcepmhkocgbaaGreatDoor

/- script.Print: a script's text. -/
namespace Go.Proofs.YtbbcepmhkocgbaaGreatDoor
open Go.RowKit Go.Deep
set_option linter.unusedVariables false

theorem builder_later {T e : TypeId} {K b : Nat} {p : Value} {bs : List Value} {w w' : World} (h : Lib.BuilderAt T e K b p bs w) (hb : B w w') : Lib.BuilderAt T e K b p bs w' := by
  have hlt := h.lt
  obtain ⟨h1, v, h2, h3, h4⟩ := h
  exact ⟨h1, v, by rw [hb.block b hlt]; exact h2, row_later h3 hb, h4⟩
theorem isBuilder_later {T e : TypeId} {K b : Nat} {bs : List Value} {w w' : World} (h : Lib.IsBuilder T e K b bs w) (hb : B w w') : Lib.IsBuilder T e K b bs w' :=
  h.elim (fun h => .inl (builder_later h hb)) (fun h => .inr (builder_later h hb))
def outF (s : ScriptD) (k : Nat) : List UInt8 := setupF s.setup ++ 10 :: (s.acts.take k).flatMap (fun a => lineF a ++ [10])
theorem str10 (l : List UInt8) : Lib.strCells (bstr l ++ ⟨#[10]⟩) = Lib.byteCells (l ++ [10]) := by
  rw [Lib.strCells_eq, ByteArray.data_append]
  simp [bstr]
theorem outF_succ {s : ScriptD} {k : Nat} {x : ActD} (hx : s.acts[k]? = some x) : Lib.byteCells (outF s k) ++ Lib.strCells (bstr (lineF x) ++ ⟨#[10]⟩) = Lib.byteCells (outF s (k + 1)) := by
  rw [str10, ← Lib.byteCells_append]
  congr 1
  unfold outF
  rw [List.take_add_one, hx]
  simp
theorem outF_zero (s : ScriptD) : Lib.strCells (bstr (setupF s.setup) ++ ⟨#[10]⟩) = Lib.byteCells (outF s 0) := by
  rw [str10]
  simp [outF]
theorem outF_len {s : ScriptD} (K : Nat) (h0 : (setupF s.setup).length ≤ 30000000) : ∀ k, (∀ j a, j < k → s.acts[j]? = some a → (lineF a).length ≤ K) → (outF s k).length ≤ 30000001 + k * (K + 1)
  | 0, _ => by simp [outF]; omega
  | k + 1, h => by
    have h1 := outF_len K h0 k (fun j a hj => h j a (by omega))
    cases hx : s.acts[k]? with
    | none =>
      have : outF s (k + 1) = outF s k := by unfold outF; rw [List.take_add_one, hx]; simp
      rw [this, Nat.succ_mul]
      omega
    | some x =>
      have h2 := h k x (by omega) hx
      have : outF s (k + 1) = outF s k ++ (lineF x ++ [10]) := by unfold outF; rw [List.take_add_one, hx]; simp
      rw [this, Nat.succ_mul]
      simp
      omega
set_option maxRecDepth 20000 in
set_option maxHeartbeats 8000000 in
theorem printN_c {inn : Nat → Prop} {w : World} {cs : List Value} {s : ScriptD} (hT : TabW w) (h : tScript.rd inn w cs s) (hk : nameF s.setup.topic = false ∨ 4096 < s.acts.length) :
    Calls Tryz.prog 6 #[.agg cs.toArray] w fun r w' => r = .returned (.tuple #[.string (bstr (printP s).1), .int .i64 (printP s).2]) ∧ B w w' := by
  obtain ⟨c0, c1, rfl, h0, h1⟩ := h
  have HC := Lib.hid (fun w' (hb : B w w') => setup_c (hT.later hb) (tSetup.later h0 hb))
  obtain ⟨rfl, b1, b2, b3, b4, b5⟩ := tSetup.parts h0
  obtain ⟨A, c, rfl, hs⟩ := tL.slice h1
  have HS := Lib.hid (aBlk.new (St.nil w) 28 #[.int .i64 s.setup.f, .int .u16 s.setup.faulty, .int .u16 s.setup.liars, .int .i64 s.setup.room, .string (bstr s.setup.topic), .slice A s.acts.length c])
  have HP := Lib.hid (show printP s = if nameF s.setup.topic = false then ([], 1) else ([], 3) from by
    unfold printP
    split
    · rfl
    · rename_i hn
      rw [if_pos (by rcases hk with h | h; exact absurd h hn; exact h)])
  rw [HP.out]
  obtain ⟨n, hn⟩ : ∃ n, nameF s.setup.topic = n := ⟨_, rfl⟩
  rw [hn] at hk ⊢
  rw [hn] at HC
  clear hn HP h0 h1
  cases n with
  | false =>
    clear hk
    go_enter Tryz.func6, Tryz.ntmps6
    go_wp2_with (first | (go_at_call 14; (with_reducible refine callsM (HC.out _ HS.out.b) ?_); rintro r w1 ⟨hr, hb⟩; replace HS := Lib.hid (HS.out.on.later hb); clear hb; simp only [Bool.false_eq_true, if_false] at hr; subst hr) | fail)
    go_ret2
    exact ⟨rfl, HS.out.b⟩
  | true =>
    have hl : 4096 < s.acts.length := by simpa using hk
    clear hk
    have KG := (aBlk.get HS.out).cell
    go_enter Tryz.func6, Tryz.ntmps6
    go_wp2_with (first | (go_at_call 14; (with_reducible refine callsM (HC.out _ HS.out.b) ?_); rintro r w1 ⟨hr, hb⟩; replace HS := Lib.hid (HS.out.on.later hb); clear hb; simp only [if_true] at hr; subst hr; replace KG := (aBlk.get HS.out).cell) | fail)
    go_ret2
    exact ⟨rfl, HS.out.b⟩
end Go.Proofs.YtbbcepmhkocgbaaGreatDoor

/- script.Print: the text. -/
namespace Go.Proofs.YtbbcepmhkocgbaaGreatDoor
open Go.RowKit Go.Deep
set_option linter.unusedVariables false

theorem lineYes {w : World} {x : ActD} {r : Ending} {w' : World} (hk : lineOk x) (h : LinePost w x r w') : r = .returned (.tuple #[.string (bstr (lineF x)), .int .i64 0]) ∧ B w w' := by
  obtain ⟨h1, h2⟩ := h
  exact ⟨by rw [h1, if_pos hk], h2⟩
theorem lineNo {w : World} {x : ActD} {r : Ending} {w' : World} (hk : ¬ lineOk x) (h : LinePost w x r w') : r = .returned (.tuple #[.string ⟨#[]⟩, .int .i64 1]) ∧ B w w' := by
  obtain ⟨h1, h2⟩ := h
  exact ⟨by rw [h1, if_neg hk], h2⟩
theorem bstr10_size (l : List UInt8) : (bstr l ++ ⟨#[10]⟩).size = l.length + 1 := by
  rw [ByteArray.size_append]
  simp [bstr, ByteArray.size]
theorem write_c {K b : Nat} {bs : List Value} {s : ByteArray} {w : World} (h : Lib.IsBuilder 70 5 K b bs w) (hlen : bs.length + s.size ≤ 140737488355328) (hK : K ≤ w.heap.size) :
    Calls Tryz.prog 15 #[.pointer (some ⟨b, 0, none⟩), .string s] w fun e w' => e = .returned (.tuple #[.int .i64 s.size, .nilIface]) ∧ (Lib.BuilderAt 70 5 K b (.pointer (some ⟨b, 0, none⟩)) (bs ++ Lib.strCells s) w' ∧ Below K w w') :=
  Any.Builder_WriteString { Tryz.lays156 with } Tryz.Builder_Extra_156 K b bs s w h hlen hK
theorem string_c {K b : Nat} {l : List UInt8} {w : World} (h : Lib.IsBuilder 70 5 K b (Lib.byteCells l) w) (h0 : l ≠ []) :
    Calls Tryz.prog 16 #[.pointer (some ⟨b, 0, none⟩)] w fun e w' => e = .returned (.string ⟨l.toArray⟩) ∧ Below K w w' :=
  Tryz.Builder_String K b l w h h0
open Classical in
theorem printP_no {s : ScriptD} {x : ActD} {q : Nat} (hk : nameF s.setup.topic = true) (hl : s.acts.length ≤ 4096) (hx : s.acts[q]? = some x) (hy : ¬ lineOk x) : printP s = ([], 1) := by
  unfold printP
  rw [if_neg (by simp [hk]), if_neg (by omega), if_neg (fun h => hy (h x (List.mem_of_getElem? hx)))]
open Classical in
theorem printP_yes {s : ScriptD} (hk : nameF s.setup.topic = true) (hl : s.acts.length ≤ 4096) (h : ∀ j a, j < s.acts.length → s.acts[j]? = some a → lineOk a) : printP s = (outF s s.acts.length, 0) := by
  unfold printP
  rw [if_neg (by simp [hk]), if_neg (by omega), if_pos (by
    intro a ha
    obtain ⟨j, hj⟩ := List.getElem?_of_mem ha
    exact h j a (List.getElem?_eq_some_iff.1 hj).1 hj)]
  unfold outF
  rw [List.take_length]
/-- an act stored into a fresh box of its own -/
theorem storeNew {ops : Array Oper} {Q : Exit → Act → World → Prop} {rest : List Oper} {op : Oper} {a : Act} {wr : World} {Z C : Array Value} {tx ty : Tmp} (hgd : op.guard = none) (ho : op.op = .store 58 (.tmp tx) (.tmp ty)) (hz : Z.size = 40) (hC : C.size = 40) (h1 : C.all (·.oneCell') = true)
    (hx : a.eval (.tmp tx) = .pointer (some ⟨wr.heap.size, 0, none⟩)) (hy : a.eval (.tmp ty) = .agg C) (h : ∀ w3, St wr w3 [aBlk wr.heap.size 58 C] → wpList Tryz.prog ops Q rest (a.put op.dst undef) w3) : wpList Tryz.prog ops Q (op :: rest) a (wr.alloc (.cells Z 58)) := by
  have hS := aBlk.new (St.nil wr) 58 Z
  exact wpList_store_mid hgd 58 (.tmp tx) (.tmp ty) ho wr.heap.size 0 C hx hy (there_of hS 0 _ (by omega)) (by rw [hC]; exact aInfo) h1 (h _ (aBlk.setAll hS (by omega)))
set_option maxRecDepth 20000 in
set_option maxHeartbeats 16000000 in
theorem printY_c {inn : Nat → Prop} {w : World} {cs : List Value} {s : ScriptD} (hT : TabW w) (h : tScript.rd inn w cs s) (hk : nameF s.setup.topic = true) (hl : s.acts.length ≤ 4096) :
    Calls Tryz.prog 6 #[.agg cs.toArray] w fun r w' => r = .returned (.tuple #[.string (bstr (printP s).1), .int .i64 (printP s).2]) ∧ B w w' := by
  obtain ⟨c0, c1, rfl, h0, h1⟩ := h
  have HC := Lib.hid (fun w' (hb : B w w') => setup_c (hT.later hb) (tSetup.later h0 hb))
  have HL0 := Lib.hid (setupF_len h0)
  obtain ⟨rfl, b1, b2, b3, b4, b5⟩ := tSetup.parts h0
  obtain ⟨A, c, rfl, hs⟩ := tL.slice h1
  have HS := Lib.hid (aBlk.new (St.nil w) 28 #[.int .i64 s.setup.f, .int .u16 s.setup.faulty, .int .u16 s.setup.liars, .int .i64 s.setup.room, .string (bstr s.setup.topic), .slice A s.acts.length c])
  have HK := Lib.hid hk
  have HT := Lib.hid hT
  have HR := Lib.hid h1
  obtain ⟨n, hn⟩ : ∃ n, s.acts.length = n := ⟨_, rfl⟩
  have HN := Lib.hid hn
  obtain ⟨T0, hT0⟩ : ∃ z, setupF s.setup = z := ⟨_, rfl⟩
  have HT0 := Lib.hid hT0
  rw [hn] at hl HS ⊢
  rw [hk, hT0] at HC
  clear hk hT h0 h1 hs hn hT0
  have HLn := Lib.hid (show ([] : List Value).length + (bstr T0 ++ ⟨#[10]⟩).size ≤ 140737488355328 from by have := HL0.out; rw [HT0.out] at this; rw [bstr10_size]; simp; omega)
  have hcat : ¬ 9223372036854775807 < (bstr T0).size + 1 := by have := HL0.out; rw [HT0.out] at this; simp [bstr, ByteArray.size]; omega
  have HLen := Lib.hid (show ∀ j a, s.acts[j]? = some a → lineOk a → (lineF a).length ≤ 33554448 from fun j a hj ho => by
    obtain ⟨_, ba, oa, ca, rfl, r1, k1⟩ := tL.at HR.out hj
    exact lineF_len r1 ho.1)
  have hln : (n : Int) ≤ 4096 := by omega
  have KG := (aBlk.get HS.out).cell
  go_enter Tryz.func6, Tryz.ntmps6
  go_wp2_with (first
    | (go_at_call 14; (with_reducible refine callsM (HC.out _ HS.out.b) ?_); rintro r w1 ⟨hr, hb⟩; replace HS := Lib.hid (HS.out.on.later hb); clear hb; simp only [if_true] at hr; subst hr; replace KG := (aBlk.get HS.out).cell; have HBW := Lib.hid HS.out.b; have HF := Lib.hid (Lib.fresh_isBuilder 70 5 w1); have HLw := Lib.hid (show w1.heap.size ≤ (w1.alloc (.cells #[.pointer none, .slice none 0 0] 70)).heap.size from by simp))
    | (go_at_call 15; ((with_reducible refine callsM (write_c HF.out HLn.out HLw.out) ?_); rintro r w2 ⟨rfl, hB, hb⟩; replace HS := Lib.hid (HS.out.later (show B w1 w2 from Below.trans ((Below.refl w1.heap.size w1).alloc (Nat.le_refl _) _) hb)); replace KG := (aBlk.get HS.out).cell; replace HF := Lib.hid hB; clear hb hB HLn))
    | fail)
  have HF2 := Lib.hid (show Lib.IsBuilder 70 5 w1.heap.size w1.heap.size (Lib.byteCells (outF s 0)) w2 from by
    have h := HF.out
    rw [List.nil_append, ← HT0.out, outF_zero] at h
    exact .inr h)
  have HB2 := Lib.hid HS.out.b
  have HB1 := Lib.hid (show w.heap.size ≤ w1.heap.size from HBW.out.size)
  have HB3 := Lib.hid (show w1.heap.size ≤ w2.heap.size from Nat.le_of_lt HF.out.lt)
  clear HF KG HS HLw HC
  go_loopw [30] (fun i wr => ∃ q : Nat, q ≤ n ∧ i = .int .i64 q ∧ Hid (∀ j a, j < q → s.acts[j]? = some a → lineOk a) ∧ Hid (B w wr ∧ w1.heap.size ≤ wr.heap.size ∧ Lib.IsBuilder 70 5 w1.heap.size w1.heap.size (Lib.byteCells (outF s q)) wr)) (fun i _ => n - (intOf i).toNat)
  case atStart => exact ⟨0, Nat.zero_le _, rfl, fun j a h => by omega, HB2.out, HB3.out, HF2.out⟩
  case round =>
    obtain ⟨q, hq, rfl, HP, HW⟩ := hrel
    by_cases hlt : q < n
    · obtain ⟨x, hx⟩ : ∃ x, s.acts[q]? = some x := ⟨_, List.getElem?_eq_getElem (by have := HN.out; omega)⟩
      obtain ⟨_, ba, oa, ca, rfl, r1, k1⟩ := tL.at HR.out hx
      have hn1 : ca.length = 40 := tAct.len r1
      simp only [show tAct.n = 40 from rfl] at k1
      have HRG := Lib.hid (show wr.rangeAt ba (oa + q * 40) ca from fun j v hv => B.cell HW.out.1 (k1 j v hv))
      have HI := Lib.hid (show (Tryz.prog.info? 58).map (·.size) = some ca.length from by rw [hn1]; exact aInfo)
      have HLC := Lib.hid (fun w' (hb : B w w') => line_c (HT.out.later hb) (tAct.later r1 hb))
      obtain ⟨C, hC⟩ : ∃ C, ca.toArray = C := ⟨_, rfl⟩
      have HCC := Lib.hid (show C.size = 40 ∧ C.all (·.oneCell') = true from by rw [← hC]; exact tAct.one r1)
      have HIC := Lib.hid (show (Tryz.prog.info? 58).map (·.size) = some C.size from by rw [HCC.out.1]; exact aInfo)
      have HX := Lib.hid hx
      have HNew := Lib.hid (fun Z : Array Value => aBlk.new (St.nil wr) 58 Z)
      rw [hC] at HLC
      have HCE := Lib.hid hC
      clear k1 r1 hx hC hn1
      by_cases hy : lineOk x
      · have HY := Lib.hid hy
        have hxl := HLen.out q x HX.out hy
        have hcat2 : ¬ 9223372036854775807 < (bstr (lineF x)).size + 1 := by simp [bstr, ByteArray.size]; omega
        have HLQ := Lib.hid (show (Lib.byteCells (outF s q)).length + (bstr (lineF x) ++ ⟨#[10]⟩).size ≤ 140737488355328 from by
          have h := outF_len 33554448 HL0.out q (fun j a hj ha => HLen.out j a ha (HP.out j a hj ha))
          rw [Lib.byteCells_length, bstr10_size]
          omega)
        clear hy hxl
        go_wp2_with (first
          | (refine wpList_load_mid rfl 58 (.tmp 32) rfl ba (oa + q * 40) rfl ca _ HRG.out Tryz.underlying58 rfl HI.out ?_; rw [HCE.out])
          | (refine storeNew (C := C) rfl rfl rfl HCC.out.1 HCC.out.2 rfl rfl (fun w3 hS3 => ?_); have HS3 := Lib.hid hS3; clear hS3; have HG3 := Lib.hid (aBlk.get HS3.out))
          | (refine wpList_load_row rfl 58 (.tmp 8) rfl wr.heap.size rfl 58 C (0, 0) _ HG3.out Tryz.underlying58 rfl HIC.out ?_)
          | (go_at_call 8; (with_reducible refine callsM (HLC.out _ (HW.out.1.trans HS3.out.b)) ?_); rintro r w4 hr; obtain ⟨rfl, hb⟩ := lineYes HY.out hr; clear hr; have HB4 := Lib.hid (show B wr w4 from HS3.out.b.trans hb); clear hb)
          | (go_at_call 15; (with_reducible refine callsM (write_c (isBuilder_later HW.out.2.2 HB4.out) HLQ.out (Nat.le_trans HW.out.2.1 HB4.out.size)) ?_); rintro r w5 ⟨rfl, hB, hb⟩)
          | fail)
        have HE := Lib.hid (Below.trans (HW.out.1.trans HB4.out) (Below.mono hb HB1.out))
        have hP := HP.out
        refine ⟨⟨q + 1, by omega, by push_cast; rfl, fun j a hj ha => ?_, HE.out, Nat.le_trans (Nat.le_trans HW.out.2.1 HB4.out.size) hb.size, .inr (by rw [← outF_succ HX.out]; exact hB)⟩, by simp [intOf]; omega⟩
        by_cases hjq : j = q
        · subst hjq
          have := HX.out
          rw [ha] at this
          injection this with this
          rw [this]
          exact HY.out
        · exact hP j a (by omega) ha
      · have HY := Lib.hid hy
        have HQ := Lib.hid (printP_no HK.out (by have := HN.out; omega) HX.out hy)
        clear hy
        go_wp2_with (first
          | (refine wpList_load_mid rfl 58 (.tmp 32) rfl ba (oa + q * 40) rfl ca _ HRG.out Tryz.underlying58 rfl HI.out ?_; rw [HCE.out])
          | (refine storeNew (C := C) rfl rfl rfl HCC.out.1 HCC.out.2 rfl rfl (fun w3 hS3 => ?_); have HS3 := Lib.hid hS3; clear hS3; have HG3 := Lib.hid (aBlk.get HS3.out))
          | (refine wpList_load_row rfl 58 (.tmp 8) rfl wr.heap.size rfl 58 C (0, 0) _ HG3.out Tryz.underlying58 rfl HIC.out ?_)
          | (go_at_call 8; (with_reducible refine callsM (HLC.out _ (HW.out.1.trans HS3.out.b)) ?_); rintro r w4 hr; obtain ⟨rfl, hb⟩ := lineNo HY.out hr; clear hr; have HB4 := Lib.hid (show B wr w4 from HS3.out.b.trans hb); clear hb)
          | fail)
        go_ret2
        rw [HQ.out]
        exact ⟨rfl, HW.out.1.trans HB4.out⟩
    · have hqn : q = n := by omega
      subst hqn
      have HQ := Lib.hid (printP_yes HK.out (by have := HN.out; omega) (fun j a hj ha => HP.out j a (by have := HN.out; omega) ha))
      have HO := Lib.hid (show outF s q ≠ [] from by simp [outF])
      go_wp2_with (first
        | (go_at_call 16; (with_reducible refine callsM (string_c HW.out.2.2 HO.out) ?_); rintro r w4 ⟨rfl, hb⟩)
        | fail)
      go_ret2
      rw [HQ.out, HN.out]
      exact ⟨rfl, Below.trans HW.out.1 (Below.mono hb HB1.out)⟩
theorem print_c {inn : Nat → Prop} {w : World} {cs : List Value} {s : ScriptD} (hT : TabW w) (h : tScript.rd inn w cs s) :
    Calls Tryz.prog 6 #[.agg cs.toArray] w fun r w' => r = .returned (.tuple #[.string (bstr (printP s).1), .int .i64 (printP s).2]) ∧ B w w' := by
  cases hk : nameF s.setup.topic with
  | false => exact printN_c hT h (.inl hk)
  | true =>
    by_cases hl : s.acts.length ≤ 4096
    · exact printY_c hT h hk hl
    · exact printN_c hT h (.inr (by omega))
end Go.Proofs.YtbbcepmhkocgbaaGreatDoor

/- bullaref27.Print, over data (printed by gen_bo.py). -/
namespace Go.Proofs.YtbbcepmhkocgbaaGreatDoor
open Go.RowKit
set_option linter.unusedVariables false
set_option maxRecDepth 20000

theorem rLineYes_s [Wd] (hnum : NumOk) (a : ActD) (ha : dAct.ok a) (hk : lineOk a) : FnP Tryz.prog 18 [.agg (cAct a)] (.tup [.str (lineF a), .int .i64 0]) := by
  have := rLine_s hnum a ha
  rwa [lineR_y hk] at this
theorem rLineNo_s [Wd] (hnum : NumOk) (a : ActD) (ha : dAct.ok a) (hk : ¬ lineOk a) : FnP Tryz.prog 18 [.agg (cAct a)] (.tup [.str [], .int .i64 1]) := by
  have := rLine_s hnum a ha
  rwa [lineR_n hk] at this
theorem outF_at {s : ScriptD} {q : Nat} {x : ActD} (hx : s.acts[q]? = some x) : outF s (q + 1) = outF s q ++ (lineF x ++ [10]) := by
  unfold outF
  rw [List.take_add_one, hx]
  simp
theorem outF_at' {s : ScriptD} {q : Nat} {x : ActD} (hx : s.acts[q]? = some x) : (outF s (q + 1)).map cByte = (outF s q).map cByte ++ (lineF x).map cByte ++ [[.int .u8 10]] := by
  rw [outF_at hx]
  simp [cByte]
theorem endP [Wd] {P : Program} {tb : TT} {rs : List ResultVar} {e : Exit} {s : S} {xs : List UInt8} {n : Int} {p : List UInt8 × Int} (he : e = .normal ∨ e = .ret) (hr : resD tb s rs = some [.str xs, .int .i64 n]) (h : p = (xs, n)) : (T.leaf e s).ok P (Lf tb rs [] (fun r' h' => r' = .tup [.str p.1, .int .i64 p.2] ∧ h' = [])) := by
  subst h
  exact endFn0 he hr (.refl _) rfl
theorem rPrintN_s [Wd] (hnum : NumOk) (s : ScriptD) (hs : dScript.ok s) (hl1 : (setupF s.setup).length ≤ 30000000) (h0 : nameF s.setup.topic = false) : FnP Tryz.prog 7 [.agg (cScript s)] (.tup [.str [], .int .i64 1]) := by
  refine mkS' false 52 [] Tryz.func7 rfl (by kernel_rfl) ?_
  repeat'
    (conv => arg 2; whnf)
    first
    | refine okAsk (by kernel_rfl) ?_
    | refine okBoth ?_ ?_
    | refine okBrT ?_
    | refine okBrF ?_
    | refine okBr (fun h => ?_) (fun h => ?_)
    | refine okFn (rSetupN_s hnum s.setup hs.1 h0) rfl (Cos.refl _) ?_
    | refine endFn0 (.inr rfl) rfl (.refl _) rfl
    | (exfalso; simp_all; done)
theorem rPrintL_s [Wd] (hnum : NumOk) (s : ScriptD) (hs : dScript.ok s) (hl1 : (setupF s.setup).length ≤ 30000000) (h0 : nameF s.setup.topic = true) (h4 : 4096 < s.acts.length) : FnP Tryz.prog 7 [.agg (cScript s)] (.tup [.str [], .int .i64 3]) := by
  have HL := hs.2.1
  refine mkS' false 52 [] Tryz.func7 rfl (by kernel_rfl) ?_
  repeat'
    (conv => arg 2; whnf)
    first
    | refine okAsk (by kernel_rfl) ?_
    | refine okBoth ?_ ?_
    | refine okBrT ?_
    | refine okBrF ?_
    | refine okBr (fun h => ?_) (fun h => ?_)
    | refine okFn (rSetupY_s hnum s.setup hs.1 h0) rfl (Cos.refl _) ?_
    | refine endFn0 (.inr rfl) rfl (.refl _) rfl
    | (exfalso; simp at h; omega)
    | (exfalso; simp_all; done)
theorem rPrintY_s [Wd] (hnum : NumOk) (s : ScriptD) (hs : dScript.ok s) (hl1 : (setupF s.setup).length ≤ 30000000) (hl2 : ∀ a ∈ s.acts, lineOk a → (lineF a).length ≤ 33554448) (h0 : nameF s.setup.topic = true) (h4 : ¬ 4096 < s.acts.length) : FnP Tryz.prog 7 [.agg (cScript s)] (.tup [.str (printP s).1, .int .i64 (printP s).2]) := by
  have HL := hs.2.1
  refine mkS' false 52 [] Tryz.func7 rfl (by kernel_rfl) ?_
  repeat'
    (conv => arg 2; whnf)
    first
    | refine okAsk (by kernel_rfl) ?_
    | refine okAsk (by simp; omega) ?_
    | refine okBoth ?_ ?_
    | refine okBrT ?_
    | refine okBrF ?_
    | refine okBr (fun h => ?_) (fun h => ?_)
    | refine okFn (rSetupY_s hnum s.setup hs.1 h0) rfl (Cos.refl _) ?_
    | (exfalso; simp at h; omega)
  refine okLoop (α := Nat × List (List D)) (fun a => ⟨[(7, .int .i64 a.1), (1, .ptr 0 0), (6, .row 1)], [.cells 28 (cScript s), .row 5 1 a.2]⟩) (fun a => a.1 ≤ s.acts.length ∧ a.2 = (outF s a.1).map cByte ∧ ∀ j a', j < a.1 → s.acts[j]? = some a' → lineOk a') (fun a => s.acts.length - a.1) (0, (setupF s.setup ++ [10]).map cByte) ⟨Nat.zero_le _, by simp [outF], fun j a' hj => absurd hj (Nat.not_lt_zero _)⟩ (Sv.mk' [0, 1] rfl ⟨⟨rfl, rfl⟩, ⟨rfl, rfl⟩, trivial⟩ ⟨rfl, rfl, rfl, trivial⟩) ?_
  rintro ⟨q, xs⟩ ⟨hq, he, hy⟩
  replace hq : q ≤ s.acts.length := hq
  replace he : xs = (outF s q).map cByte := he
  replace hy : ∀ j a', j < q → s.acts[j]? = some a' → lineOk a' := hy
  have hxl : xs.length ≤ 200000000000 := by
    have h1 := outF_len 33554448 hl1 q (fun j a hj ha => hl2 a (List.mem_of_getElem? ha) (hy j a hj ha))
    have h2 : q * (33554448 + 1) ≤ 4096 * (33554448 + 1) := Nat.mul_le_mul_right _ (by omega)
    rw [he, List.length_map]
    omega
  have hb2 : ∀ x : ActD, s.acts[q]? = some x → lineOk x → (lineF x).length ≤ 33554448 := fun x hx hk => hl2 x (List.mem_of_getElem? hx) hk
  repeat'
    (conv => arg 2; whnf)
    first
    | refine okAsk (by decide) ?_
    | refine okAsk ⟨(by have := hb2 x hx hk; simp [maxLen]; omega), (by have := hb2 x hx hk; simp; omega)⟩ ?_
    | refine okAsk (by kernel_rfl) ?_
    | refine okBoth ?_ ?_
    | refine okBrT ?_
    | refine okBrF ?_
    | refine okBr (fun h => ?_) (fun h => ?_)
    | (refine okNthMap (l := s.acts) (by simp at h; omega) (fun x hx => ?_); by_cases hk : lineOk x)
    | refine okFn (rLineYes_s hnum x (hs.2.2 x (List.mem_of_getElem? hx)) hk) rfl (Cos.refl _) ?_
    | refine okFn (rLineNo_s hnum x (hs.2.2 x (List.mem_of_getElem? hx)) hk) rfl (Cos.refl _) ?_
    | refine okWrap (w64 (by simp at h hq; omega) (by have := HL; simp at h hq; omega)) ?_
    | refine okAgain (q + 1, xs ++ (lineF x).map cByte ++ [[.int .u8 10]]) (Sv.mk' [0, 4] rfl ⟨⟨rfl, rfl⟩, ⟨rfl, rfl⟩, trivial⟩ ⟨rfl, rfl, rfl, trivial⟩) ⟨by have := (List.getElem?_eq_some_iff.1 hx).1; show q + 1 ≤ s.acts.length; omega, by show xs ++ _ ++ _ = _; rw [outF_at' hx, he], fun j a' hj ha => (by rcases Nat.lt_or_ge j q with hjq | hjq; exact hy j a' hjq ha; (have : j = q := by have hj' : j < q + 1 := hj; omega); subst this; rw [hx] at ha; injection ha with ha; rw [← ha]; exact hk)⟩ (by have := (List.getElem?_eq_some_iff.1 hx).1; show s.acts.length - (q + 1) < s.acts.length - q; omega)
    | refine okRet ?_
    | refine okOut ?_
    | refine okByts (outF s q) he ?_
    | refine okAsk (by rw [he, List.length_map] at hxl; omega) ?_
    | (have hp := printP_no h0 (by omega) hx hk; refine endP (.inr rfl) rfl hp)
    | (have hp := printP_yes h0 (by omega) (fun j a' hj ha => hy j a' (by simp at h; omega) ha); have hqe : q = s.acts.length := by (simp at h; omega)
       refine endP (.inr rfl) rfl (by rw [hp, hqe]))
    | (exfalso; simp_all; done)
open Classical in
theorem rPrint_s [Wd] (hnum : NumOk) (s : ScriptD) (hs : dScript.ok s) (hl1 : (setupF s.setup).length ≤ 30000000) (hl2 : ∀ a ∈ s.acts, lineOk a → (lineF a).length ≤ 33554448) : FnP Tryz.prog 7 [.agg (cScript s)] (.tup [.str (printP s).1, .int .i64 (printP s).2]) := by
  cases h0 : nameF s.setup.topic with
  | false =>
    have e : printP s = ([], 1) := by unfold printP; rw [if_pos h0]
    rw [e]
    exact rPrintN_s hnum s hs hl1 h0
  | true =>
    by_cases h4 : 4096 < s.acts.length
    · have e : printP s = ([], 3) := by unfold printP; rw [if_neg (by rw [h0]; decide), if_pos h4]
      rw [e]
      exact rPrintL_s hnum s hs hl1 h0 h4
    · exact rPrintY_s hnum s hs hl1 hl2 h0 h4
end Go.Proofs.YtbbcepmhkocgbaaGreatDoor

/- bullalaw27.live: the fixed script prints as it should. -/
namespace Go.Proofs.YtbbcepmhkocgbaaGreatDoor
open Go.RowKit Go.Deep
set_option linter.unusedVariables false

def lvO : List Value := [.int .i64 1, .string (bstr [116]), .string ⟨#[]⟩, .int .i64 0, .slice none 0 0]
def lvC1 : List Value := actC 6 2 0 lvO (.slice none 0 0) zMsgC false
def lvC2 : List Value := actC 8 3 (-1) zOpC (.slice none 0 0) zMsgC false
def lvC3 : List Value := actC 12 0 0 zOpC (.slice none 0 0) zMsgC false
theorem lvO_rd (inn : Nat → Prop) (w : World) : tOp.rd inn w lvO lvA.op :=
  tOp.mk (s := lvA.op) (by simp [lvA, zOp, zAct]) (by simp [lvA, zOp, zAct]) (by simp [lvA, zOp, zAct]) (by simp [lvA, zOp, zAct]) (tL.nil _ _ _)
theorem lv1_rd (inn : Nat → Prop) (w : World) : tAct.rd inn w lvC1 lvA :=
  tAct.mk' (s := lvA) (by simp [lvA]) (by simp [lvA]) (by simp [lvA, zAct]) (lvO_rd _ _) (tY.nil _ _) (zMsg_rd _ _)
theorem lv2_rd (inn : Nat → Prop) (w : World) : tAct.rd inn w lvC2 lvC :=
  tAct.mk' (s := lvC) (by simp [lvC]) (by simp [lvC]) (by simp [lvC]) (zOp_rd _ _) (tY.nil _ _) (zMsg_rd _ _)
theorem lv3_rd (inn : Nat → Prop) (w : World) : tAct.rd inn w lvC3 lvR :=
  tAct.mk' (s := lvR) (by simp [lvR]) (by simp [lvR, zAct]) (by simp [lvR, zAct]) (zOp_rd _ _) (tY.nil _ _) (zMsg_rd _ _)
theorem lv_at {w : World} {g o : Nat} {Z : Array Value} {t : TypeId} {a c d : List Value} (hb : Blk w g t Z) (hz : Z.toList = a ++ c ++ d) (ho : a.length = o) : ∀ j v, c[j]? = some v → w.cell? ⟨g, o + j, none⟩ = some v := by
  intro j v hv
  have hl : j < c.length := (List.getElem?_eq_some_iff.1 hv).1
  rw [hb.cell, ← Array.getElem?_toList, hz, List.append_assoc, List.getElem?_append_right (by omega), List.getElem?_append_left (by omega)]
  rw [show o + j - a.length = j by omega]
  exact hv
theorem liveP {w : World} (hT : TabW w) {Z : Array Value} (hz : Z.toList = lvC1 ++ lvC2 ++ lvC3) :
    Calls Tryz.prog 6 #[.agg #[.int .i64 1, .int .u16 0, .int .u16 0, .int .i64 65536, .string ⟨#[116]⟩, .slice (some ⟨w.heap.size, 0, none⟩) 3 3]] (w.alloc (.cells Z 58)) fun r w' => r = .returned (.tuple #[.string (bstr lvL), .int .i64 0]) ∧ B w w' := by
  have hb : Blk (w.alloc (.cells Z 58)) w.heap.size 58 Z := aBlk.get (aBlk.new (St.nil w) 58 Z)
  have hB : B w (w.alloc (.cells Z 58)) := B.alloc' _ _
  have l1 : lvC1.length = 40 := rfl
  have l2 : lvC2.length = 40 := rfl
  have l3 : lvC3.length = 40 := rfl
  have h : (tL tAct).rd (fun _ => True) (w.alloc (.cells Z 58)) [.slice (some ⟨w.heap.size, 0, none⟩) 3 3] lvS.acts := by
    refine ⟨some ⟨w.heap.size, 0, none⟩, 3, rfl, by simp [lvS], by unfold maxLen; omega, by simp, by simp [lvS], fun _ => ⟨w.heap.size, 0, rfl, by simp, trivial, ?_⟩⟩
    intro i x hx
    rcases i with _ | _ | _ | i
    · simp only [lvS, List.getElem?_cons_zero, Option.some.injEq] at hx
      subst hx
      exact ⟨lvC1, lv1_rd _ _, lv_at (o := 0) (a := []) (d := lvC2 ++ lvC3) hb (by rw [hz]; simp) rfl⟩
    · simp only [lvS, List.getElem?_cons_zero, List.getElem?_cons_succ, Option.some.injEq] at hx
      subst hx
      exact ⟨lvC2, lv2_rd _ _, lv_at (o := 40) (a := lvC1) (d := lvC3) hb hz l1⟩
    · simp only [lvS, List.getElem?_cons_zero, List.getElem?_cons_succ, Option.some.injEq] at hx
      subst hx
      exact ⟨lvC3, lv3_rd _ _, lv_at (o := 80) (a := lvC1 ++ lvC2) (d := []) hb (by rw [hz]; simp) (by rw [List.length_append, l1, l2])⟩
    · simp [lvS] at hx
  have hS := tScript.mk (s := lvS) (by simp [lvS, lvU]) (by simp [lvS, lvU]) (by simp [lvS, lvU]) (by simp [lvS, lvU]) (by simp [lvS, lvU]) h
  refine (print_c (hT.later hB) hS).mono fun r w' hr => ?_
  obtain ⟨rfl, hb'⟩ := hr
  rw [lv_print]
  exact ⟨rfl, hB.trans hb'⟩
set_option maxRecDepth 20000 in
set_option maxHeartbeats 8000000 in
theorem live_c {w : World} (hT : TabW w) : Calls Tryz.prog 5 #[] w fun r w' => r = .returned (.bool true) ∧ B w w' := by
  have HP := Lib.hid (fun (Z : Array Value) hz => liveP hT (Z := Z) hz)
  have hlv : bstr lvL = ⟨#[119, 111, 114, 108, 100, 32, 49, 32, 48, 32, 48, 32, 54, 53, 53, 51, 54, 32, 116, 10, 97, 115, 107, 32, 50, 32, 120, 48, 49, 48, 49, 55, 52, 10, 99, 114, 97, 115, 104, 32, 51, 32, 45, 49, 10, 114, 111, 117, 110, 100, 10]⟩ := by decide +kernel
  rw [hlv] at HP
  clear hT
  go_enter Tryz.func5, Tryz.ntmps5
  go_wp2_with (first | (go_at_call 6; (refine callsM (HP.out _ rfl) ?_); rintro r w1 ⟨rfl, hb⟩) | fail)
  go_ret
  exact ⟨rfl, hb⟩
end Go.Proofs.YtbbcepmhkocgbaaGreatDoor

/- bullaref27.Print over readings, where the table of powers is laid; bullalaw27.ScriptPrints: the law's walk. -/
namespace Go.Proofs.YtbbcepmhkocgbaaGreatDoor
open Go.RowKit Go.Deep
set_option linter.unusedVariables false

theorem tab_lt {w : World} (h : Lib.TabIs Tryz.prog w "internal/strconv.uint64pow10" .u64 Lib.pow10Tab) : 1 < w.heap.size := by
  unfold Lib.TabIs World.var? at h
  rw [tabG] at h
  simp only [Option.bind_some] at h
  rcases Nat.lt_or_ge 1 w.heap.size with h' | h'
  · exact h'
  · rw [Array.getElem?_eq_none h'] at h; simp at h
/-- a string and a number, out of data -/
theorem two_inv {I : Nat → Prop} {g : Ghost} {w : World} {v : Value} {s : List UInt8} {n : Int} (h : Vr I g w v (.tup [.str s, .int .i64 n])) : v = .tuple #[.string (bstr s), .int .i64 n] := by
  obtain ⟨vs, rfl, hl, h2⟩ := h.tup_inv
  match vs, hl with
  | [a, b], _ =>
    have ha := (h2 0 a _ rfl rfl).str_inv
    have hb := (h2 1 b _ rfl rfl).int_inv
    rw [ha, hb]
open Classical in
theorem rPrint_c {inn : Nat → Prop} {w : World} {cs : List Value} {s : ScriptD} (hT : TabW w) (h : tScript.rd inn w cs s) :
    Calls Tryz.prog 7 #[.agg cs.toArray] w fun r w' => r = .returned (.tuple #[.string (bstr (printP s).1), .int .i64 (printP s).2]) ∧ B w w' := by
  have hl1 : (setupF s.setup).length ≤ 30000000 := by
    obtain ⟨c0, c1, _, h0, _⟩ := h
    exact setupF_len h0
  have hl2 : ∀ a ∈ s.acts, lineOk a → (lineF a).length ≤ 33554448 := by
    obtain ⟨c0, c1, _, _, h1⟩ := h
    intro a ha ho
    obtain ⟨j, hj⟩ := List.getElem?_of_mem ha
    obtain ⟨A, c, rfl, hs⟩ := tL.slice h1
    obtain ⟨_, ba, oa, ca, _, r1, k1⟩ := tL.at h1 hj
    exact lineF_len r1 ho.1
  have hI : tScript.rd (fun b => inn b ∨ b = 1) w cs s := tScript.mono h (fun _ => .inl)
  have ht := hT w (Below.refl _ _)
  refine (@FnP.calls tabWd _ _ _ _ (@rPrint_s tabWd numOk_tab s (LkScript.to h).2.1 hl1 hl2) _ w [.agg cs.toArray] (LkScript.arg hI) ⟨⟨.inr rfl, tab_lt ht⟩, ht⟩).mono ?_
  rintro e w' ⟨v, I', rfl, hb, hv, _⟩
  exact ⟨by rw [two_inv hv], hb⟩
set_option maxRecDepth 20000 in
set_option maxHeartbeats 8000000 in
theorem prints_w {w : World} {A : Array Value} {X : ByteArray} {e : Int} (hA : A.size = 6)
    (HLV : ∀ w', B w w' → Calls Tryz.prog 5 #[] w' fun r w2 => r = .returned (.bool true) ∧ B w' w2)
    (HP : ∀ w', B w w' → Calls Tryz.prog 6 #[.agg A] w' fun r w2 => r = .returned (.tuple #[.string X, .int .i64 e]) ∧ B w' w2)
    (HR : ∀ w', B w w' → Calls Tryz.prog 7 #[.agg A] w' fun r w2 => r = .returned (.tuple #[.string X, .int .i64 e]) ∧ B w' w2) :
    Calls Tryz.prog 3 #[.agg A] w fun r w' => r = .returned (.bool true) ∧ B w w' := by
  replace HLV := Lib.hid HLV
  replace HP := Lib.hid HP
  replace HR := Lib.hid HR
  have HI := Lib.hid (show (Tryz.prog.info? 28).map (·.size) = some A.size from by rw [hA]; kernel_rfl)
  have HS := Lib.hid (aBlk.new (St.nil w) 28 A)
  clear hA
  go_enter Tryz.func3, Tryz.ntmps3
  go_wp2_with (first
    | (go_at_call 5; (with_reducible refine callsM (HLV.out _ HS.out.b) ?_); rintro r wn ⟨rfl, hb⟩; replace HS := Lib.hid (HS.out.on.later hb); clear hb)
    | (refine wpList_load_row rfl 28 (.tmp 1) rfl w.heap.size rfl 28 A (0, 0) _ (aBlk.get HS.out) Tryz.underlying28 rfl HI.out ?_)
    | (go_at_call 6; (with_reducible refine callsM (HP.out _ HS.out.b) ?_); rintro r wn ⟨rfl, hb⟩; replace HS := Lib.hid (HS.out.on.later hb); clear hb)
    | (go_at_call 7; (with_reducible refine callsM (HR.out _ HS.out.b) ?_); rintro r wn ⟨rfl, hb⟩; replace HS := Lib.hid (HS.out.on.later hb); clear hb)
    | fail)
  go_ret
  exact ⟨by first | rfl | simp_all, HS.out.b⟩
theorem prints_c {inn : Nat → Prop} {w : World} {cs : List Value} {s : ScriptD} (hT : TabW w) (h : tScript.rd inn w cs s) :
    Calls Tryz.prog 3 #[.agg cs.toArray] w fun r w' => r = .returned (.bool true) ∧ B w w' :=
  prints_w (X := bstr (printP s).1) (e := (printP s).2) (by obtain ⟨v1, rfl, _⟩ := tScript.parts h; rfl) (fun w' hb => live_c (hT.later hb)) (fun w' hb => print_c (hT.later hb) (tScript.later h hb)) (fun w' hb => rPrint_c (hT.later hb) (tScript.later h hb))
end Go.Proofs.YtbbcepmhkocgbaaGreatDoor

/- ScriptApart's plain side: what reads is sized; lines are alike for the same acts alone. -/
namespace Go.Proofs.YtbbcepmhkocgbaaGreatDoor
open Go.RowKit Go.Deep
set_option linter.unusedVariables false

end Go.Proofs.YtbbcepmhkocgbaaGreatDoor

/- script.digit, script.ParseHex. -/
namespace Go.Proofs.YtbbcepmhkocgbaaGreatDoor
open Go.RowKit Go.Deep
set_option linter.unusedVariables false

end Go.Proofs.YtbbcepmhkocgbaaGreatDoor

/- script.ParseHex. -/
namespace Go.Proofs.YtbbcepmhkocgbaaGreatDoor
open Go.RowKit Go.Deep
set_option linter.unusedVariables false

end Go.Proofs.YtbbcepmhkocgbaaGreatDoor

/- bullalaw27.ScriptApart: the law's walk. -/
namespace Go.Proofs.YtbbcepmhkocgbaaGreatDoor
open Go.RowKit Go.Deep
set_option linter.unusedVariables false

end Go.Proofs.YtbbcepmhkocgbaaGreatDoor

/- bullalaw27.ScriptApart is true (the premises of its walk paid). -/
namespace Go.Proofs.YtbbcepmhkocgbaaGreatDoor
open Go.RowKit Go.Deep
set_option linter.unusedVariables false

end Go.Proofs.YtbbcepmhkocgbaaGreatDoor
