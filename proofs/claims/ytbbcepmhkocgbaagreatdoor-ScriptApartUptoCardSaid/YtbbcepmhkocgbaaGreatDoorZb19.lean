/- Lemmas and contracts, part 19. -/
import Derived.Test.YtbbcepmhkocgbaaGreatDoorZb18
import Derived.Lib.ItoaLen
/- script.Line: an act's line (printed by gen_uc.py). -/
namespace Go.Proofs.YtbbcepmhkocgbaaGreatDoor
open Go.RowKit Go.Deep
set_option linter.unusedVariables false

theorem newRow (w1 : World) (U : Array Value) : B w1 ((w1.alloc (.cells #[.int .i64 0, .int .i64 0, .int .i64 0, .int .i64 0, .string ⟨#[]⟩, .string ⟨#[]⟩, .int .i64 0, .slice none 0 0, .slice none 0 0, .int .i64 0, .int .i64 0, .int .i64 0, .int .i64 0, .int .i64 0, .int .i64 0, .int .i64 0, .int .i64 0, .int .i64 0, .slice none 0 0, .int .i64 0, .int .i64 0, .slice none 0 0, .slice none 0 0, .slice none 0 0, .slice none 0 0, .string ⟨#[]⟩, .int .i64 0, .string ⟨#[]⟩, .int .i64 0, .slice none 0 0, .slice none 0 0, .int .i64 0, .int .i64 0, .slice none 0 0, .int .i64 0, .int .i64 0, .slice none 0 0, .int .i64 0, .int .i64 0, .bool false] 58)).setRow w1.heap.size U) := setRow_B (t := 58) (cs := #[]) (B.alloc' w1 _) (Nat.le_refl _) U
theorem joinF_len (M : Nat) : ∀ l : List (List UInt8), (∀ y ∈ l, y.length ≤ M) → (joinF l).length ≤ l.length * (M + 1)
  | [], _ => by simp [joinF]
  | [x], h => by have := h x (by simp); simp [joinF]; omega
  | x :: y :: r, h => by
    have h1 := h x (by simp)
    have h2 := joinF_len M (y :: r) (fun z hz => h z (by simp [hz]))
    simp only [joinF, List.length_append, List.length_cons] at h2 ⊢
    rw [Nat.add_mul (r.length + 1) 1, Nat.one_mul]
    omega
theorem kwN_len (n : Nat) (s : Bool) : (kwN n s).length ≤ 10 := by
  unfold kwN
  split
  all_goals first
    | (simp [wDeliver, wDrop, wDouble, wTick, wClock, wAsk, wRead, wCrash, wStart, wHash, wRound]; done)
    | (cases s <;> simp [wSend, wSeal])
theorem keepW_len {inn : Nat → Prop} {w : World} {cs : List Value} {x : ActD} (hx : tAct.rd inn w cs x) (hk : keepOk x) : (∀ y ∈ keepW x, y.length ≤ 8388610) ∧ (keepW x).length ≤ 4 := by
  obtain ⟨oc, b, mc, rfl, ⟨b1, b2, b3⟩, ho, hb, hm⟩ := tAct.open' hx
  obtain ⟨hr, h6, h11⟩ := hk
  have i1 := Lib.itoa_length_le x.who b2.1 b2.2
  have i2 := Lib.itoa_length_le x.num b3.1 b3.2
  have hy := tY.le hb
  unfold keepW
  constructor
  · intro y hy'
    rcases List.mem_cons.1 hy' with rfl | hy'
    · have := kwN_len x.kind.toNat x.sealed; omega
    · unfold argW at hy'
      split at hy'
      · simp at hy'; subst hy'; omega
      split at hy'
      · simp at hy'; subst hy'; omega
      split at hy'
      · rename_i k6
        simp at hy'
        rcases hy' with rfl | rfl
        · omega
        · exact hexF_len _ 0 (by have := opB_short (h6 k6); omega)
      split at hy'
      · simp at hy'; rcases hy' with rfl | rfl <;> omega
      split at hy'
      · simp at hy'; subst hy'; exact hexF_len _ 0 hy
      split at hy'
      · rename_i k11
        have hw := h11 k11
        have hu := unsB_len (msgE_kind (checkE_msg hw.1.1))
        rw [unsB_withS] at hu
        have ob := ownS_b hm
        simp [msgW, signW] at hy'
        rcases hy' with rfl | rfl | rfl
        · omega
        · exact hexF_len _ 0 (by omega)
        · have e1 := encLe10 (ownS x.msg).key.toNat (by omega)
          have e2 := encLe10 (ownS x.msg).digest.toNat (by omega)
          exact hexF_len _ 0 (by rw [List.length_append]; omega)
      · simp at hy'
  · unfold argW
    repeat' split
    all_goals simp [msgW]
theorem lineF_len {inn : Nat → Prop} {w : World} {cs : List Value} {x : ActD} (hx : tAct.rd inn w cs x) (hk : keepOk x) : (lineF x).length ≤ 33554448 := by
  obtain ⟨h1, h2⟩ := keepW_len hx hk
  have := joinF_len 8388610 (keepW x) h1
  have h3 : (keepW x).length * (8388610 + 1) ≤ 4 * (8388610 + 1) := Nat.mul_le_mul_right _ h2
  unfold lineF
  omega
set_option maxRecDepth 20000 in
set_option maxHeartbeats 8000000 in
theorem lineN_c {inn : Nat → Prop} {w : World} {cs : List Value} {x : ActD} (hT : TabW w) (hx : tAct.rd inn w cs x) (hk : ¬ keepOk x) :
    Calls Tryz.prog 8 #[.agg cs.toArray] w fun r w' => r = .returned (.tuple #[.string ⟨#[]⟩, .int .i64 1]) ∧ B w w' := by
  have hn := (tAct.one hx).1
  have HT := Lib.hid hT
  have HX := Lib.hid hx
  obtain ⟨A, hA⟩ : ∃ A, cs.toArray = A := ⟨_, rfl⟩
  have HAS := Lib.hid (show A.size = 40 from by rw [← hA, hn])
  have HIA := Lib.hid (show (Tryz.prog.info? 58).map (·.size) = some A.size from by rw [aInfo, ← hA, hn])
  have HK := Lib.hid (fun w1 (hb : B w w1) => (show Calls Tryz.prog 19 #[.agg A] w1 _ from by rw [← hA]; exact keepU_c (hT.later hb) (tAct.later hx hb) hk))
  have HS := Lib.hid (aBlk.new (St.nil w) 58 A)
  rw [hA]
  clear hA hn hx hk hT
  go_enter Tryz.func8, Tryz.ntmps8
  go_wp2_with (first
    | (refine wpList_load_row rfl 58 (.tmp 1) rfl w.heap.size rfl 58 A (0, 0) _ (aBlk.get HS.out.on) Tryz.underlying58 rfl HIA.out ?_)
    | (go_at_call 19; (with_reducible refine callsM (HK.out _ HS.out.on.b) ?_); rintro r w1 ⟨U, v, rfl, hU, hb⟩; replace HS := Lib.hid (aBlk.new (HS.out.on.later hb) 58 #[.int .i64 0, .int .i64 0, .int .i64 0, .int .i64 0, .string ⟨#[]⟩, .string ⟨#[]⟩, .int .i64 0, .slice none 0 0, .slice none 0 0, .int .i64 0, .int .i64 0, .int .i64 0, .int .i64 0, .int .i64 0, .int .i64 0, .int .i64 0, .int .i64 0, .int .i64 0, .slice none 0 0, .int .i64 0, .int .i64 0, .slice none 0 0, .slice none 0 0, .slice none 0 0, .slice none 0 0, .string ⟨#[]⟩, .int .i64 0, .string ⟨#[]⟩, .int .i64 0, .slice none 0 0, .slice none 0 0, .int .i64 0, .int .i64 0, .slice none 0 0, .int .i64 0, .int .i64 0, .slice none 0 0, .int .i64 0, .int .i64 0, .bool false]); have HU := Lib.hid hU; clear hU hb)
    | (refine wpList_store_row rfl 58 (.tmp 4) (.tmp 10) rfl w1.heap.size U rfl rfl 58 #[.int .i64 0, .int .i64 0, .int .i64 0, .int .i64 0, .string ⟨#[]⟩, .string ⟨#[]⟩, .int .i64 0, .slice none 0 0, .slice none 0 0, .int .i64 0, .int .i64 0, .int .i64 0, .int .i64 0, .int .i64 0, .int .i64 0, .int .i64 0, .int .i64 0, .int .i64 0, .slice none 0 0, .int .i64 0, .int .i64 0, .slice none 0 0, .slice none 0 0, .slice none 0 0, .slice none 0 0, .string ⟨#[]⟩, .int .i64 0, .string ⟨#[]⟩, .int .i64 0, .slice none 0 0, .slice none 0 0, .int .i64 0, .int .i64 0, .slice none 0 0, .int .i64 0, .int .i64 0, .slice none 0 0, .int .i64 0, .int .i64 0, .bool false] (aBlk.get HS.out) (by rw [aInfo, HU.out.1]) (by rw [HU.out.1]; rfl) HU.out.2 ?_; replace HS := Lib.hid (aBlk.setRow HS.out U))
    | fail)
  go_ret2
  exact ⟨rfl, HS.out.b⟩
set_option maxRecDepth 20000 in
set_option maxHeartbeats 8000000 in
theorem lineS_c {inn : Nat → Prop} {w : World} {cs : List Value} {x : ActD} (hT : TabW w) (hx : tAct.rd inn w cs x) (hk : keepOk x) (he : ¬ x = keepF x) :
    Calls Tryz.prog 8 #[.agg cs.toArray] w fun r w' => r = .returned (.tuple #[.string ⟨#[]⟩, .int .i64 1]) ∧ B w w' := by
  have hn := (tAct.one hx).1
  have HT := Lib.hid hT
  have HX := Lib.hid hx
  obtain ⟨A, hA⟩ : ∃ A, cs.toArray = A := ⟨_, rfl⟩
  have HAS := Lib.hid (show A.size = 40 from by rw [← hA, hn])
  have HIA := Lib.hid (show (Tryz.prog.info? 58).map (·.size) = some A.size from by rw [aInfo, ← hA, hn])
  have HK := Lib.hid (fun w1 (hb : B w w1) => (show Calls Tryz.prog 19 #[.agg A] w1 _ from by rw [← hA]; exact keepV_c (hT.later hb) (tAct.later hx hb) hk))
  have HSM := Lib.hid (fun w1 (U : Array Value) (hb : B w w1) (hd : ∃ ds : List Value, U = ds.toArray ∧ tAct.rd (fun _ => True) w1 ds (keepF x)) w2 (hb2 : B w1 w2) => (show Calls Tryz.prog 20 #[.agg A, .agg U] w2 fun e w' => e = .returned (.bool false) ∧ B w2 w' from by
    obtain ⟨ds, rfl, hd⟩ := hd
    rw [← hA, ← eqB_false he]
    exact sSame_c (tAct.later hx (hb.trans hb2)) (tAct.later hd hb2)))
  have HS := Lib.hid (aBlk.new (St.nil w) 58 A)
  have HJ := Lib.hid (show (joinF (keepW x)).length ≤ 140737488355328 from by have := lineF_len hx hk; unfold lineF at this; omega)
  have HJ2 := Lib.hid (show (keepW x).length ≤ 140737488355328 from by have := (keepW_len hx hk).2; omega)
  rw [hA]
  clear hA hn hx hk hT he
  go_enter Tryz.func8, Tryz.ntmps8
  go_wp2_with (first
    | (refine wpList_load_row rfl 58 (.tmp 1) rfl w.heap.size rfl 58 A (0, 0) _ (aBlk.get HS.out.on) Tryz.underlying58 rfl HIA.out ?_)
    | (go_at_call 19; (with_reducible refine callsM (HK.out _ HS.out.on.b) ?_); rintro r w1 ⟨U, v, rfl, hU, hS⟩; have HB1 := Lib.hid (B.trans HS.out.on.b hS.b); replace HS := Lib.hid (aBlk.new (St.onto HS.out.on hS) 58 #[.int .i64 0, .int .i64 0, .int .i64 0, .int .i64 0, .string ⟨#[]⟩, .string ⟨#[]⟩, .int .i64 0, .slice none 0 0, .slice none 0 0, .int .i64 0, .int .i64 0, .int .i64 0, .int .i64 0, .int .i64 0, .int .i64 0, .int .i64 0, .int .i64 0, .int .i64 0, .slice none 0 0, .int .i64 0, .int .i64 0, .slice none 0 0, .slice none 0 0, .slice none 0 0, .slice none 0 0, .string ⟨#[]⟩, .int .i64 0, .string ⟨#[]⟩, .int .i64 0, .slice none 0 0, .slice none 0 0, .int .i64 0, .int .i64 0, .slice none 0 0, .int .i64 0, .int .i64 0, .slice none 0 0, .int .i64 0, .int .i64 0, .bool false]); have HU := Lib.hid hU; clear hU hS)
    | (refine wpList_store_row rfl 58 (.tmp 4) (.tmp 10) rfl w1.heap.size U rfl rfl 58 #[.int .i64 0, .int .i64 0, .int .i64 0, .int .i64 0, .string ⟨#[]⟩, .string ⟨#[]⟩, .int .i64 0, .slice none 0 0, .slice none 0 0, .int .i64 0, .int .i64 0, .int .i64 0, .int .i64 0, .int .i64 0, .int .i64 0, .int .i64 0, .int .i64 0, .int .i64 0, .slice none 0 0, .int .i64 0, .int .i64 0, .slice none 0 0, .slice none 0 0, .slice none 0 0, .slice none 0 0, .string ⟨#[]⟩, .int .i64 0, .string ⟨#[]⟩, .int .i64 0, .slice none 0 0, .slice none 0 0, .int .i64 0, .int .i64 0, .slice none 0 0, .int .i64 0, .int .i64 0, .slice none 0 0, .int .i64 0, .int .i64 0, .bool false] (aBlk.get HS.out) (by rw [aInfo, HU.out.1.1]) (by rw [HU.out.1.1]; rfl) HU.out.1.2 ?_; have HB2 := Lib.hid (newRow w1 U); replace HS := Lib.hid (aBlk.setRow HS.out U))
    | (refine list_take (d := some 16) (v := .agg A) rfl rfl (run_load_op (ty := 58) rfl rfl (actLoad (aBlk.get HS.out.rot3) HAS.out)) ?_)
    | (refine list_take (d := some 17) (v := .agg U) rfl rfl (run_load_op (ty := 58) rfl rfl (actLoad (aBlk.get HS.out) HU.out.1.1)) ?_)
    | (go_at_call 20; (with_reducible refine callsM (HSM.out _ _ HB1.out HU.out.2 _ HB2.out) ?_); rintro r w3 ⟨rfl, hb⟩; replace HS := Lib.hid (HS.out.later hb); clear hb)
    | fail)
  go_ret2
  exact ⟨rfl, HS.out.b⟩
set_option maxRecDepth 20000 in
set_option maxHeartbeats 8000000 in
theorem lineY_c {inn : Nat → Prop} {w : World} {cs : List Value} {x : ActD} (hT : TabW w) (hx : tAct.rd inn w cs x) (hk : keepOk x) (he : x = keepF x) :
    Calls Tryz.prog 8 #[.agg cs.toArray] w fun r w' => r = .returned (.tuple #[.string (bstr (lineF x)), .int .i64 0]) ∧ B w w' := by
  have hn := (tAct.one hx).1
  have HT := Lib.hid hT
  have HX := Lib.hid hx
  obtain ⟨A, hA⟩ : ∃ A, cs.toArray = A := ⟨_, rfl⟩
  have HAS := Lib.hid (show A.size = 40 from by rw [← hA, hn])
  have HIA := Lib.hid (show (Tryz.prog.info? 58).map (·.size) = some A.size from by rw [aInfo, ← hA, hn])
  have HK := Lib.hid (fun w1 (hb : B w w1) => (show Calls Tryz.prog 19 #[.agg A] w1 _ from by rw [← hA]; exact keepV_c (hT.later hb) (tAct.later hx hb) hk))
  have HSM := Lib.hid (fun w1 (U : Array Value) (hb : B w w1) (hd : ∃ ds : List Value, U = ds.toArray ∧ tAct.rd (fun _ => True) w1 ds (keepF x)) w2 (hb2 : B w1 w2) => (show Calls Tryz.prog 20 #[.agg A, .agg U] w2 fun e w' => e = .returned (.bool true) ∧ B w2 w' from by
    obtain ⟨ds, rfl, hd⟩ := hd
    rw [← hA, ← eqB_true he]
    exact sSame_c (tAct.later hx (hb.trans hb2)) (tAct.later hd hb2)))
  have HS := Lib.hid (aBlk.new (St.nil w) 58 A)
  have HJ := Lib.hid (show (joinF (keepW x)).length ≤ 140737488355328 from by have := lineF_len hx hk; unfold lineF at this; omega)
  have HJ2 := Lib.hid (show (keepW x).length ≤ 140737488355328 from by have := (keepW_len hx hk).2; omega)
  rw [hA]
  clear hA hn hx hk hT he
  go_enter Tryz.func8, Tryz.ntmps8
  go_wp2_with (first
    | (refine wpList_load_row rfl 58 (.tmp 1) rfl w.heap.size rfl 58 A (0, 0) _ (aBlk.get HS.out.on) Tryz.underlying58 rfl HIA.out ?_)
    | (go_at_call 19; (with_reducible refine callsM (HK.out _ HS.out.on.b) ?_); rintro r w1 ⟨U, v, rfl, hU, hS⟩; have HB1 := Lib.hid (B.trans HS.out.on.b hS.b); replace HS := Lib.hid (aBlk.new (St.onto HS.out.on hS) 58 #[.int .i64 0, .int .i64 0, .int .i64 0, .int .i64 0, .string ⟨#[]⟩, .string ⟨#[]⟩, .int .i64 0, .slice none 0 0, .slice none 0 0, .int .i64 0, .int .i64 0, .int .i64 0, .int .i64 0, .int .i64 0, .int .i64 0, .int .i64 0, .int .i64 0, .int .i64 0, .slice none 0 0, .int .i64 0, .int .i64 0, .slice none 0 0, .slice none 0 0, .slice none 0 0, .slice none 0 0, .string ⟨#[]⟩, .int .i64 0, .string ⟨#[]⟩, .int .i64 0, .slice none 0 0, .slice none 0 0, .int .i64 0, .int .i64 0, .slice none 0 0, .int .i64 0, .int .i64 0, .slice none 0 0, .int .i64 0, .int .i64 0, .bool false]); have HU := Lib.hid hU; clear hU hS)
    | (refine wpList_store_row rfl 58 (.tmp 4) (.tmp 10) rfl w1.heap.size U rfl rfl 58 #[.int .i64 0, .int .i64 0, .int .i64 0, .int .i64 0, .string ⟨#[]⟩, .string ⟨#[]⟩, .int .i64 0, .slice none 0 0, .slice none 0 0, .int .i64 0, .int .i64 0, .int .i64 0, .int .i64 0, .int .i64 0, .int .i64 0, .int .i64 0, .int .i64 0, .int .i64 0, .slice none 0 0, .int .i64 0, .int .i64 0, .slice none 0 0, .slice none 0 0, .slice none 0 0, .slice none 0 0, .string ⟨#[]⟩, .int .i64 0, .string ⟨#[]⟩, .int .i64 0, .slice none 0 0, .slice none 0 0, .int .i64 0, .int .i64 0, .slice none 0 0, .int .i64 0, .int .i64 0, .slice none 0 0, .int .i64 0, .int .i64 0, .bool false] (aBlk.get HS.out) (by rw [aInfo, HU.out.1.1]) (by rw [HU.out.1.1]; rfl) HU.out.1.2 ?_; have HB2 := Lib.hid (newRow w1 U); replace HS := Lib.hid (aBlk.setRow HS.out U))
    | (refine list_take (d := some 16) (v := .agg A) rfl rfl (run_load_op (ty := 58) rfl rfl (actLoad (aBlk.get HS.out.rot3) HAS.out)) ?_)
    | (refine list_take (d := some 17) (v := .agg U) rfl rfl (run_load_op (ty := 58) rfl rfl (actLoad (aBlk.get HS.out) HU.out.1.1)) ?_)
    | (go_at_call 20; (with_reducible refine callsM (HSM.out _ _ HB1.out HU.out.2 _ HB2.out) ?_); rintro r w3 ⟨rfl, hb⟩; replace HS := Lib.hid (HS.out.later hb); clear hb)
    | (go_at_call 21; (with_reducible refine callsM (join_c HS.out.swap (HJ.out) (HJ2.out) rfl) ?_); rintro r w4 ⟨rfl, hb⟩; replace HS := Lib.hid (HS.out.later hb); clear hb)
    | fail)
  go_ret2
  exact ⟨rfl, HS.out.b⟩
/-- what script.Line answers -/
def LinePost (w : World) (x : ActD) (r : Ending) (w' : World) : Prop := open Classical in
  (r = if lineOk x then .returned (.tuple #[.string (bstr (lineF x)), .int .i64 0]) else .returned (.tuple #[.string ⟨#[]⟩, .int .i64 1])) ∧ B w w'
theorem line_c {inn : Nat → Prop} {w : World} {cs : List Value} {x : ActD} (hT : TabW w) (hx : tAct.rd inn w cs x) : Calls Tryz.prog 8 #[.agg cs.toArray] w (LinePost w x) := by
  by_cases hk : keepOk x
  · by_cases he : x = keepF x
    · refine (lineY_c hT hx hk he).mono fun r w' h => ?_
      unfold LinePost; rw [if_pos ⟨hk, he⟩]; exact h
    · refine (lineS_c hT hx hk he).mono fun r w' h => ?_
      unfold LinePost; rw [if_neg (fun h => he h.2)]; exact h
  · refine (lineN_c hT hx hk).mono fun r w' h => ?_
    unfold LinePost; rw [if_neg (fun h => hk h.1)]; exact h
end Go.Proofs.YtbbcepmhkocgbaaGreatDoor

/- script.SetupLine: a setup's line (printed by gen_uk.py). -/
namespace Go.Proofs.YtbbcepmhkocgbaaGreatDoor
open Go.RowKit Go.Deep
set_option linter.unusedVariables false

def wWorld : List UInt8 := [119, 111, 114, 108, 100]
def setupW (s : SetupD) : List (List UInt8) := [wWorld, Lib.itoa s.f, Lib.itoa s.faulty, Lib.itoa s.liars, Lib.itoa s.room, s.topic]
def setupF (s : SetupD) : List UInt8 := joinF (setupW s)
theorem i64_idk {x : Int} (h : 0 ≤ x ∧ x ≤ 9223372036854775807) : IntKind.i64.wrap x = x := by
  simp [IntKind.wrap, IntKind.signed, IntKind.bits]; omega
theorem setupF_len {inn : Nat → Prop} {w : World} {cs : List Value} {s : SetupD} (h : tSetup.rd inn w cs s) : (setupF s).length ≤ 30000000 := by
  obtain ⟨_, b1, b2, b3, b4, b5⟩ := tSetup.parts h
  have i1 := Lib.itoa_length_le s.f b1.1 b1.2
  have i2 := Lib.itoa_length_le s.faulty (by omega) (by omega)
  have i3 := Lib.itoa_length_le s.liars (by omega) (by omega)
  have i4 := Lib.itoa_length_le s.room b4.1 b4.2
  have := joinF_len 4194304 (setupW s) (by
    intro y hy
    simp only [setupW, List.mem_cons, List.not_mem_nil, or_false] at hy
    rcases hy with rfl | rfl | rfl | rfl | rfl | rfl
    · simp [wWorld]
    all_goals omega)
  unfold setupF
  have e : (setupW s).length = 6 := rfl
  rw [e] at this
  omega
set_option maxRecDepth 20000 in
set_option maxHeartbeats 8000000 in
theorem setupN_c {inn : Nat → Prop} {w : World} {cs : List Value} {s : SetupD} (h : tSetup.rd inn w cs s) (hk : nameF s.topic = false) :
    Calls Tryz.prog 14 #[.agg cs.toArray] w fun r w' => r = .returned (.tuple #[.string ⟨#[]⟩, .int .i64 1]) ∧ B w w' := by
  obtain ⟨rfl, b1, b2, b3, b4, b5⟩ := tSetup.parts h
  have HN := Lib.hid (fun w' => name_c w' s.topic b5)
  rw [hk] at HN
  have HS := Lib.hid (aBlk.new (St.nil w) 25 #[.int .i64 s.f, .int .u16 s.faulty, .int .u16 s.liars, .int .i64 s.room, .string (bstr s.topic)])
  clear h hk
  go_enter Tryz.func14, Tryz.ntmps14
  go_wp2_with (first | (go_at_call 29; (with_reducible refine callsM (HN.out _) ?_); rintro r w1 ⟨rfl, hb⟩; replace HS := Lib.hid (HS.out.on.later hb); clear hb) | fail)
  go_ret2
  exact ⟨rfl, HS.out.b⟩
set_option maxRecDepth 20000 in
set_option maxHeartbeats 8000000 in
theorem setupY_c {inn : Nat → Prop} {w : World} {cs : List Value} {s : SetupD} (hT : TabW w) (h : tSetup.rd inn w cs s) (hk : nameF s.topic = true) :
    Calls Tryz.prog 14 #[.agg cs.toArray] w fun r w' => r = .returned (.tuple #[.string (bstr (setupF s)), .int .i64 0]) ∧ B w w' := by
  have HJ := Lib.hid (show (joinF (setupW s)).length ≤ 140737488355328 from by have := setupF_len h; unfold setupF at this; omega)
  obtain ⟨rfl, b1, b2, b3, b4, b5⟩ := tSetup.parts h
  have HN := Lib.hid (fun w' => name_c w' s.topic b5)
  rw [hk] at HN
  have HS := Lib.hid (aBlk.new (St.nil w) 25 #[.int .i64 s.f, .int .u16 s.faulty, .int .u16 s.liars, .int .i64 s.room, .string (bstr s.topic)])
  have HT := Lib.hid hT
  have HB1 := Lib.hid b1
  have HB2 := Lib.hid b2
  have HB3 := Lib.hid b3
  have HB4 := Lib.hid b4
  have w1k : IntKind.i64.wrap s.faulty = s.faulty := i64_idk (by omega)
  have w2k : IntKind.i64.wrap s.liars = s.liars := i64_idk (by omega)
  clear h hk hT
  go_enter Tryz.func14, Tryz.ntmps14
  go_wp2_with (first | (go_at_call 29; (with_reducible refine callsM (HN.out _) ?_); rintro r w1 ⟨rfl, hb⟩; replace HS := Lib.hid (HS.out.on.later hb); clear hb) | fail)
  have HSW := HS
  obtain ⟨SS, H0, HSB, HST, HLL⟩ : ∃ SS : World → Prop, SS w1.drew ∧ (∀ w', SS w' → B w w') ∧ (∀ w' w'', SS w' → B w' w'' → SS w'') ∧ (∀ w', SS w' → Blk w' w.heap.size 25 #[.int .i64 s.f, .int .u16 s.faulty, .int .u16 s.liars, .int .i64 s.room, .string (bstr s.topic)]) :=
    ⟨fun w' => B w1 w', (Below.refl _ _).drew, fun w' hb => HS.out.b.trans hb, fun w' w'' h1 h2 => h1.trans h2, fun w' hb => aBlk.get (HS.out.later hb)⟩
  replace H0 := Lib.hid H0
  replace HSB := Lib.hid HSB
  replace HST := Lib.hid HST
  replace HLL := Lib.hid HLL
  clear HS HSW
  refine wp_region_held_drew (S := SS) (by kernel_rfl) H0.out (fun HS => ?_)
  replace HS := Lib.hid HS
  generalize World.drew _ = W1 at *
  refine anyH_take (i := 0) (d := some 8) (v := .pointer (some ⟨w.heap.size, 0, none⟩)) rfl rfl (by kernel_rfl) (by kernel_rfl) (by kernel_rfl) (fun _ _ _ h => h) rfl (fun w' hS => by go_simp) HS.out ?_
  simp only [Act.put, List.setIfInBounds_toArray, List.set_cons_zero, List.set_cons_succ]
  refine anyH_take (i := 1) (d := some 9) (v := .int .i64 s.f) rfl rfl (by kernel_rfl) (by kernel_rfl) (by kernel_rfl) (fun _ _ _ h => h) rfl (fun w' hS => by exact run_load_op (ty := 3) rfl rfl (load1 (by rw [(HLL.out w' hS).cell 0]; rfl) Tryz.underlying3 rfl)) HS.out ?_
  simp only [Act.put, List.setIfInBounds_toArray, List.set_cons_zero, List.set_cons_succ]
  refine anyH_take (i := 3) (d := some 11) (v := .pointer (some ⟨w.heap.size, 1, none⟩)) rfl rfl (by kernel_rfl) (by kernel_rfl) (by kernel_rfl) (fun _ _ _ h => h) rfl (fun w' hS => by go_simp) HS.out ?_
  simp only [Act.put, List.setIfInBounds_toArray, List.set_cons_zero, List.set_cons_succ]
  refine anyH_take (i := 4) (d := some 12) (v := .int .u16 s.faulty) rfl rfl (by kernel_rfl) (by kernel_rfl) (by kernel_rfl) (fun _ _ _ h => h) rfl (fun w' hS => by exact run_load_op (ty := 23) rfl rfl (load1 (by rw [(HLL.out w' hS).cell 1]; rfl) Tryz.underlying23 rfl)) HS.out ?_
  simp only [Act.put, List.setIfInBounds_toArray, List.set_cons_zero, List.set_cons_succ]
  refine anyH_take (i := 5) (d := some 13) (v := .int .i64 s.faulty) rfl rfl (by kernel_rfl) (by kernel_rfl) (by kernel_rfl) (fun _ _ _ h => h) rfl (fun w' hS => by go_simp) HS.out ?_
  simp only [Act.put, List.setIfInBounds_toArray, List.set_cons_zero, List.set_cons_succ]
  refine anyH_take (i := 7) (d := some 15) (v := .pointer (some ⟨w.heap.size, 2, none⟩)) rfl rfl (by kernel_rfl) (by kernel_rfl) (by kernel_rfl) (fun _ _ _ h => h) rfl (fun w' hS => by go_simp) HS.out ?_
  simp only [Act.put, List.setIfInBounds_toArray, List.set_cons_zero, List.set_cons_succ]
  refine anyH_take (i := 8) (d := some 16) (v := .int .u16 s.liars) rfl rfl (by kernel_rfl) (by kernel_rfl) (by kernel_rfl) (fun _ _ _ h => h) rfl (fun w' hS => by exact run_load_op (ty := 23) rfl rfl (load1 (by rw [(HLL.out w' hS).cell 2]; rfl) Tryz.underlying23 rfl)) HS.out ?_
  simp only [Act.put, List.setIfInBounds_toArray, List.set_cons_zero, List.set_cons_succ]
  refine anyH_take (i := 9) (d := some 17) (v := .int .i64 s.liars) rfl rfl (by kernel_rfl) (by kernel_rfl) (by kernel_rfl) (fun _ _ _ h => h) rfl (fun w' hS => by go_simp) HS.out ?_
  simp only [Act.put, List.setIfInBounds_toArray, List.set_cons_zero, List.set_cons_succ]
  refine anyH_take (i := 11) (d := some 19) (v := .pointer (some ⟨w.heap.size, 3, none⟩)) rfl rfl (by kernel_rfl) (by kernel_rfl) (by kernel_rfl) (fun _ _ _ h => h) rfl (fun w' hS => by go_simp) HS.out ?_
  simp only [Act.put, List.setIfInBounds_toArray, List.set_cons_zero, List.set_cons_succ]
  refine anyH_take (i := 12) (d := some 20) (v := .int .i64 s.room) rfl rfl (by kernel_rfl) (by kernel_rfl) (by kernel_rfl) (fun _ _ _ h => h) rfl (fun w' hS => by exact run_load_op (ty := 3) rfl rfl (load1 (by rw [(HLL.out w' hS).cell 3]; rfl) Tryz.underlying3 rfl)) HS.out ?_
  simp only [Act.put, List.setIfInBounds_toArray, List.set_cons_zero, List.set_cons_succ]
  refine anyH_take (i := 14) (d := some 22) (v := .pointer (some ⟨w.heap.size, 4, none⟩)) rfl rfl (by kernel_rfl) (by kernel_rfl) (by kernel_rfl) (fun _ _ _ h => h) rfl (fun w' hS => by go_simp) HS.out ?_
  simp only [Act.put, List.setIfInBounds_toArray, List.set_cons_zero, List.set_cons_succ]
  refine anyH_take (i := 15) (d := some 23) (v := .string (bstr s.topic)) rfl rfl (by kernel_rfl) (by kernel_rfl) (by kernel_rfl) (fun _ _ _ h => h) rfl (fun w' hS => by exact run_load_op (ty := 9) rfl rfl (load1 (by rw [(HLL.out w' hS).cell 4]; rfl) Tryz.underlying9 rfl)) HS.out ?_
  simp only [Act.put, List.setIfInBounds_toArray, List.set_cons_zero, List.set_cons_succ]
  refine anyH_call (i := 2) (d := some 10) (v := .string (bstr (Lib.itoa s.f))) (by kernel_rfl) rfl rfl rfl (by go_simp) (num_c (HT.out.later (HSB.out _ HS.out)) HB1.out) (fun w' hb => HST.out _ _ HS.out hb) (fun w' HS => ?_)
  replace HS := Lib.hid HS
  simp only [Act.put, List.setIfInBounds_toArray, List.set_cons_zero, List.set_cons_succ]
  refine anyH_call (i := 6) (d := some 14) (v := .string (bstr (Lib.itoa s.faulty))) (by kernel_rfl) rfl rfl rfl (by go_simp) (num_c (HT.out.later (HSB.out _ HS.out)) (by have := HB2.out; omega)) (fun w' hb => HST.out _ _ HS.out hb) (fun w' HS => ?_)
  replace HS := Lib.hid HS
  simp only [Act.put, List.setIfInBounds_toArray, List.set_cons_zero, List.set_cons_succ]
  refine anyH_call (i := 10) (d := some 18) (v := .string (bstr (Lib.itoa s.liars))) (by kernel_rfl) rfl rfl rfl (by go_simp) (num_c (HT.out.later (HSB.out _ HS.out)) (by have := HB3.out; omega)) (fun w' hb => HST.out _ _ HS.out hb) (fun w' HS => ?_)
  replace HS := Lib.hid HS
  simp only [Act.put, List.setIfInBounds_toArray, List.set_cons_zero, List.set_cons_succ]
  refine anyH_call (i := 13) (d := some 21) (v := .string (bstr (Lib.itoa s.room))) (by kernel_rfl) rfl rfl rfl (by go_simp) (num_c (HT.out.later (HSB.out _ HS.out)) HB4.out) (fun w' hb => HST.out _ _ HS.out hb) (fun w' HS => ?_)
  replace HS := Lib.hid HS
  simp only [Act.put, List.setIfInBounds_toArray, List.set_cons_zero, List.set_cons_succ]
  have h1 := aStrs.new (St.nil w') (setupW s) (by simp [setupW, maxLen]) (cs := #[.string ⟨#[119, 111, 114, 108, 100]⟩, .string (bstr (Lib.itoa s.f)), .string (bstr (Lib.itoa s.faulty)), .string (bstr (Lib.itoa s.liars)), .string (bstr (Lib.itoa s.room)), .string (bstr s.topic)]) rfl (n := 6) rfl
  refine anyH_do (i := 16) (d := some 24) (v := .slice (some ⟨w'.heap.size, 0, none⟩) 6 6) (w' := w'.alloc (.cells #[.string ⟨#[119, 111, 114, 108, 100]⟩, .string (bstr (Lib.itoa s.f)), .string (bstr (Lib.itoa s.faulty)), .string (bstr (Lib.itoa s.liars)), .string (bstr (Lib.itoa s.room)), .string (bstr s.topic)] 9)) (by kernel_rfl) rfl rfl rfl (by go_simp) (HST.out _ _ HS.out (B.alloc' _ _)) ?_
  simp only [Act.put, List.setIfInBounds_toArray, List.set_cons_zero, List.set_cons_succ]
  replace HS := Lib.hid (HST.out _ _ HS.out (B.alloc' w' (.cells #[.string ⟨#[119, 111, 114, 108, 100]⟩, .string (bstr (Lib.itoa s.f)), .string (bstr (Lib.itoa s.faulty)), .string (bstr (Lib.itoa s.liars)), .string (bstr (Lib.itoa s.room)), .string (bstr s.topic)] 9)))
  refine anyH_call (i := 17) (d := some 25) (v := .string (bstr (setupF s))) (by kernel_rfl) rfl rfl rfl (by go_simp) (join_c (s := ⟨#[32]⟩) h1 HJ.out (by simp [setupW]) rfl) (fun w' hb => HST.out _ _ HS.out hb) (fun w' HS => ?_)
  replace HS := Lib.hid HS
  simp only [Act.put, List.setIfInBounds_toArray, List.set_cons_zero, List.set_cons_succ]
  refine anyH_take (i := 18) (d := some 2) (v := .string (bstr (setupF s))) rfl rfl (by kernel_rfl) (by kernel_rfl) (by kernel_rfl) (fun _ _ _ h => h) rfl (fun w' hS => by go_simp) HS.out ?_
  simp only [Act.put, List.setIfInBounds_toArray, List.set_cons_zero, List.set_cons_succ]
  refine anyH_take (i := 19) (d := some 3) (v := .int .i64 0) rfl rfl (by kernel_rfl) (by kernel_rfl) (by kernel_rfl) (fun _ _ _ h => h) rfl (fun w' hS => by go_simp) HS.out ?_
  simp only [Act.put, List.setIfInBounds_toArray, List.set_cons_zero, List.set_cons_succ]
  refine wpAnyH_done (by kernel_rfl) ?_ _
  go_wp2_with fail
  go_ret2
  exact ⟨rfl, HSB.out _ HS.out⟩
theorem setup_c {inn : Nat → Prop} {w : World} {cs : List Value} {s : SetupD} (hT : TabW w) (h : tSetup.rd inn w cs s) :
    Calls Tryz.prog 14 #[.agg cs.toArray] w fun r w' => (r = if nameF s.topic = true then .returned (.tuple #[.string (bstr (setupF s)), .int .i64 0]) else .returned (.tuple #[.string ⟨#[]⟩, .int .i64 1])) ∧ B w w' := by
  cases hk : nameF s.topic with
  | true => simpa using setupY_c hT h hk
  | false => simpa using setupN_c h hk
end Go.Proofs.YtbbcepmhkocgbaaGreatDoor

/- script.Print's plain function and its value at the laws' fixed script. -/
namespace Go.Proofs.YtbbcepmhkocgbaaGreatDoor
open Go.RowKit Go.Deep
set_option linter.unusedVariables false

open Classical in
/-- what script.Print answers -/
noncomputable def printP (s : ScriptD) : List UInt8 × Int :=
  if nameF s.setup.topic = false then ([], 1)
  else if 4096 < s.acts.length then ([], 3)
  else if ∀ a ∈ s.acts, lineOk a then (setupF s.setup ++ 10 :: s.acts.flatMap (fun a => lineF a ++ [10]), 0)
  else ([], 1)
def lvA : ActD := { zAct with kind := 6, who := 2, op := { zOp with kind := 1, topic := [116] } }
def lvC : ActD := { zAct with kind := 8, who := 3, num := -1 }
def lvR : ActD := { zAct with kind := 12 }
def lvU : SetupD := ⟨1, 0, 0, 65536, [116]⟩
def lvS : ScriptD := ⟨lvU, [lvA, lvC, lvR]⟩
def lvL : List UInt8 := "world 1 0 0 65536 t\nask 2 x010174\ncrash 3 -1\nround\n".toUTF8.data.toList
theorem lv_name : nameF [116] = true := by decide +kernel
theorem lv_op : opE lvA.op = 0 := by
  have := lv_name
  simp [opE, lvA, zAct, zOp, kindOk, sameOp, onlyF, lv_name]
theorem lv_enc1 : enc 1 = [1] := by rw [enc, dif_pos (by omega)]; rfl
theorem lv_okA : lineOk lvA := by
  refine ⟨⟨by simp [lvA], fun _ => lv_op, fun h => by simp [lvA] at h⟩, ?_⟩
  simp [keepF, lvA]
theorem lv_okC : lineOk lvC := by
  refine ⟨⟨by simp [lvC], fun h => by simp [lvC] at h, fun h => by simp [lvC] at h⟩, ?_⟩
  simp [keepF, lvC]
theorem lv_okR : lineOk lvR := by
  refine ⟨⟨by simp [lvR], fun h => by simp [lvR] at h, fun h => by simp [lvR] at h⟩, ?_⟩
  simp [keepF, lvR]
theorem lv_i0 : Lib.itoa 0 = [48] := by simp [Lib.itoa, Lib.decDigits]
theorem lv_i1 : Lib.itoa 1 = [49] := by simp [Lib.itoa, Lib.decDigits]
theorem lv_i2 : Lib.itoa 2 = [50] := by simp [Lib.itoa, Lib.decDigits]
theorem lv_i3 : Lib.itoa 3 = [51] := by simp [Lib.itoa, Lib.decDigits]
theorem lv_in : Lib.itoa (-1) = [45, 49] := by simp [Lib.itoa, Lib.decDigits]
theorem lv_ir : Lib.itoa 65536 = [54, 53, 53, 51, 54] := by simp [Lib.itoa, Lib.decDigits]
theorem lv_opB : opB lvA.op = [1, 1, 116] := by
  simp [opB, lvA, zAct, zOp, byF, lv_enc1]
theorem lv_lA : lineF lvA = [97, 115, 107, 32, 50, 32, 120, 48, 49, 48, 49, 55, 52] := by
  have h : keepW lvA = [kwN 6 false, [50], hexF [1, 1, 116]] := by
    unfold keepW argW
    rw [lv_opB]
    simp [lvA, zAct, lv_i2]
  unfold lineF
  rw [h]
  decide +kernel
theorem lv_lC : lineF lvC = [99, 114, 97, 115, 104, 32, 51, 32, 45, 49] := by
  have h : keepW lvC = [kwN 8 false, [51], [45, 49]] := by
    unfold keepW argW
    simp [lvC, zAct, lv_i3, lv_in]
  unfold lineF
  rw [h]
  decide +kernel
theorem lv_lR : lineF lvR = [114, 111, 117, 110, 100] := by
  have h : keepW lvR = [kwN 12 false] := by
    unfold keepW argW
    simp [lvR, zAct]
  unfold lineF
  rw [h]
  decide +kernel
theorem lv_setup : setupF lvU = [119, 111, 114, 108, 100, 32, 49, 32, 48, 32, 48, 32, 54, 53, 53, 51, 54, 32, 116] := by
  have h : setupW lvU = [wWorld, [49], [48], [48], [54, 53, 53, 51, 54], [116]] := by
    unfold setupW
    simp [lvU, lv_i0, lv_i1, lv_ir]
  unfold setupF
  rw [h]
  decide +kernel
theorem lv_print : printP lvS = (lvL, 0) := by
  have hl : lvL = setupF lvU ++ 10 :: [lvA, lvC, lvR].flatMap (fun a => lineF a ++ [10]) := by
    simp only [List.flatMap_cons, List.flatMap_nil]
    rw [lv_setup, lv_lA, lv_lC, lv_lR]
    decide +kernel
  rw [hl]
  unfold printP
  rw [if_neg (by simp [lvS, lvU, lv_name]), if_neg (by simp [lvS]), if_pos (by
    intro a ha
    simp only [lvS, List.mem_cons, List.not_mem_nil, or_false] at ha
    rcases ha with rfl | rfl | rfl
    · exact lv_okA
    · exact lv_okC
    · exact lv_okR)]
  rfl
end Go.Proofs.YtbbcepmhkocgbaaGreatDoor

/- script.Print: a script's text. -/
namespace Go.Proofs.YtbbcepmhkocgbaaGreatDoor
open Go.RowKit Go.Deep
set_option linter.unusedVariables false

theorem builder_later {T e : TypeId} {K b : Nat} {p : Value} {bs : List Value} {w w' : World} (h : Lib.BuilderAt T e K b p bs w) (hb : B w w') : Lib.BuilderAt T e K b p bs w' := by
  have hlt := h.lt
  obtain ⟨h1, v, h2, h3, h4⟩ := h
  exact ⟨h1, v, by rw [hb.block b hlt]; exact h2, row_later h3 hb, h4⟩
theorem isBuilder_later {T e : TypeId} {K b : Nat} {bs : List Value} {w w' : World} (h : Lib.IsBuilder T e K b bs w) (hb : B w w') : Lib.IsBuilder T e K b bs w' :=
  h.elim (fun h => .inl (builder_later h hb)) (fun h => .inr (builder_later h hb))
def outF (s : ScriptD) (k : Nat) : List UInt8 := setupF s.setup ++ 10 :: (s.acts.take k).flatMap (fun a => lineF a ++ [10])
theorem str10 (l : List UInt8) : Lib.strCells (bstr l ++ ⟨#[10]⟩) = Lib.byteCells (l ++ [10]) := by
  rw [Lib.strCells_eq, ByteArray.data_append]
  simp [bstr]
theorem outF_succ {s : ScriptD} {k : Nat} {x : ActD} (hx : s.acts[k]? = some x) : Lib.byteCells (outF s k) ++ Lib.strCells (bstr (lineF x) ++ ⟨#[10]⟩) = Lib.byteCells (outF s (k + 1)) := by
  rw [str10, ← Lib.byteCells_append]
  congr 1
  unfold outF
  rw [List.take_add_one, hx]
  simp
theorem outF_zero (s : ScriptD) : Lib.strCells (bstr (setupF s.setup) ++ ⟨#[10]⟩) = Lib.byteCells (outF s 0) := by
  rw [str10]
  simp [outF]
theorem outF_len {s : ScriptD} (K : Nat) (h0 : (setupF s.setup).length ≤ 30000000) : ∀ k, (∀ j a, j < k → s.acts[j]? = some a → (lineF a).length ≤ K) → (outF s k).length ≤ 30000001 + k * (K + 1)
  | 0, _ => by simp [outF]; omega
  | k + 1, h => by
    have h1 := outF_len K h0 k (fun j a hj => h j a (by omega))
    cases hx : s.acts[k]? with
    | none =>
      have : outF s (k + 1) = outF s k := by unfold outF; rw [List.take_add_one, hx]; simp
      rw [this, Nat.succ_mul]
      omega
    | some x =>
      have h2 := h k x (by omega) hx
      have : outF s (k + 1) = outF s k ++ (lineF x ++ [10]) := by unfold outF; rw [List.take_add_one, hx]; simp
      rw [this, Nat.succ_mul]
      simp
      omega
set_option maxRecDepth 20000 in
set_option maxHeartbeats 8000000 in
theorem printN_c {inn : Nat → Prop} {w : World} {cs : List Value} {s : ScriptD} (hT : TabW w) (h : tScript.rd inn w cs s) (hk : nameF s.setup.topic = false ∨ 4096 < s.acts.length) :
    Calls Tryz.prog 6 #[.agg cs.toArray] w fun r w' => r = .returned (.tuple #[.string (bstr (printP s).1), .int .i64 (printP s).2]) ∧ B w w' := by
  obtain ⟨c0, c1, rfl, h0, h1⟩ := h
  have HC := Lib.hid (fun w' (hb : B w w') => setup_c (hT.later hb) (tSetup.later h0 hb))
  obtain ⟨rfl, b1, b2, b3, b4, b5⟩ := tSetup.parts h0
  obtain ⟨A, c, rfl, hs⟩ := tL.slice h1
  have HS := Lib.hid (aBlk.new (St.nil w) 28 #[.int .i64 s.setup.f, .int .u16 s.setup.faulty, .int .u16 s.setup.liars, .int .i64 s.setup.room, .string (bstr s.setup.topic), .slice A s.acts.length c])
  have HP := Lib.hid (show printP s = if nameF s.setup.topic = false then ([], 1) else ([], 3) from by
    unfold printP
    split
    · rfl
    · rename_i hn
      rw [if_pos (by rcases hk with h | h; exact absurd h hn; exact h)])
  rw [HP.out]
  obtain ⟨n, hn⟩ : ∃ n, nameF s.setup.topic = n := ⟨_, rfl⟩
  rw [hn] at hk ⊢
  rw [hn] at HC
  clear hn HP h0 h1
  cases n with
  | false =>
    clear hk
    go_enter Tryz.func6, Tryz.ntmps6
    go_wp2_with (first | (go_at_call 14; (with_reducible refine callsM (HC.out _ HS.out.b) ?_); rintro r w1 ⟨hr, hb⟩; replace HS := Lib.hid (HS.out.on.later hb); clear hb; simp only [Bool.false_eq_true, if_false] at hr; subst hr) | fail)
    go_ret2
    exact ⟨rfl, HS.out.b⟩
  | true =>
    have hl : 4096 < s.acts.length := by simpa using hk
    clear hk
    have KG := (aBlk.get HS.out).cell
    go_enter Tryz.func6, Tryz.ntmps6
    go_wp2_with (first | (go_at_call 14; (with_reducible refine callsM (HC.out _ HS.out.b) ?_); rintro r w1 ⟨hr, hb⟩; replace HS := Lib.hid (HS.out.on.later hb); clear hb; simp only [if_true] at hr; subst hr; replace KG := (aBlk.get HS.out).cell) | fail)
    go_ret2
    exact ⟨rfl, HS.out.b⟩
end Go.Proofs.YtbbcepmhkocgbaaGreatDoor

/- script.Print: the text. -/
namespace Go.Proofs.YtbbcepmhkocgbaaGreatDoor
open Go.RowKit Go.Deep
set_option linter.unusedVariables false

theorem lineYes {w : World} {x : ActD} {r : Ending} {w' : World} (hk : lineOk x) (h : LinePost w x r w') : r = .returned (.tuple #[.string (bstr (lineF x)), .int .i64 0]) ∧ B w w' := by
  obtain ⟨h1, h2⟩ := h
  exact ⟨by rw [h1, if_pos hk], h2⟩
theorem lineNo {w : World} {x : ActD} {r : Ending} {w' : World} (hk : ¬ lineOk x) (h : LinePost w x r w') : r = .returned (.tuple #[.string ⟨#[]⟩, .int .i64 1]) ∧ B w w' := by
  obtain ⟨h1, h2⟩ := h
  exact ⟨by rw [h1, if_neg hk], h2⟩
theorem bstr10_size (l : List UInt8) : (bstr l ++ ⟨#[10]⟩).size = l.length + 1 := by
  rw [ByteArray.size_append]
  simp [bstr, ByteArray.size]
theorem write_c {K b : Nat} {bs : List Value} {s : ByteArray} {w : World} (h : Lib.IsBuilder 70 5 K b bs w) (hlen : bs.length + s.size ≤ 140737488355328) (hK : K ≤ w.heap.size) :
    Calls Tryz.prog 15 #[.pointer (some ⟨b, 0, none⟩), .string s] w fun e w' => e = .returned (.tuple #[.int .i64 s.size, .nilIface]) ∧ (Lib.BuilderAt 70 5 K b (.pointer (some ⟨b, 0, none⟩)) (bs ++ Lib.strCells s) w' ∧ Below K w w') :=
  Any.Builder_WriteString { Tryz.lays156 with } Tryz.Builder_Extra_156 K b bs s w h hlen hK
theorem string_c {K b : Nat} {l : List UInt8} {w : World} (h : Lib.IsBuilder 70 5 K b (Lib.byteCells l) w) (h0 : l ≠ []) :
    Calls Tryz.prog 16 #[.pointer (some ⟨b, 0, none⟩)] w fun e w' => e = .returned (.string ⟨l.toArray⟩) ∧ Below K w w' :=
  Tryz.Builder_String K b l w h h0
open Classical in
theorem printP_no {s : ScriptD} {x : ActD} {q : Nat} (hk : nameF s.setup.topic = true) (hl : s.acts.length ≤ 4096) (hx : s.acts[q]? = some x) (hy : ¬ lineOk x) : printP s = ([], 1) := by
  unfold printP
  rw [if_neg (by simp [hk]), if_neg (by omega), if_neg (fun h => hy (h x (List.mem_of_getElem? hx)))]
open Classical in
theorem printP_yes {s : ScriptD} (hk : nameF s.setup.topic = true) (hl : s.acts.length ≤ 4096) (h : ∀ j a, j < s.acts.length → s.acts[j]? = some a → lineOk a) : printP s = (outF s s.acts.length, 0) := by
  unfold printP
  rw [if_neg (by simp [hk]), if_neg (by omega), if_pos (by
    intro a ha
    obtain ⟨j, hj⟩ := List.getElem?_of_mem ha
    exact h j a (List.getElem?_eq_some_iff.1 hj).1 hj)]
  unfold outF
  rw [List.take_length]
/-- an act stored into a fresh box of its own -/
theorem storeNew {ops : Array Oper} {Q : Exit → Act → World → Prop} {rest : List Oper} {op : Oper} {a : Act} {wr : World} {Z C : Array Value} {tx ty : Tmp} (hgd : op.guard = none) (ho : op.op = .store 58 (.tmp tx) (.tmp ty)) (hz : Z.size = 40) (hC : C.size = 40) (h1 : C.all (·.oneCell') = true)
    (hx : a.eval (.tmp tx) = .pointer (some ⟨wr.heap.size, 0, none⟩)) (hy : a.eval (.tmp ty) = .agg C) (h : ∀ w3, St wr w3 [aBlk wr.heap.size 58 C] → wpList Tryz.prog ops Q rest (a.put op.dst undef) w3) : wpList Tryz.prog ops Q (op :: rest) a (wr.alloc (.cells Z 58)) := by
  have hS := aBlk.new (St.nil wr) 58 Z
  exact wpList_store_mid hgd 58 (.tmp tx) (.tmp ty) ho wr.heap.size 0 C hx hy (there_of hS 0 _ (by omega)) (by rw [hC]; exact aInfo) h1 (h _ (aBlk.setAll hS (by omega)))
set_option maxRecDepth 20000 in
set_option maxHeartbeats 16000000 in
theorem printY_c {inn : Nat → Prop} {w : World} {cs : List Value} {s : ScriptD} (hT : TabW w) (h : tScript.rd inn w cs s) (hk : nameF s.setup.topic = true) (hl : s.acts.length ≤ 4096) :
    Calls Tryz.prog 6 #[.agg cs.toArray] w fun r w' => r = .returned (.tuple #[.string (bstr (printP s).1), .int .i64 (printP s).2]) ∧ B w w' := by
  obtain ⟨c0, c1, rfl, h0, h1⟩ := h
  have HC := Lib.hid (fun w' (hb : B w w') => setup_c (hT.later hb) (tSetup.later h0 hb))
  have HL0 := Lib.hid (setupF_len h0)
  obtain ⟨rfl, b1, b2, b3, b4, b5⟩ := tSetup.parts h0
  obtain ⟨A, c, rfl, hs⟩ := tL.slice h1
  have HS := Lib.hid (aBlk.new (St.nil w) 28 #[.int .i64 s.setup.f, .int .u16 s.setup.faulty, .int .u16 s.setup.liars, .int .i64 s.setup.room, .string (bstr s.setup.topic), .slice A s.acts.length c])
  have HK := Lib.hid hk
  have HT := Lib.hid hT
  have HR := Lib.hid h1
  obtain ⟨n, hn⟩ : ∃ n, s.acts.length = n := ⟨_, rfl⟩
  have HN := Lib.hid hn
  obtain ⟨T0, hT0⟩ : ∃ z, setupF s.setup = z := ⟨_, rfl⟩
  have HT0 := Lib.hid hT0
  rw [hn] at hl HS ⊢
  rw [hk, hT0] at HC
  clear hk hT h0 h1 hs hn hT0
  have HLn := Lib.hid (show ([] : List Value).length + (bstr T0 ++ ⟨#[10]⟩).size ≤ 140737488355328 from by have := HL0.out; rw [HT0.out] at this; rw [bstr10_size]; simp; omega)
  have hcat : ¬ 9223372036854775807 < (bstr T0).size + 1 := by have := HL0.out; rw [HT0.out] at this; simp [bstr, ByteArray.size]; omega
  have HLen := Lib.hid (show ∀ j a, s.acts[j]? = some a → lineOk a → (lineF a).length ≤ 33554448 from fun j a hj ho => by
    obtain ⟨_, ba, oa, ca, rfl, r1, k1⟩ := tL.at HR.out hj
    exact lineF_len r1 ho.1)
  have hln : (n : Int) ≤ 4096 := by omega
  have KG := (aBlk.get HS.out).cell
  go_enter Tryz.func6, Tryz.ntmps6
  go_wp2_with (first
    | (go_at_call 14; (with_reducible refine callsM (HC.out _ HS.out.b) ?_); rintro r w1 ⟨hr, hb⟩; replace HS := Lib.hid (HS.out.on.later hb); clear hb; simp only [if_true] at hr; subst hr; replace KG := (aBlk.get HS.out).cell; have HBW := Lib.hid HS.out.b; have HF := Lib.hid (Lib.fresh_isBuilder 70 5 w1); have HLw := Lib.hid (show w1.heap.size ≤ (w1.alloc (.cells #[.pointer none, .slice none 0 0] 70)).heap.size from by simp))
    | (go_at_call 15; ((with_reducible refine callsM (write_c HF.out HLn.out HLw.out) ?_); rintro r w2 ⟨rfl, hB, hb⟩; replace HS := Lib.hid (HS.out.later (show B w1 w2 from Below.trans ((Below.refl w1.heap.size w1).alloc (Nat.le_refl _) _) hb)); replace KG := (aBlk.get HS.out).cell; replace HF := Lib.hid hB; clear hb hB HLn))
    | fail)
  have HF2 := Lib.hid (show Lib.IsBuilder 70 5 w1.heap.size w1.heap.size (Lib.byteCells (outF s 0)) w2 from by
    have h := HF.out
    rw [List.nil_append, ← HT0.out, outF_zero] at h
    exact .inr h)
  have HB2 := Lib.hid HS.out.b
  have HB1 := Lib.hid (show w.heap.size ≤ w1.heap.size from HBW.out.size)
  have HB3 := Lib.hid (show w1.heap.size ≤ w2.heap.size from Nat.le_of_lt HF.out.lt)
  clear HF KG HS HLw HC
  go_loopw [30] (fun i wr => ∃ q : Nat, q ≤ n ∧ i = .int .i64 q ∧ Hid (∀ j a, j < q → s.acts[j]? = some a → lineOk a) ∧ Hid (B w wr ∧ w1.heap.size ≤ wr.heap.size ∧ Lib.IsBuilder 70 5 w1.heap.size w1.heap.size (Lib.byteCells (outF s q)) wr)) (fun i _ => n - (intOf i).toNat)
  case atStart => exact ⟨0, Nat.zero_le _, rfl, fun j a h => by omega, HB2.out, HB3.out, HF2.out⟩
  case round =>
    obtain ⟨q, hq, rfl, HP, HW⟩ := hrel
    by_cases hlt : q < n
    · obtain ⟨x, hx⟩ : ∃ x, s.acts[q]? = some x := ⟨_, List.getElem?_eq_getElem (by have := HN.out; omega)⟩
      obtain ⟨_, ba, oa, ca, rfl, r1, k1⟩ := tL.at HR.out hx
      have hn1 : ca.length = 40 := tAct.len r1
      simp only [show tAct.n = 40 from rfl] at k1
      have HRG := Lib.hid (show wr.rangeAt ba (oa + q * 40) ca from fun j v hv => B.cell HW.out.1 (k1 j v hv))
      have HI := Lib.hid (show (Tryz.prog.info? 58).map (·.size) = some ca.length from by rw [hn1]; exact aInfo)
      have HLC := Lib.hid (fun w' (hb : B w w') => line_c (HT.out.later hb) (tAct.later r1 hb))
      obtain ⟨C, hC⟩ : ∃ C, ca.toArray = C := ⟨_, rfl⟩
      have HCC := Lib.hid (show C.size = 40 ∧ C.all (·.oneCell') = true from by rw [← hC]; exact tAct.one r1)
      have HIC := Lib.hid (show (Tryz.prog.info? 58).map (·.size) = some C.size from by rw [HCC.out.1]; exact aInfo)
      have HX := Lib.hid hx
      have HNew := Lib.hid (fun Z : Array Value => aBlk.new (St.nil wr) 58 Z)
      rw [hC] at HLC
      have HCE := Lib.hid hC
      clear k1 r1 hx hC hn1
      by_cases hy : lineOk x
      · have HY := Lib.hid hy
        have hxl := HLen.out q x HX.out hy
        have hcat2 : ¬ 9223372036854775807 < (bstr (lineF x)).size + 1 := by simp [bstr, ByteArray.size]; omega
        have HLQ := Lib.hid (show (Lib.byteCells (outF s q)).length + (bstr (lineF x) ++ ⟨#[10]⟩).size ≤ 140737488355328 from by
          have h := outF_len 33554448 HL0.out q (fun j a hj ha => HLen.out j a ha (HP.out j a hj ha))
          rw [Lib.byteCells_length, bstr10_size]
          omega)
        clear hy hxl
        go_wp2_with (first
          | (refine wpList_load_mid rfl 58 (.tmp 32) rfl ba (oa + q * 40) rfl ca _ HRG.out Tryz.underlying58 rfl HI.out ?_; rw [HCE.out])
          | (refine storeNew (C := C) rfl rfl rfl HCC.out.1 HCC.out.2 rfl rfl (fun w3 hS3 => ?_); have HS3 := Lib.hid hS3; clear hS3; have HG3 := Lib.hid (aBlk.get HS3.out))
          | (refine wpList_load_row rfl 58 (.tmp 8) rfl wr.heap.size rfl 58 C (0, 0) _ HG3.out Tryz.underlying58 rfl HIC.out ?_)
          | (go_at_call 8; (with_reducible refine callsM (HLC.out _ (HW.out.1.trans HS3.out.b)) ?_); rintro r w4 hr; obtain ⟨rfl, hb⟩ := lineYes HY.out hr; clear hr; have HB4 := Lib.hid (show B wr w4 from HS3.out.b.trans hb); clear hb)
          | (go_at_call 15; (with_reducible refine callsM (write_c (isBuilder_later HW.out.2.2 HB4.out) HLQ.out (Nat.le_trans HW.out.2.1 HB4.out.size)) ?_); rintro r w5 ⟨rfl, hB, hb⟩)
          | fail)
        have HE := Lib.hid (Below.trans (HW.out.1.trans HB4.out) (Below.mono hb HB1.out))
        have hP := HP.out
        refine ⟨⟨q + 1, by omega, by push_cast; rfl, fun j a hj ha => ?_, HE.out, Nat.le_trans (Nat.le_trans HW.out.2.1 HB4.out.size) hb.size, .inr (by rw [← outF_succ HX.out]; exact hB)⟩, by simp [intOf]; omega⟩
        by_cases hjq : j = q
        · subst hjq
          have := HX.out
          rw [ha] at this
          injection this with this
          rw [this]
          exact HY.out
        · exact hP j a (by omega) ha
      · have HY := Lib.hid hy
        have HQ := Lib.hid (printP_no HK.out (by have := HN.out; omega) HX.out hy)
        clear hy
        go_wp2_with (first
          | (refine wpList_load_mid rfl 58 (.tmp 32) rfl ba (oa + q * 40) rfl ca _ HRG.out Tryz.underlying58 rfl HI.out ?_; rw [HCE.out])
          | (refine storeNew (C := C) rfl rfl rfl HCC.out.1 HCC.out.2 rfl rfl (fun w3 hS3 => ?_); have HS3 := Lib.hid hS3; clear hS3; have HG3 := Lib.hid (aBlk.get HS3.out))
          | (refine wpList_load_row rfl 58 (.tmp 8) rfl wr.heap.size rfl 58 C (0, 0) _ HG3.out Tryz.underlying58 rfl HIC.out ?_)
          | (go_at_call 8; (with_reducible refine callsM (HLC.out _ (HW.out.1.trans HS3.out.b)) ?_); rintro r w4 hr; obtain ⟨rfl, hb⟩ := lineNo HY.out hr; clear hr; have HB4 := Lib.hid (show B wr w4 from HS3.out.b.trans hb); clear hb)
          | fail)
        go_ret2
        rw [HQ.out]
        exact ⟨rfl, HW.out.1.trans HB4.out⟩
    · have hqn : q = n := by omega
      subst hqn
      have HQ := Lib.hid (printP_yes HK.out (by have := HN.out; omega) (fun j a hj ha => HP.out j a (by have := HN.out; omega) ha))
      have HO := Lib.hid (show outF s q ≠ [] from by simp [outF])
      go_wp2_with (first
        | (go_at_call 16; (with_reducible refine callsM (string_c HW.out.2.2 HO.out) ?_); rintro r w4 ⟨rfl, hb⟩)
        | fail)
      go_ret2
      rw [HQ.out, HN.out]
      exact ⟨rfl, Below.trans HW.out.1 (Below.mono hb HB1.out)⟩
theorem print_c {inn : Nat → Prop} {w : World} {cs : List Value} {s : ScriptD} (hT : TabW w) (h : tScript.rd inn w cs s) :
    Calls Tryz.prog 6 #[.agg cs.toArray] w fun r w' => r = .returned (.tuple #[.string (bstr (printP s).1), .int .i64 (printP s).2]) ∧ B w w' := by
  cases hk : nameF s.setup.topic with
  | false => exact printN_c hT h (.inl hk)
  | true =>
    by_cases hl : s.acts.length ≤ 4096
    · exact printY_c hT h hk hl
    · exact printN_c hT h (.inr (by omega))
end Go.Proofs.YtbbcepmhkocgbaaGreatDoor

/- bullalaw27.live: the fixed script prints as it should. -/
namespace Go.Proofs.YtbbcepmhkocgbaaGreatDoor
open Go.RowKit Go.Deep
set_option linter.unusedVariables false

def lvO : List Value := [.int .i64 1, .string (bstr [116]), .string ⟨#[]⟩, .int .i64 0, .slice none 0 0]
def lvC1 : List Value := actC 6 2 0 lvO (.slice none 0 0) zMsgC false
def lvC2 : List Value := actC 8 3 (-1) zOpC (.slice none 0 0) zMsgC false
def lvC3 : List Value := actC 12 0 0 zOpC (.slice none 0 0) zMsgC false
theorem lvO_rd (inn : Nat → Prop) (w : World) : tOp.rd inn w lvO lvA.op :=
  tOp.mk (s := lvA.op) (by simp [lvA, zOp, zAct]) (by simp [lvA, zOp, zAct]) (by simp [lvA, zOp, zAct]) (by simp [lvA, zOp, zAct]) (tL.nil _ _ _)
theorem lv1_rd (inn : Nat → Prop) (w : World) : tAct.rd inn w lvC1 lvA :=
  tAct.mk' (s := lvA) (by simp [lvA]) (by simp [lvA]) (by simp [lvA, zAct]) (lvO_rd _ _) (tY.nil _ _) (zMsg_rd _ _)
theorem lv2_rd (inn : Nat → Prop) (w : World) : tAct.rd inn w lvC2 lvC :=
  tAct.mk' (s := lvC) (by simp [lvC]) (by simp [lvC]) (by simp [lvC]) (zOp_rd _ _) (tY.nil _ _) (zMsg_rd _ _)
theorem lv3_rd (inn : Nat → Prop) (w : World) : tAct.rd inn w lvC3 lvR :=
  tAct.mk' (s := lvR) (by simp [lvR]) (by simp [lvR, zAct]) (by simp [lvR, zAct]) (zOp_rd _ _) (tY.nil _ _) (zMsg_rd _ _)
theorem lv_at {w : World} {g o : Nat} {Z : Array Value} {t : TypeId} {a c d : List Value} (hb : Blk w g t Z) (hz : Z.toList = a ++ c ++ d) (ho : a.length = o) : ∀ j v, c[j]? = some v → w.cell? ⟨g, o + j, none⟩ = some v := by
  intro j v hv
  have hl : j < c.length := (List.getElem?_eq_some_iff.1 hv).1
  rw [hb.cell, ← Array.getElem?_toList, hz, List.append_assoc, List.getElem?_append_right (by omega), List.getElem?_append_left (by omega)]
  rw [show o + j - a.length = j by omega]
  exact hv
theorem liveP {w : World} (hT : TabW w) {Z : Array Value} (hz : Z.toList = lvC1 ++ lvC2 ++ lvC3) :
    Calls Tryz.prog 6 #[.agg #[.int .i64 1, .int .u16 0, .int .u16 0, .int .i64 65536, .string ⟨#[116]⟩, .slice (some ⟨w.heap.size, 0, none⟩) 3 3]] (w.alloc (.cells Z 58)) fun r w' => r = .returned (.tuple #[.string (bstr lvL), .int .i64 0]) ∧ B w w' := by
  have hb : Blk (w.alloc (.cells Z 58)) w.heap.size 58 Z := aBlk.get (aBlk.new (St.nil w) 58 Z)
  have hB : B w (w.alloc (.cells Z 58)) := B.alloc' _ _
  have l1 : lvC1.length = 40 := rfl
  have l2 : lvC2.length = 40 := rfl
  have l3 : lvC3.length = 40 := rfl
  have h : (tL tAct).rd (fun _ => True) (w.alloc (.cells Z 58)) [.slice (some ⟨w.heap.size, 0, none⟩) 3 3] lvS.acts := by
    refine ⟨some ⟨w.heap.size, 0, none⟩, 3, rfl, by simp [lvS], by unfold maxLen; omega, by simp, by simp [lvS], fun _ => ⟨w.heap.size, 0, rfl, by simp, trivial, ?_⟩⟩
    intro i x hx
    rcases i with _ | _ | _ | i
    · simp only [lvS, List.getElem?_cons_zero, Option.some.injEq] at hx
      subst hx
      exact ⟨lvC1, lv1_rd _ _, lv_at (o := 0) (a := []) (d := lvC2 ++ lvC3) hb (by rw [hz]; simp) rfl⟩
    · simp only [lvS, List.getElem?_cons_zero, List.getElem?_cons_succ, Option.some.injEq] at hx
      subst hx
      exact ⟨lvC2, lv2_rd _ _, lv_at (o := 40) (a := lvC1) (d := lvC3) hb hz l1⟩
    · simp only [lvS, List.getElem?_cons_zero, List.getElem?_cons_succ, Option.some.injEq] at hx
      subst hx
      exact ⟨lvC3, lv3_rd _ _, lv_at (o := 80) (a := lvC1 ++ lvC2) (d := []) hb (by rw [hz]; simp) (by rw [List.length_append, l1, l2])⟩
    · simp [lvS] at hx
  have hS := tScript.mk (s := lvS) (by simp [lvS, lvU]) (by simp [lvS, lvU]) (by simp [lvS, lvU]) (by simp [lvS, lvU]) (by simp [lvS, lvU]) h
  refine (print_c (hT.later hB) hS).mono fun r w' hr => ?_
  obtain ⟨rfl, hb'⟩ := hr
  rw [lv_print]
  exact ⟨rfl, hB.trans hb'⟩
set_option maxRecDepth 20000 in
set_option maxHeartbeats 8000000 in
theorem live_c {w : World} (hT : TabW w) : Calls Tryz.prog 5 #[] w fun r w' => r = .returned (.bool true) ∧ B w w' := by
  have HP := Lib.hid (fun (Z : Array Value) hz => liveP hT (Z := Z) hz)
  have hlv : bstr lvL = ⟨#[119, 111, 114, 108, 100, 32, 49, 32, 48, 32, 48, 32, 54, 53, 53, 51, 54, 32, 116, 10, 97, 115, 107, 32, 50, 32, 120, 48, 49, 48, 49, 55, 52, 10, 99, 114, 97, 115, 104, 32, 51, 32, 45, 49, 10, 114, 111, 117, 110, 100, 10]⟩ := by decide +kernel
  rw [hlv] at HP
  clear hT
  go_enter Tryz.func5, Tryz.ntmps5
  go_wp2_with (first | (go_at_call 6; (refine callsM (HP.out _ rfl) ?_); rintro r w1 ⟨rfl, hb⟩) | fail)
  go_ret
  exact ⟨rfl, hb⟩
end Go.Proofs.YtbbcepmhkocgbaaGreatDoor

/- ScriptApart's plain side: what reads is sized; lines are alike for the same acts alone. -/
namespace Go.Proofs.YtbbcepmhkocgbaaGreatDoor
open Go.RowKit Go.Deep
set_option linter.unusedVariables false

/-- every element of a list that reads has a reading of its own -/
theorem tL.mem {α : Type} {T : Ty α} {inn : Nat → Prop} {w : World} {cs : List Value} {xs : List α} (h : (tL T).rd inn w cs xs) {x : α} (hx : x ∈ xs) : ∃ ds, T.rd inn w ds x := by
  obtain ⟨A, c, rfl, _⟩ := tL.slice h
  obtain ⟨i, hi⟩ := List.getElem?_of_mem hx
  obtain ⟨_, b, off, ds, rfl, r, _⟩ := tL.at h hi
  exact ⟨ds, r⟩
theorem opSized_rd {inn : Nat → Prop} {w : World} {cs : List Value} {o : OpD} (h : tOp.rd inn w cs o) : opSized o := by
  obtain ⟨v5, rfl, a1, a2, a3, a4, a5⟩ := tOp.parts h
  refine ⟨a2, a3, fun r hr => ?_⟩
  obtain ⟨ds, v, rfl, _, _, hb⟩ := tL.mem a5 hr
  exact hb
theorem bSized_rd {inn : Nat → Prop} {w : World} {cs : List Value} {b : List SignedD} (h : (tL tSigned).rd inn w cs b) : bSized b := by
  intro x hx
  obtain ⟨ds, r⟩ := tL.mem h hx
  obtain ⟨c0, c1, rfl, r0, r1⟩ := r
  obtain ⟨d0, e1, rfl, s0, d1, e2, rfl, s1, s2⟩ := r0
  exact opSized_rd s2
theorem tY.len4 {inn : Nat → Prop} {w : World} {cs : List Value} {b : List UInt8} (h : tY.rd inn w cs b) : b.length ≤ 4194304 := by
  obtain ⟨v, rfl, _, _, hb⟩ := h
  exact hb
theorem mSized_rd {inn : Nat → Prop} {w : World} {cs : List Value} {m : MsgD} (h : tMsg.rd inn w cs m) : mSized m := by
  obtain ⟨av1, av2, av3, av4, av5, av6, av7, av8, av9, rfl, af0, af1, af2, af3, af4, af5, af6, af7, af8, af9, af10, af11, af12, af13, af14, af15, af16, af17, af18, af19, af20, af21, af22, af23, af24, af25, af26, af27, af28, af29⟩ := tMsg.parts h
  refine ⟨bSized_rd af9, fun c hc p hp => ?_, fun x hx => ?_, tY.len4 af15, af16, af18, tY.len4 af20⟩
  · obtain ⟨ds, r⟩ := tL.mem af13 hc
    obtain ⟨v1, v2, rfl, p0, p1, p2, p3, p4, p5, p6, p7⟩ := tChange.parts r
    obtain ⟨es, q⟩ := tL.mem p5 hp
    obtain ⟨u1, u2, rfl, q0, q1, q2, q3, q4, q5, q6⟩ := tPrepared.parts q
    exact bSized_rd q6
  · obtain ⟨ds, r⟩ := tL.mem af14 hx
    obtain ⟨v1, rfl, p0, p1, p2, p3, p4⟩ := tEntry.parts r
    exact bSized_rd p2
theorem aSized_rd {inn : Nat → Prop} {w : World} {cs : List Value} {a : ActD} (h : tAct.rd inn w cs a) : aSized a := by
  obtain ⟨oc, b, mc, rfl, _, ho, hy, hm⟩ := tAct.open' h
  have hb := ownS_b hm
  exact ⟨opSized_rd ho, mSized_rd hm, by unfold signI; omega⟩
/-- lines are alike for the same acts alone -/
theorem line_eq {inn inn' : Nat → Prop} {w w' : World} {cs ds : List Value} {a b : ActD} (h : tAct.rd inn w cs a) (k : tAct.rd inn' w' ds b) (ha : lineOk a) (hb : lineOk b) : eqB (lineF a) (lineF b) = eqB a b := by
  rw [Bool.eq_iff_iff, eqB_iff, eqB_iff]
  exact ⟨lineF_inj ha (aSized_rd h) hb (aSized_rd k), fun e => by rw [e]⟩
end Go.Proofs.YtbbcepmhkocgbaaGreatDoor
