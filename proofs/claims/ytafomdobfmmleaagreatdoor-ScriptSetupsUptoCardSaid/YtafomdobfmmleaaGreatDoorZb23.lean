/- Lemmas and contracts, part 23. -/
import Derived.Test.YtafomdobfmmleaaGreatDoorZb22
/- script.keep, some ways (printed by gen_nd.py). -/
namespace Go.Proofs.YtafomdobfmmleaaGreatDoor
open Go.RowKit Go.Deep
set_option linter.unusedVariables false

set_option maxRecDepth 20000 in
set_option maxHeartbeats 16000000 in
theorem keepC {w : World} {R : Ending → World → Prop} {kind who num : Int} {op : OpD} {bytes : List UInt8} {msg : MsgD} {sl : Bool} {oc mc : List Value} {b : Value} (hT : TabW w)
    (bk : (-9223372036854775808 ≤ kind ∧ kind ≤ 9223372036854775807) ∧ (-9223372036854775808 ≤ who ∧ who ≤ 9223372036854775807) ∧ (-9223372036854775808 ≤ num ∧ num ≤ 9223372036854775807))
    (ho : tOp.rd (fun _ => True) w oc op) (hb : tY.rd (fun _ => True) w [b] bytes) (hm : tMsg.rd (fun _ => True) w mc msg)
    (hY : keepOk ⟨kind, who, num, op, bytes, msg, sl⟩ → ∀ ds v w', tAct.rd (fun _ => True) w' ds (keepF ⟨kind, who, num, op, bytes, msg, sl⟩) → St w w' [aStrs v (keepW ⟨kind, who, num, op, bytes, msg, sl⟩)] → R (.returned (.tuple #[.agg ds.toArray, v, .bool true])) w')
    (hN : ¬ keepOk ⟨kind, who, num, op, bytes, msg, sl⟩ → ∀ (U : Array Value) v w', U.size = 40 → U.all (·.oneCell') = true → B w w' → R (.returned (.tuple #[.agg U, v, .bool false])) w')
    (hk : kind = 9 ∨ kind = 12 ∨ kind = 8) : Calls Tryz.prog 42 #[.agg (actC kind who num oc b mc sl).toArray] w R := by
  obtain ⟨bA, bc, rfl⟩ : ∃ bA bc, b = .slice bA bytes.length bc := by
    obtain ⟨u, hu, hbs, _⟩ := hb
    injection hu with hu _
    subst hu
    obtain ⟨A1, c1, e1⟩ := hbs.rd.slice
    exact ⟨A1, c1, e1⟩
  have hol : oc.length = 5 := tOp.len ho
  have hml : mc.length = 30 := by have := tMsg.len hm; simpa using this
  obtain ⟨A, hA⟩ : ∃ A, (actC kind who num oc (.slice bA bytes.length bc) mc sl).toArray = A := ⟨_, rfl⟩
  obtain ⟨ZA, hZA⟩ : ∃ ZA, (actC 0 0 0 zOpC (.slice none 0 0) zMsgC false).toArray = ZA := ⟨_, rfl⟩
  have HAS := Lib.hid (show A.size = 40 from by rw [← hA]; simp [actC, hol, hml])
  have HZS := Lib.hid (show ZA.size = 40 from by rw [← hZA]; rfl)
  have a0 := Lib.hid (show A[0]? = some (.int .i64 kind) from by rw [← hA]; rfl)
  have a1 := Lib.hid (show A[1]? = some (.int .i64 who) from by rw [← hA]; rfl)
  have a8 := Lib.hid (show A[8]? = some (.slice bA bytes.length bc) from by rw [← hA]; simp [actC, hol])
  have HA3 := Lib.hid (show (A.toList.drop 3).take 5 = oc from by rw [← hA]; simp [actC, hol])
  have HA9 := Lib.hid (show (A.toList.drop 9).take 30 = mc from by rw [← hA]; simp [actC, List.drop_append, List.take_append, hol, hml])
  have a39 := Lib.hid (show A[39]? = some (.bool sl) from by rw [← hA]; simp [actC, hol, hml])
  have HOL := Lib.hid hol
  have HML := Lib.hid hml
  have a2 := Lib.hid (show A[2]? = some (.int .i64 num) from by rw [← hA]; rfl)
  have HO := Lib.hid ho
  have HB := Lib.hid hb
  have HM := Lib.hid hm
  have HY := Lib.hid hY
  have HN := Lib.hid hN
  have HT := Lib.hid hT
  have HBK := Lib.hid bk
  have HAA := Lib.hid hA
  have HZA := Lib.hid hZA
  rw [hA]
  have HS := Lib.hid (show KS0 w ZA A ((w.alloc (.cells A 61)).alloc (.cells #[.int .i64 0, .int .i64 0, .int .i64 0, .int .i64 0, .string ⟨#[]⟩, .string ⟨#[]⟩, .int .i64 0, .slice none 0 0, .slice none 0 0, .int .i64 0, .int .i64 0, .int .i64 0, .int .i64 0, .int .i64 0, .int .i64 0, .int .i64 0, .int .i64 0, .int .i64 0, .slice none 0 0, .int .i64 0, .int .i64 0, .slice none 0 0, .slice none 0 0, .slice none 0 0, .slice none 0 0, .string ⟨#[]⟩, .int .i64 0, .string ⟨#[]⟩, .int .i64 0, .slice none 0 0, .slice none 0 0, .int .i64 0, .int .i64 0, .slice none 0 0, .int .i64 0, .int .i64 0, .slice none 0 0, .int .i64 0, .int .i64 0, .bool false] 61)) from by
    have h := aBlk.new (aBlk.new (St.nil w) 61 A) 61 ZA
    rw [show (w.alloc (.cells A 61)).heap.size = w.heap.size + 1 from by simp] at h
    rw [← hZA] at h ⊢
    exact h)
  clear hA hZA ho hb hm hY hN hT bk hol hml
  go_enter Tryz.func42, Tryz.ntmps42
  go_wp2_with fail
  refine wp_region_held_drew (S := KS0 w ZA A) (by kernel_rfl) (show St _ _ _ from St.on (show St _ _ _ from HS.out)) (fun HS => ?_)
  replace HS := Lib.hid HS
  generalize World.drew _ = W1 at *
  refine anyH_take (i := 0) (d := some 13) (v := .pointer (some ⟨w.heap.size, 2, none⟩)) rfl rfl (by kernel_rfl) (by kernel_rfl) (by kernel_rfl) (fun _ _ _ h => h) rfl (fun w' hS => by go_simp) HS.out ?_
  simp only [Act.put, List.setIfInBounds_toArray, List.set_cons_zero, List.set_cons_succ]
  refine anyH_take (i := 1) (d := some 14) (v := .int .i64 num) rfl rfl (by kernel_rfl) (by kernel_rfl) (by kernel_rfl) (fun _ _ _ h => h) rfl (fun w' hS => run_load_op (ty := 3) rfl rfl (load1 (by rw [(aBlk.get (St.swap hS)).cell 2]; exact a2.out) Tryz.underlying3 rfl)) HS.out ?_
  simp only [Act.put, List.setIfInBounds_toArray, List.set_cons_zero, List.set_cons_succ]
  refine anyH_take (i := 3) (d := some 16) (v := .pointer (some ⟨w.heap.size, 1, none⟩)) rfl rfl (by kernel_rfl) (by kernel_rfl) (by kernel_rfl) (fun _ _ _ h => h) rfl (fun w' hS => by go_simp) HS.out ?_
  simp only [Act.put, List.setIfInBounds_toArray, List.set_cons_zero, List.set_cons_succ]
  refine anyH_take (i := 4) (d := some 17) (v := .int .i64 who) rfl rfl (by kernel_rfl) (by kernel_rfl) (by kernel_rfl) (fun _ _ _ h => h) rfl (fun w' hS => run_load_op (ty := 3) rfl rfl (load1 (by rw [(aBlk.get (St.swap hS)).cell 1]; exact a1.out) Tryz.underlying3 rfl)) HS.out ?_
  simp only [Act.put, List.setIfInBounds_toArray, List.set_cons_zero, List.set_cons_succ]
  refine anyH_call (i := 2) (d := some 15) (v := .string (bstr (Lib.itoa num))) (by kernel_rfl) rfl rfl rfl (by go_simp) (num_c (HT.out.later (St.b HS.out)) HBK.out.2.2) (fun w' hb => St.later HS.out hb) (fun w2 HS => ?_)
  replace HS := Lib.hid HS
  simp only [Act.put, List.setIfInBounds_toArray, List.set_cons_zero, List.set_cons_succ]
  refine anyH_call (i := 5) (d := some 18) (v := .string (bstr (Lib.itoa who))) (by kernel_rfl) rfl rfl rfl (by go_simp) (num_c (HT.out.later (St.b HS.out)) HBK.out.2.1) (fun w' hb => St.later HS.out hb) (fun w3 HS => ?_)
  replace HS := Lib.hid HS
  simp only [Act.put, List.setIfInBounds_toArray, List.set_cons_zero, List.set_cons_succ]
  refine anyH_take (i := 6) (d := some 5) (v := .string (bstr (Lib.itoa num))) rfl rfl (by kernel_rfl) (by kernel_rfl) (by kernel_rfl) (fun _ _ _ h => h) rfl (fun w' hS => by go_simp) HS.out ?_
  simp only [Act.put, List.setIfInBounds_toArray, List.set_cons_zero, List.set_cons_succ]
  refine anyH_take (i := 7) (d := some 6) (v := .string (bstr (Lib.itoa who))) rfl rfl (by kernel_rfl) (by kernel_rfl) (by kernel_rfl) (fun _ _ _ h => h) rfl (fun w' hS => by go_simp) HS.out ?_
  simp only [Act.put, List.setIfInBounds_toArray, List.set_cons_zero, List.set_cons_succ]
  refine wpAnyH_done (by kernel_rfl) ?_ _
  have k0 : w3.cell? ⟨w.heap.size, 0, none⟩ = some (.int .i64 kind) := by rw [(aBlk.get (St.swap HS.out)).cell 0]; exact a0.out
  have k1 : w3.cell? ⟨w.heap.size, 1, none⟩ = some (.int .i64 who) := by rw [(aBlk.get (St.swap HS.out)).cell 1]; exact a1.out
  have k2 : w3.cell? ⟨w.heap.size, 2, none⟩ = some (.int .i64 num) := by rw [(aBlk.get (St.swap HS.out)).cell 2]; exact a2.out
  have kL := (aBlk.get (St.swap HS.out)).lt
  rcases hk with rfl | rfl | rfl
  · have H1K := Lib.hid (show (#[.int .i64 9, .int .i64 who, .int .i64 0, .int .i64 0, .string ⟨#[]⟩, .string ⟨#[]⟩, .int .i64 0, .slice none 0 0, .slice none 0 0, .int .i64 0, .int .i64 0, .int .i64 0, .int .i64 0, .int .i64 0, .int .i64 0, .int .i64 0, .int .i64 0, .int .i64 0, .slice none 0 0, .int .i64 0, .int .i64 0, .slice none 0 0, .slice none 0 0, .slice none 0 0, .slice none 0 0, .string ⟨#[]⟩, .int .i64 0, .string ⟨#[]⟩, .int .i64 0, .slice none 0 0, .slice none 0 0, .int .i64 0, .int .i64 0, .slice none 0 0, .int .i64 0, .int .i64 0, .slice none 0 0, .int .i64 0, .int .i64 0, .bool false] : Array Value).all (·.oneCell') = true from by simp [Value.oneCell'])
    have HS3 := Lib.hid (show St w (w3.alloc (.cells #[.int .i64 0, .int .i64 0, .int .i64 0, .int .i64 0, .string ⟨#[]⟩, .string ⟨#[]⟩, .int .i64 0, .slice none 0 0, .slice none 0 0, .int .i64 0, .int .i64 0, .int .i64 0, .int .i64 0, .int .i64 0, .int .i64 0, .int .i64 0, .int .i64 0, .int .i64 0, .slice none 0 0, .int .i64 0, .int .i64 0, .slice none 0 0, .slice none 0 0, .slice none 0 0, .slice none 0 0, .string ⟨#[]⟩, .int .i64 0, .string ⟨#[]⟩, .int .i64 0, .slice none 0 0, .slice none 0 0, .int .i64 0, .int .i64 0, .slice none 0 0, .int .i64 0, .int .i64 0, .slice none 0 0, .int .i64 0, .int .i64 0, .bool false] 61)) [aBlk w3.heap.size 61 #[.int .i64 0, .int .i64 0, .int .i64 0, .int .i64 0, .string ⟨#[]⟩, .string ⟨#[]⟩, .int .i64 0, .slice none 0 0, .slice none 0 0, .int .i64 0, .int .i64 0, .int .i64 0, .int .i64 0, .int .i64 0, .int .i64 0, .int .i64 0, .int .i64 0, .int .i64 0, .slice none 0 0, .int .i64 0, .int .i64 0, .slice none 0 0, .slice none 0 0, .slice none 0 0, .slice none 0 0, .string ⟨#[]⟩, .int .i64 0, .string ⟨#[]⟩, .int .i64 0, .slice none 0 0, .slice none 0 0, .int .i64 0, .int .i64 0, .slice none 0 0, .int .i64 0, .int .i64 0, .slice none 0 0, .int .i64 0, .int .i64 0, .bool false], aBlk (w.heap.size + 1) 61 ZA, aBlk w.heap.size 61 A] from aBlk.new (show St _ _ _ from HS.out) _ _)
    clear HS
    have H1C := Lib.hid (show (#[.int .i64 9, .int .i64 who, .int .i64 0, .int .i64 0, .string ⟨#[]⟩, .string ⟨#[]⟩, .int .i64 0, .slice none 0 0, .slice none 0 0, .int .i64 0, .int .i64 0, .int .i64 0, .int .i64 0, .int .i64 0, .int .i64 0, .int .i64 0, .int .i64 0, .int .i64 0, .slice none 0 0, .int .i64 0, .int .i64 0, .slice none 0 0, .slice none 0 0, .slice none 0 0, .slice none 0 0, .string ⟨#[]⟩, .int .i64 0, .string ⟨#[]⟩, .int .i64 0, .slice none 0 0, .slice none 0 0, .int .i64 0, .int .i64 0, .slice none 0 0, .int .i64 0, .int .i64 0, .slice none 0 0, .int .i64 0, .int .i64 0, .bool false] : Array Value).all (·.oneCell') = true from by simp [Value.oneCell'])
    go_wp2_with (first
      | (refine wpList_store_row rfl 61 (.tmp 7) (.tmp 23) rfl w3.heap.size #[.int .i64 9, .int .i64 who, .int .i64 0, .int .i64 0, .string ⟨#[]⟩, .string ⟨#[]⟩, .int .i64 0, .slice none 0 0, .slice none 0 0, .int .i64 0, .int .i64 0, .int .i64 0, .int .i64 0, .int .i64 0, .int .i64 0, .int .i64 0, .int .i64 0, .int .i64 0, .slice none 0 0, .int .i64 0, .int .i64 0, .slice none 0 0, .slice none 0 0, .slice none 0 0, .slice none 0 0, .string ⟨#[]⟩, .int .i64 0, .string ⟨#[]⟩, .int .i64 0, .slice none 0 0, .slice none 0 0, .int .i64 0, .int .i64 0, .slice none 0 0, .int .i64 0, .int .i64 0, .slice none 0 0, .int .i64 0, .int .i64 0, .bool false] rfl rfl 61 #[.int .i64 0, .int .i64 0, .int .i64 0, .int .i64 0, .string ⟨#[]⟩, .string ⟨#[]⟩, .int .i64 0, .slice none 0 0, .slice none 0 0, .int .i64 0, .int .i64 0, .int .i64 0, .int .i64 0, .int .i64 0, .int .i64 0, .int .i64 0, .int .i64 0, .int .i64 0, .slice none 0 0, .int .i64 0, .int .i64 0, .slice none 0 0, .slice none 0 0, .slice none 0 0, .slice none 0 0, .string ⟨#[]⟩, .int .i64 0, .string ⟨#[]⟩, .int .i64 0, .slice none 0 0, .slice none 0 0, .int .i64 0, .int .i64 0, .slice none 0 0, .int .i64 0, .int .i64 0, .slice none 0 0, .int .i64 0, .int .i64 0, .bool false] (aBlk.get HS3.out) (by rw [aInfo]; rfl) rfl H1K.out ?_; have HS4 := Lib.hid (aBlk.setRow HS3.out #[.int .i64 9, .int .i64 who, .int .i64 0, .int .i64 0, .string ⟨#[]⟩, .string ⟨#[]⟩, .int .i64 0, .slice none 0 0, .slice none 0 0, .int .i64 0, .int .i64 0, .int .i64 0, .int .i64 0, .int .i64 0, .int .i64 0, .int .i64 0, .int .i64 0, .int .i64 0, .slice none 0 0, .int .i64 0, .int .i64 0, .slice none 0 0, .slice none 0 0, .slice none 0 0, .slice none 0 0, .string ⟨#[]⟩, .int .i64 0, .string ⟨#[]⟩, .int .i64 0, .slice none 0 0, .slice none 0 0, .int .i64 0, .int .i64 0, .slice none 0 0, .int .i64 0, .int .i64 0, .slice none 0 0, .int .i64 0, .int .i64 0, .bool false]); have k0 := (aBlk.get HS4.out.rot3).cell 0; rw [a0.out] at k0; have k1 := (aBlk.get HS4.out.rot3).cell 1; rw [a1.out] at k1; have k2 := (aBlk.get HS4.out.rot3).cell 2; rw [a2.out] at k2; clear HS3)
      | (refine wpList_load_row rfl 61 (.tmp 7) rfl w3.heap.size rfl 61 #[.int .i64 9, .int .i64 who, .int .i64 0, .int .i64 0, .string ⟨#[]⟩, .string ⟨#[]⟩, .int .i64 0, .slice none 0 0, .slice none 0 0, .int .i64 0, .int .i64 0, .int .i64 0, .int .i64 0, .int .i64 0, .int .i64 0, .int .i64 0, .int .i64 0, .int .i64 0, .slice none 0 0, .int .i64 0, .int .i64 0, .slice none 0 0, .slice none 0 0, .slice none 0 0, .slice none 0 0, .string ⟨#[]⟩, .int .i64 0, .string ⟨#[]⟩, .int .i64 0, .slice none 0 0, .slice none 0 0, .int .i64 0, .int .i64 0, .slice none 0 0, .int .i64 0, .int .i64 0, .slice none 0 0, .int .i64 0, .int .i64 0, .bool false] (0, 0) _ (aBlk.get HS4.out.on) Tryz.underlying61 rfl (by rw [aInfo]; rfl) ?_)
      | (have h1 := aStrs.new' HS4.out [wStart, Lib.itoa who] (by simp [maxLen]) (cs := #[.string ⟨#[115, 116, 97, 114, 116]⟩, .string (bstr (Lib.itoa who))]) rfl (n := 2) (g := w3.heap.size + 1) rfl (by rw [setRow_size]; simp); refine wpList_store_row rfl 61 (.tmp 2) (.tmp 97) rfl (w.heap.size + 1) #[.int .i64 9, .int .i64 who, .int .i64 0, .int .i64 0, .string ⟨#[]⟩, .string ⟨#[]⟩, .int .i64 0, .slice none 0 0, .slice none 0 0, .int .i64 0, .int .i64 0, .int .i64 0, .int .i64 0, .int .i64 0, .int .i64 0, .int .i64 0, .int .i64 0, .int .i64 0, .slice none 0 0, .int .i64 0, .int .i64 0, .slice none 0 0, .slice none 0 0, .slice none 0 0, .slice none 0 0, .string ⟨#[]⟩, .int .i64 0, .string ⟨#[]⟩, .int .i64 0, .slice none 0 0, .slice none 0 0, .int .i64 0, .int .i64 0, .slice none 0 0, .int .i64 0, .int .i64 0, .slice none 0 0, .int .i64 0, .int .i64 0, .bool false] rfl rfl 61 ZA (aBlk.get h1.rot3) (by rw [aInfo]; rfl) (by rw [HZS.out]; rfl) H1C.out ?_; have HS5 := Lib.hid (aBlk.setRow h1.rot3 #[.int .i64 9, .int .i64 who, .int .i64 0, .int .i64 0, .string ⟨#[]⟩, .string ⟨#[]⟩, .int .i64 0, .slice none 0 0, .slice none 0 0, .int .i64 0, .int .i64 0, .int .i64 0, .int .i64 0, .int .i64 0, .int .i64 0, .int .i64 0, .int .i64 0, .int .i64 0, .slice none 0 0, .int .i64 0, .int .i64 0, .slice none 0 0, .slice none 0 0, .slice none 0 0, .slice none 0 0, .string ⟨#[]⟩, .int .i64 0, .string ⟨#[]⟩, .int .i64 0, .slice none 0 0, .slice none 0 0, .int .i64 0, .int .i64 0, .slice none 0 0, .int .i64 0, .int .i64 0, .slice none 0 0, .int .i64 0, .int .i64 0, .bool false]))
      | fail)
    (try simp only [Exit.inBlock, Exit.then])
    refine bodyPost_ret (results_cell2 rfl _ _ (w.heap.size + 1) _ #[.int .i64 9, .int .i64 who, .int .i64 0, .int .i64 0, .string ⟨#[]⟩, .string ⟨#[]⟩, .int .i64 0, .slice none 0 0, .slice none 0 0, .int .i64 0, .int .i64 0, .int .i64 0, .int .i64 0, .int .i64 0, .int .i64 0, .int .i64 0, .int .i64 0, .int .i64 0, .slice none 0 0, .int .i64 0, .int .i64 0, .slice none 0 0, .slice none 0 0, .slice none 0 0, .slice none 0 0, .string ⟨#[]⟩, .int .i64 0, .string ⟨#[]⟩, .int .i64 0, .slice none 0 0, .slice none 0 0, .int .i64 0, .int .i64 0, .slice none 0 0, .int .i64 0, .int .i64 0, .slice none 0 0, .int .i64 0, .int .i64 0, .bool false] _ _ rfl (aBlk.get HS5.out) Tryz.underlying61 rfl (by rw [aInfo]; rfl)) rfl ?_
    refine HY.out ⟨⟨by simp, by simp⟩, fun h => absurd h (by simp), fun h => absurd h (by simp)⟩ (actC 9 who 0 zOpC (.slice none 0 0) zMsgC false) _ _ ?_ ?_
    · show tAct.rd _ _ _ { zAct with kind := 9, who := who, num := 0 }
      exact tAct.mk' (s := { zAct with kind := 9, who := who, num := 0 }) (show (-9223372036854775808 : Int) ≤ 9 ∧ (9 : Int) ≤ 9223372036854775807 from by omega) HBK.out.2.1 (show (-9223372036854775808 : Int) ≤ 0 ∧ (0 : Int) ≤ 9223372036854775807 from by omega) (zOp_rd _ _) (tY.nil _ _) (zMsg_rd _ _)
    · show St _ _ [aStrs _ [wStart, Lib.itoa who]]
      exact HS5.out.drop.drop2.drop2
  · have H1K := Lib.hid (show (#[.int .i64 12, .int .i64 who, .int .i64 0, .int .i64 0, .string ⟨#[]⟩, .string ⟨#[]⟩, .int .i64 0, .slice none 0 0, .slice none 0 0, .int .i64 0, .int .i64 0, .int .i64 0, .int .i64 0, .int .i64 0, .int .i64 0, .int .i64 0, .int .i64 0, .int .i64 0, .slice none 0 0, .int .i64 0, .int .i64 0, .slice none 0 0, .slice none 0 0, .slice none 0 0, .slice none 0 0, .string ⟨#[]⟩, .int .i64 0, .string ⟨#[]⟩, .int .i64 0, .slice none 0 0, .slice none 0 0, .int .i64 0, .int .i64 0, .slice none 0 0, .int .i64 0, .int .i64 0, .slice none 0 0, .int .i64 0, .int .i64 0, .bool false] : Array Value).all (·.oneCell') = true from by simp [Value.oneCell'])
    have HS3 := Lib.hid (show St w (w3.alloc (.cells #[.int .i64 0, .int .i64 0, .int .i64 0, .int .i64 0, .string ⟨#[]⟩, .string ⟨#[]⟩, .int .i64 0, .slice none 0 0, .slice none 0 0, .int .i64 0, .int .i64 0, .int .i64 0, .int .i64 0, .int .i64 0, .int .i64 0, .int .i64 0, .int .i64 0, .int .i64 0, .slice none 0 0, .int .i64 0, .int .i64 0, .slice none 0 0, .slice none 0 0, .slice none 0 0, .slice none 0 0, .string ⟨#[]⟩, .int .i64 0, .string ⟨#[]⟩, .int .i64 0, .slice none 0 0, .slice none 0 0, .int .i64 0, .int .i64 0, .slice none 0 0, .int .i64 0, .int .i64 0, .slice none 0 0, .int .i64 0, .int .i64 0, .bool false] 61)) [aBlk w3.heap.size 61 #[.int .i64 0, .int .i64 0, .int .i64 0, .int .i64 0, .string ⟨#[]⟩, .string ⟨#[]⟩, .int .i64 0, .slice none 0 0, .slice none 0 0, .int .i64 0, .int .i64 0, .int .i64 0, .int .i64 0, .int .i64 0, .int .i64 0, .int .i64 0, .int .i64 0, .int .i64 0, .slice none 0 0, .int .i64 0, .int .i64 0, .slice none 0 0, .slice none 0 0, .slice none 0 0, .slice none 0 0, .string ⟨#[]⟩, .int .i64 0, .string ⟨#[]⟩, .int .i64 0, .slice none 0 0, .slice none 0 0, .int .i64 0, .int .i64 0, .slice none 0 0, .int .i64 0, .int .i64 0, .slice none 0 0, .int .i64 0, .int .i64 0, .bool false], aBlk (w.heap.size + 1) 61 ZA, aBlk w.heap.size 61 A] from aBlk.new (show St _ _ _ from HS.out) _ _)
    clear HS
    have H1C := Lib.hid (show (#[.int .i64 12, .int .i64 0, .int .i64 0, .int .i64 0, .string ⟨#[]⟩, .string ⟨#[]⟩, .int .i64 0, .slice none 0 0, .slice none 0 0, .int .i64 0, .int .i64 0, .int .i64 0, .int .i64 0, .int .i64 0, .int .i64 0, .int .i64 0, .int .i64 0, .int .i64 0, .slice none 0 0, .int .i64 0, .int .i64 0, .slice none 0 0, .slice none 0 0, .slice none 0 0, .slice none 0 0, .string ⟨#[]⟩, .int .i64 0, .string ⟨#[]⟩, .int .i64 0, .slice none 0 0, .slice none 0 0, .int .i64 0, .int .i64 0, .slice none 0 0, .int .i64 0, .int .i64 0, .slice none 0 0, .int .i64 0, .int .i64 0, .bool false] : Array Value).all (·.oneCell') = true from by simp [Value.oneCell'])
    go_wp2_with (first
      | (refine wpList_store_row rfl 61 (.tmp 7) (.tmp 23) rfl w3.heap.size #[.int .i64 12, .int .i64 who, .int .i64 0, .int .i64 0, .string ⟨#[]⟩, .string ⟨#[]⟩, .int .i64 0, .slice none 0 0, .slice none 0 0, .int .i64 0, .int .i64 0, .int .i64 0, .int .i64 0, .int .i64 0, .int .i64 0, .int .i64 0, .int .i64 0, .int .i64 0, .slice none 0 0, .int .i64 0, .int .i64 0, .slice none 0 0, .slice none 0 0, .slice none 0 0, .slice none 0 0, .string ⟨#[]⟩, .int .i64 0, .string ⟨#[]⟩, .int .i64 0, .slice none 0 0, .slice none 0 0, .int .i64 0, .int .i64 0, .slice none 0 0, .int .i64 0, .int .i64 0, .slice none 0 0, .int .i64 0, .int .i64 0, .bool false] rfl rfl 61 #[.int .i64 0, .int .i64 0, .int .i64 0, .int .i64 0, .string ⟨#[]⟩, .string ⟨#[]⟩, .int .i64 0, .slice none 0 0, .slice none 0 0, .int .i64 0, .int .i64 0, .int .i64 0, .int .i64 0, .int .i64 0, .int .i64 0, .int .i64 0, .int .i64 0, .int .i64 0, .slice none 0 0, .int .i64 0, .int .i64 0, .slice none 0 0, .slice none 0 0, .slice none 0 0, .slice none 0 0, .string ⟨#[]⟩, .int .i64 0, .string ⟨#[]⟩, .int .i64 0, .slice none 0 0, .slice none 0 0, .int .i64 0, .int .i64 0, .slice none 0 0, .int .i64 0, .int .i64 0, .slice none 0 0, .int .i64 0, .int .i64 0, .bool false] (aBlk.get HS3.out) (by rw [aInfo]; rfl) rfl H1K.out ?_; have HS4 := Lib.hid (aBlk.setRow HS3.out #[.int .i64 12, .int .i64 who, .int .i64 0, .int .i64 0, .string ⟨#[]⟩, .string ⟨#[]⟩, .int .i64 0, .slice none 0 0, .slice none 0 0, .int .i64 0, .int .i64 0, .int .i64 0, .int .i64 0, .int .i64 0, .int .i64 0, .int .i64 0, .int .i64 0, .int .i64 0, .slice none 0 0, .int .i64 0, .int .i64 0, .slice none 0 0, .slice none 0 0, .slice none 0 0, .slice none 0 0, .string ⟨#[]⟩, .int .i64 0, .string ⟨#[]⟩, .int .i64 0, .slice none 0 0, .slice none 0 0, .int .i64 0, .int .i64 0, .slice none 0 0, .int .i64 0, .int .i64 0, .slice none 0 0, .int .i64 0, .int .i64 0, .bool false]); have k0 := (aBlk.get HS4.out.rot3).cell 0; rw [a0.out] at k0; have k1 := (aBlk.get HS4.out.rot3).cell 1; rw [a1.out] at k1; have k2 := (aBlk.get HS4.out.rot3).cell 2; rw [a2.out] at k2; clear HS3)
      | (have h1 := aStrs.new' HS4.out [wRound] (by simp [maxLen]) (cs := #[.string ⟨#[114, 111, 117, 110, 100]⟩]) rfl (n := 1) (g := w3.heap.size + 1) rfl (by rw [setRow_size]; simp); refine wpList_store_row rfl 61 (.tmp 2) (.tmp 138) rfl (w.heap.size + 1) #[.int .i64 12, .int .i64 0, .int .i64 0, .int .i64 0, .string ⟨#[]⟩, .string ⟨#[]⟩, .int .i64 0, .slice none 0 0, .slice none 0 0, .int .i64 0, .int .i64 0, .int .i64 0, .int .i64 0, .int .i64 0, .int .i64 0, .int .i64 0, .int .i64 0, .int .i64 0, .slice none 0 0, .int .i64 0, .int .i64 0, .slice none 0 0, .slice none 0 0, .slice none 0 0, .slice none 0 0, .string ⟨#[]⟩, .int .i64 0, .string ⟨#[]⟩, .int .i64 0, .slice none 0 0, .slice none 0 0, .int .i64 0, .int .i64 0, .slice none 0 0, .int .i64 0, .int .i64 0, .slice none 0 0, .int .i64 0, .int .i64 0, .bool false] rfl rfl 61 ZA (aBlk.get h1.rot3) (by rw [aInfo]; rfl) (by rw [HZS.out]; rfl) H1C.out ?_; have HS5 := Lib.hid (aBlk.setRow h1.rot3 #[.int .i64 12, .int .i64 0, .int .i64 0, .int .i64 0, .string ⟨#[]⟩, .string ⟨#[]⟩, .int .i64 0, .slice none 0 0, .slice none 0 0, .int .i64 0, .int .i64 0, .int .i64 0, .int .i64 0, .int .i64 0, .int .i64 0, .int .i64 0, .int .i64 0, .int .i64 0, .slice none 0 0, .int .i64 0, .int .i64 0, .slice none 0 0, .slice none 0 0, .slice none 0 0, .slice none 0 0, .string ⟨#[]⟩, .int .i64 0, .string ⟨#[]⟩, .int .i64 0, .slice none 0 0, .slice none 0 0, .int .i64 0, .int .i64 0, .slice none 0 0, .int .i64 0, .int .i64 0, .slice none 0 0, .int .i64 0, .int .i64 0, .bool false]))
      | fail)
    (try simp only [Exit.inBlock, Exit.then])
    refine bodyPost_ret (results_cell2 rfl _ _ (w.heap.size + 1) _ #[.int .i64 12, .int .i64 0, .int .i64 0, .int .i64 0, .string ⟨#[]⟩, .string ⟨#[]⟩, .int .i64 0, .slice none 0 0, .slice none 0 0, .int .i64 0, .int .i64 0, .int .i64 0, .int .i64 0, .int .i64 0, .int .i64 0, .int .i64 0, .int .i64 0, .int .i64 0, .slice none 0 0, .int .i64 0, .int .i64 0, .slice none 0 0, .slice none 0 0, .slice none 0 0, .slice none 0 0, .string ⟨#[]⟩, .int .i64 0, .string ⟨#[]⟩, .int .i64 0, .slice none 0 0, .slice none 0 0, .int .i64 0, .int .i64 0, .slice none 0 0, .int .i64 0, .int .i64 0, .slice none 0 0, .int .i64 0, .int .i64 0, .bool false] _ _ rfl (aBlk.get HS5.out) Tryz.underlying61 rfl (by rw [aInfo]; rfl)) rfl ?_
    refine HY.out ⟨⟨by simp, by simp⟩, fun h => absurd h (by simp), fun h => absurd h (by simp)⟩ (actC 12 0 0 zOpC (.slice none 0 0) zMsgC false) _ _ ?_ ?_
    · show tAct.rd _ _ _ { zAct with kind := 12, who := 0, num := 0 }
      exact tAct.mk' (s := { zAct with kind := 12, who := 0, num := 0 }) (show (-9223372036854775808 : Int) ≤ 12 ∧ (12 : Int) ≤ 9223372036854775807 from by omega) (show (-9223372036854775808 : Int) ≤ 0 ∧ (0 : Int) ≤ 9223372036854775807 from by omega) (show (-9223372036854775808 : Int) ≤ 0 ∧ (0 : Int) ≤ 9223372036854775807 from by omega) (zOp_rd _ _) (tY.nil _ _) (zMsg_rd _ _)
    · show St _ _ [aStrs _ [wRound]]
      exact HS5.out.drop.drop2.drop2
  · have H1K := Lib.hid (show (#[.int .i64 8, .int .i64 who, .int .i64 0, .int .i64 0, .string ⟨#[]⟩, .string ⟨#[]⟩, .int .i64 0, .slice none 0 0, .slice none 0 0, .int .i64 0, .int .i64 0, .int .i64 0, .int .i64 0, .int .i64 0, .int .i64 0, .int .i64 0, .int .i64 0, .int .i64 0, .slice none 0 0, .int .i64 0, .int .i64 0, .slice none 0 0, .slice none 0 0, .slice none 0 0, .slice none 0 0, .string ⟨#[]⟩, .int .i64 0, .string ⟨#[]⟩, .int .i64 0, .slice none 0 0, .slice none 0 0, .int .i64 0, .int .i64 0, .slice none 0 0, .int .i64 0, .int .i64 0, .slice none 0 0, .int .i64 0, .int .i64 0, .bool false] : Array Value).all (·.oneCell') = true from by simp [Value.oneCell'])
    have HS3 := Lib.hid (show St w (w3.alloc (.cells #[.int .i64 0, .int .i64 0, .int .i64 0, .int .i64 0, .string ⟨#[]⟩, .string ⟨#[]⟩, .int .i64 0, .slice none 0 0, .slice none 0 0, .int .i64 0, .int .i64 0, .int .i64 0, .int .i64 0, .int .i64 0, .int .i64 0, .int .i64 0, .int .i64 0, .int .i64 0, .slice none 0 0, .int .i64 0, .int .i64 0, .slice none 0 0, .slice none 0 0, .slice none 0 0, .slice none 0 0, .string ⟨#[]⟩, .int .i64 0, .string ⟨#[]⟩, .int .i64 0, .slice none 0 0, .slice none 0 0, .int .i64 0, .int .i64 0, .slice none 0 0, .int .i64 0, .int .i64 0, .slice none 0 0, .int .i64 0, .int .i64 0, .bool false] 61)) [aBlk w3.heap.size 61 #[.int .i64 0, .int .i64 0, .int .i64 0, .int .i64 0, .string ⟨#[]⟩, .string ⟨#[]⟩, .int .i64 0, .slice none 0 0, .slice none 0 0, .int .i64 0, .int .i64 0, .int .i64 0, .int .i64 0, .int .i64 0, .int .i64 0, .int .i64 0, .int .i64 0, .int .i64 0, .slice none 0 0, .int .i64 0, .int .i64 0, .slice none 0 0, .slice none 0 0, .slice none 0 0, .slice none 0 0, .string ⟨#[]⟩, .int .i64 0, .string ⟨#[]⟩, .int .i64 0, .slice none 0 0, .slice none 0 0, .int .i64 0, .int .i64 0, .slice none 0 0, .int .i64 0, .int .i64 0, .slice none 0 0, .int .i64 0, .int .i64 0, .bool false], aBlk (w.heap.size + 1) 61 ZA, aBlk w.heap.size 61 A] from aBlk.new (show St _ _ _ from HS.out) _ _)
    clear HS
    have H1C := Lib.hid (show (#[.int .i64 8, .int .i64 who, .int .i64 num, .int .i64 0, .string ⟨#[]⟩, .string ⟨#[]⟩, .int .i64 0, .slice none 0 0, .slice none 0 0, .int .i64 0, .int .i64 0, .int .i64 0, .int .i64 0, .int .i64 0, .int .i64 0, .int .i64 0, .int .i64 0, .int .i64 0, .slice none 0 0, .int .i64 0, .int .i64 0, .slice none 0 0, .slice none 0 0, .slice none 0 0, .slice none 0 0, .string ⟨#[]⟩, .int .i64 0, .string ⟨#[]⟩, .int .i64 0, .slice none 0 0, .slice none 0 0, .int .i64 0, .int .i64 0, .slice none 0 0, .int .i64 0, .int .i64 0, .slice none 0 0, .int .i64 0, .int .i64 0, .bool false] : Array Value).all (·.oneCell') = true from by simp [Value.oneCell'])
    go_wp2_with (first
      | (refine wpList_store_row rfl 61 (.tmp 7) (.tmp 23) rfl w3.heap.size #[.int .i64 8, .int .i64 who, .int .i64 0, .int .i64 0, .string ⟨#[]⟩, .string ⟨#[]⟩, .int .i64 0, .slice none 0 0, .slice none 0 0, .int .i64 0, .int .i64 0, .int .i64 0, .int .i64 0, .int .i64 0, .int .i64 0, .int .i64 0, .int .i64 0, .int .i64 0, .slice none 0 0, .int .i64 0, .int .i64 0, .slice none 0 0, .slice none 0 0, .slice none 0 0, .slice none 0 0, .string ⟨#[]⟩, .int .i64 0, .string ⟨#[]⟩, .int .i64 0, .slice none 0 0, .slice none 0 0, .int .i64 0, .int .i64 0, .slice none 0 0, .int .i64 0, .int .i64 0, .slice none 0 0, .int .i64 0, .int .i64 0, .bool false] rfl rfl 61 #[.int .i64 0, .int .i64 0, .int .i64 0, .int .i64 0, .string ⟨#[]⟩, .string ⟨#[]⟩, .int .i64 0, .slice none 0 0, .slice none 0 0, .int .i64 0, .int .i64 0, .int .i64 0, .int .i64 0, .int .i64 0, .int .i64 0, .int .i64 0, .int .i64 0, .int .i64 0, .slice none 0 0, .int .i64 0, .int .i64 0, .slice none 0 0, .slice none 0 0, .slice none 0 0, .slice none 0 0, .string ⟨#[]⟩, .int .i64 0, .string ⟨#[]⟩, .int .i64 0, .slice none 0 0, .slice none 0 0, .int .i64 0, .int .i64 0, .slice none 0 0, .int .i64 0, .int .i64 0, .slice none 0 0, .int .i64 0, .int .i64 0, .bool false] (aBlk.get HS3.out) (by rw [aInfo]; rfl) rfl H1K.out ?_; have HS4 := Lib.hid (aBlk.setRow HS3.out #[.int .i64 8, .int .i64 who, .int .i64 0, .int .i64 0, .string ⟨#[]⟩, .string ⟨#[]⟩, .int .i64 0, .slice none 0 0, .slice none 0 0, .int .i64 0, .int .i64 0, .int .i64 0, .int .i64 0, .int .i64 0, .int .i64 0, .int .i64 0, .int .i64 0, .int .i64 0, .slice none 0 0, .int .i64 0, .int .i64 0, .slice none 0 0, .slice none 0 0, .slice none 0 0, .slice none 0 0, .string ⟨#[]⟩, .int .i64 0, .string ⟨#[]⟩, .int .i64 0, .slice none 0 0, .slice none 0 0, .int .i64 0, .int .i64 0, .slice none 0 0, .int .i64 0, .int .i64 0, .slice none 0 0, .int .i64 0, .int .i64 0, .bool false]); have k0 := (aBlk.get HS4.out.rot3).cell 0; rw [a0.out] at k0; have k1 := (aBlk.get HS4.out.rot3).cell 1; rw [a1.out] at k1; have k2 := (aBlk.get HS4.out.rot3).cell 2; rw [a2.out] at k2; have k3 := (aBlk.get HS4.out).cell 2; have f3 := (aBlk.get HS4.out).frozen 2; simp at k3; clear HS3)
      | (have HSa : St w _ [aBlk w3.heap.size 61 #[.int .i64 8, .int .i64 who, .int .i64 num, .int .i64 0, .string ⟨#[]⟩, .string ⟨#[]⟩, .int .i64 0, .slice none 0 0, .slice none 0 0, .int .i64 0, .int .i64 0, .int .i64 0, .int .i64 0, .int .i64 0, .int .i64 0, .int .i64 0, .int .i64 0, .int .i64 0, .slice none 0 0, .int .i64 0, .int .i64 0, .slice none 0 0, .slice none 0 0, .slice none 0 0, .slice none 0 0, .string ⟨#[]⟩, .int .i64 0, .string ⟨#[]⟩, .int .i64 0, .slice none 0 0, .slice none 0 0, .int .i64 0, .int .i64 0, .slice none 0 0, .int .i64 0, .int .i64 0, .slice none 0 0, .int .i64 0, .int .i64 0, .bool false], aBlk (w.heap.size + 1) 61 ZA, aBlk w.heap.size 61 A] := aBlk.set HS4.out 2 (.int .i64 num); refine wpList_load_row rfl 61 (.tmp 7) rfl w3.heap.size rfl 61 #[.int .i64 8, .int .i64 who, .int .i64 num, .int .i64 0, .string ⟨#[]⟩, .string ⟨#[]⟩, .int .i64 0, .slice none 0 0, .slice none 0 0, .int .i64 0, .int .i64 0, .int .i64 0, .int .i64 0, .int .i64 0, .int .i64 0, .int .i64 0, .int .i64 0, .int .i64 0, .slice none 0 0, .int .i64 0, .int .i64 0, .slice none 0 0, .slice none 0 0, .slice none 0 0, .slice none 0 0, .string ⟨#[]⟩, .int .i64 0, .string ⟨#[]⟩, .int .i64 0, .slice none 0 0, .slice none 0 0, .int .i64 0, .int .i64 0, .slice none 0 0, .int .i64 0, .int .i64 0, .slice none 0 0, .int .i64 0, .int .i64 0, .bool false] (0, 0) _ (aBlk.get HSa) Tryz.underlying61 rfl (by rw [aInfo]; rfl) ?_; have HS6 := Lib.hid HSa)
      | (have h1 := aStrs.new' HS6.out [wCrash, Lib.itoa who, Lib.itoa num] (by simp [maxLen]) (cs := #[.string ⟨#[99, 114, 97, 115, 104]⟩, .string (bstr (Lib.itoa who)), .string (bstr (Lib.itoa num))]) rfl (n := 3) (g := w3.heap.size + 1) rfl (by simp [setRow_size]); refine wpList_store_row rfl 61 (.tmp 2) (.tmp 91) rfl (w.heap.size + 1) #[.int .i64 8, .int .i64 who, .int .i64 num, .int .i64 0, .string ⟨#[]⟩, .string ⟨#[]⟩, .int .i64 0, .slice none 0 0, .slice none 0 0, .int .i64 0, .int .i64 0, .int .i64 0, .int .i64 0, .int .i64 0, .int .i64 0, .int .i64 0, .int .i64 0, .int .i64 0, .slice none 0 0, .int .i64 0, .int .i64 0, .slice none 0 0, .slice none 0 0, .slice none 0 0, .slice none 0 0, .string ⟨#[]⟩, .int .i64 0, .string ⟨#[]⟩, .int .i64 0, .slice none 0 0, .slice none 0 0, .int .i64 0, .int .i64 0, .slice none 0 0, .int .i64 0, .int .i64 0, .slice none 0 0, .int .i64 0, .int .i64 0, .bool false] rfl rfl 61 ZA (aBlk.get h1.rot3) (by rw [aInfo]; rfl) (by rw [HZS.out]; rfl) H1C.out ?_; have HS5 := Lib.hid (aBlk.setRow h1.rot3 #[.int .i64 8, .int .i64 who, .int .i64 num, .int .i64 0, .string ⟨#[]⟩, .string ⟨#[]⟩, .int .i64 0, .slice none 0 0, .slice none 0 0, .int .i64 0, .int .i64 0, .int .i64 0, .int .i64 0, .int .i64 0, .int .i64 0, .int .i64 0, .int .i64 0, .int .i64 0, .slice none 0 0, .int .i64 0, .int .i64 0, .slice none 0 0, .slice none 0 0, .slice none 0 0, .slice none 0 0, .string ⟨#[]⟩, .int .i64 0, .string ⟨#[]⟩, .int .i64 0, .slice none 0 0, .slice none 0 0, .int .i64 0, .int .i64 0, .slice none 0 0, .int .i64 0, .int .i64 0, .slice none 0 0, .int .i64 0, .int .i64 0, .bool false]))
      | fail)
    (try simp only [Exit.inBlock, Exit.then])
    refine bodyPost_ret (results_cell2 rfl _ _ (w.heap.size + 1) _ #[.int .i64 8, .int .i64 who, .int .i64 num, .int .i64 0, .string ⟨#[]⟩, .string ⟨#[]⟩, .int .i64 0, .slice none 0 0, .slice none 0 0, .int .i64 0, .int .i64 0, .int .i64 0, .int .i64 0, .int .i64 0, .int .i64 0, .int .i64 0, .int .i64 0, .int .i64 0, .slice none 0 0, .int .i64 0, .int .i64 0, .slice none 0 0, .slice none 0 0, .slice none 0 0, .slice none 0 0, .string ⟨#[]⟩, .int .i64 0, .string ⟨#[]⟩, .int .i64 0, .slice none 0 0, .slice none 0 0, .int .i64 0, .int .i64 0, .slice none 0 0, .int .i64 0, .int .i64 0, .slice none 0 0, .int .i64 0, .int .i64 0, .bool false] _ _ rfl (aBlk.get HS5.out) Tryz.underlying61 rfl (by rw [aInfo]; rfl)) rfl ?_
    refine HY.out ⟨⟨by simp, by simp⟩, fun h => absurd h (by simp), fun h => absurd h (by simp)⟩ (actC 8 who num zOpC (.slice none 0 0) zMsgC false) _ _ ?_ ?_
    · show tAct.rd _ _ _ { zAct with kind := 8, who := who, num := num }
      exact tAct.mk' (s := { zAct with kind := 8, who := who, num := num }) (show (-9223372036854775808 : Int) ≤ 8 ∧ (8 : Int) ≤ 9223372036854775807 from by omega) HBK.out.2.1 HBK.out.2.2 (zOp_rd _ _) (tY.nil _ _) (zMsg_rd _ _)
    · show St _ _ [aStrs _ [wCrash, Lib.itoa who, Lib.itoa num]]
      exact HS5.out.drop.drop2.drop2
end Go.Proofs.YtafomdobfmmleaaGreatDoor

/- script.keep, some ways (printed by gen_nd.py). -/
namespace Go.Proofs.YtafomdobfmmleaaGreatDoor
open Go.RowKit Go.Deep
set_option linter.unusedVariables false

set_option maxRecDepth 20000 in
set_option maxHeartbeats 16000000 in
theorem keepD {w : World} {R : Ending → World → Prop} {kind who num : Int} {op : OpD} {bytes : List UInt8} {msg : MsgD} {sl : Bool} {oc mc : List Value} {b : Value} (hT : TabW w)
    (bk : (-9223372036854775808 ≤ kind ∧ kind ≤ 9223372036854775807) ∧ (-9223372036854775808 ≤ who ∧ who ≤ 9223372036854775807) ∧ (-9223372036854775808 ≤ num ∧ num ≤ 9223372036854775807))
    (ho : tOp.rd (fun _ => True) w oc op) (hb : tY.rd (fun _ => True) w [b] bytes) (hm : tMsg.rd (fun _ => True) w mc msg)
    (hY : keepOk ⟨kind, who, num, op, bytes, msg, sl⟩ → ∀ ds v w', tAct.rd (fun _ => True) w' ds (keepF ⟨kind, who, num, op, bytes, msg, sl⟩) → St w w' [aStrs v (keepW ⟨kind, who, num, op, bytes, msg, sl⟩)] → R (.returned (.tuple #[.agg ds.toArray, v, .bool true])) w')
    (hN : ¬ keepOk ⟨kind, who, num, op, bytes, msg, sl⟩ → ∀ (U : Array Value) v w', U.size = 40 → U.all (·.oneCell') = true → B w w' → R (.returned (.tuple #[.agg U, v, .bool false])) w')
    (hk : kind = 6 ∨ kind = 10) : Calls Tryz.prog 42 #[.agg (actC kind who num oc b mc sl).toArray] w R := by
  obtain ⟨bA, bc, rfl⟩ : ∃ bA bc, b = .slice bA bytes.length bc := by
    obtain ⟨u, hu, hbs, _⟩ := hb
    injection hu with hu _
    subst hu
    obtain ⟨A1, c1, e1⟩ := hbs.rd.slice
    exact ⟨A1, c1, e1⟩
  have hol : oc.length = 5 := tOp.len ho
  have hml : mc.length = 30 := by have := tMsg.len hm; simpa using this
  obtain ⟨A, hA⟩ : ∃ A, (actC kind who num oc (.slice bA bytes.length bc) mc sl).toArray = A := ⟨_, rfl⟩
  obtain ⟨ZA, hZA⟩ : ∃ ZA, (actC 0 0 0 zOpC (.slice none 0 0) zMsgC false).toArray = ZA := ⟨_, rfl⟩
  have HAS := Lib.hid (show A.size = 40 from by rw [← hA]; simp [actC, hol, hml])
  have HZS := Lib.hid (show ZA.size = 40 from by rw [← hZA]; rfl)
  have a0 := Lib.hid (show A[0]? = some (.int .i64 kind) from by rw [← hA]; rfl)
  have a1 := Lib.hid (show A[1]? = some (.int .i64 who) from by rw [← hA]; rfl)
  have a8 := Lib.hid (show A[8]? = some (.slice bA bytes.length bc) from by rw [← hA]; simp [actC, hol])
  have HA3 := Lib.hid (show (A.toList.drop 3).take 5 = oc from by rw [← hA]; simp [actC, hol])
  have HA9 := Lib.hid (show (A.toList.drop 9).take 30 = mc from by rw [← hA]; simp [actC, List.drop_append, List.take_append, hol, hml])
  have a39 := Lib.hid (show A[39]? = some (.bool sl) from by rw [← hA]; simp [actC, hol, hml])
  have HOL := Lib.hid hol
  have HML := Lib.hid hml
  have a2 := Lib.hid (show A[2]? = some (.int .i64 num) from by rw [← hA]; rfl)
  have HO := Lib.hid ho
  have HB := Lib.hid hb
  have HM := Lib.hid hm
  have HY := Lib.hid hY
  have HN := Lib.hid hN
  have HT := Lib.hid hT
  have HBK := Lib.hid bk
  have HAA := Lib.hid hA
  have HZA := Lib.hid hZA
  rw [hA]
  have HS := Lib.hid (show KS0 w ZA A ((w.alloc (.cells A 61)).alloc (.cells #[.int .i64 0, .int .i64 0, .int .i64 0, .int .i64 0, .string ⟨#[]⟩, .string ⟨#[]⟩, .int .i64 0, .slice none 0 0, .slice none 0 0, .int .i64 0, .int .i64 0, .int .i64 0, .int .i64 0, .int .i64 0, .int .i64 0, .int .i64 0, .int .i64 0, .int .i64 0, .slice none 0 0, .int .i64 0, .int .i64 0, .slice none 0 0, .slice none 0 0, .slice none 0 0, .slice none 0 0, .string ⟨#[]⟩, .int .i64 0, .string ⟨#[]⟩, .int .i64 0, .slice none 0 0, .slice none 0 0, .int .i64 0, .int .i64 0, .slice none 0 0, .int .i64 0, .int .i64 0, .slice none 0 0, .int .i64 0, .int .i64 0, .bool false] 61)) from by
    have h := aBlk.new (aBlk.new (St.nil w) 61 A) 61 ZA
    rw [show (w.alloc (.cells A 61)).heap.size = w.heap.size + 1 from by simp] at h
    rw [← hZA] at h ⊢
    exact h)
  clear hA hZA ho hb hm hY hN hT bk hol hml
  go_enter Tryz.func42, Tryz.ntmps42
  go_wp2_with fail
  refine wp_region_held_drew (S := KS0 w ZA A) (by kernel_rfl) (show St _ _ _ from St.on (show St _ _ _ from HS.out)) (fun HS => ?_)
  replace HS := Lib.hid HS
  generalize World.drew _ = W1 at *
  refine anyH_take (i := 0) (d := some 13) (v := .pointer (some ⟨w.heap.size, 2, none⟩)) rfl rfl (by kernel_rfl) (by kernel_rfl) (by kernel_rfl) (fun _ _ _ h => h) rfl (fun w' hS => by go_simp) HS.out ?_
  simp only [Act.put, List.setIfInBounds_toArray, List.set_cons_zero, List.set_cons_succ]
  refine anyH_take (i := 1) (d := some 14) (v := .int .i64 num) rfl rfl (by kernel_rfl) (by kernel_rfl) (by kernel_rfl) (fun _ _ _ h => h) rfl (fun w' hS => run_load_op (ty := 3) rfl rfl (load1 (by rw [(aBlk.get (St.swap hS)).cell 2]; exact a2.out) Tryz.underlying3 rfl)) HS.out ?_
  simp only [Act.put, List.setIfInBounds_toArray, List.set_cons_zero, List.set_cons_succ]
  refine anyH_take (i := 3) (d := some 16) (v := .pointer (some ⟨w.heap.size, 1, none⟩)) rfl rfl (by kernel_rfl) (by kernel_rfl) (by kernel_rfl) (fun _ _ _ h => h) rfl (fun w' hS => by go_simp) HS.out ?_
  simp only [Act.put, List.setIfInBounds_toArray, List.set_cons_zero, List.set_cons_succ]
  refine anyH_take (i := 4) (d := some 17) (v := .int .i64 who) rfl rfl (by kernel_rfl) (by kernel_rfl) (by kernel_rfl) (fun _ _ _ h => h) rfl (fun w' hS => run_load_op (ty := 3) rfl rfl (load1 (by rw [(aBlk.get (St.swap hS)).cell 1]; exact a1.out) Tryz.underlying3 rfl)) HS.out ?_
  simp only [Act.put, List.setIfInBounds_toArray, List.set_cons_zero, List.set_cons_succ]
  refine anyH_call (i := 2) (d := some 15) (v := .string (bstr (Lib.itoa num))) (by kernel_rfl) rfl rfl rfl (by go_simp) (num_c (HT.out.later (St.b HS.out)) HBK.out.2.2) (fun w' hb => St.later HS.out hb) (fun w2 HS => ?_)
  replace HS := Lib.hid HS
  simp only [Act.put, List.setIfInBounds_toArray, List.set_cons_zero, List.set_cons_succ]
  refine anyH_call (i := 5) (d := some 18) (v := .string (bstr (Lib.itoa who))) (by kernel_rfl) rfl rfl rfl (by go_simp) (num_c (HT.out.later (St.b HS.out)) HBK.out.2.1) (fun w' hb => St.later HS.out hb) (fun w3 HS => ?_)
  replace HS := Lib.hid HS
  simp only [Act.put, List.setIfInBounds_toArray, List.set_cons_zero, List.set_cons_succ]
  refine anyH_take (i := 6) (d := some 5) (v := .string (bstr (Lib.itoa num))) rfl rfl (by kernel_rfl) (by kernel_rfl) (by kernel_rfl) (fun _ _ _ h => h) rfl (fun w' hS => by go_simp) HS.out ?_
  simp only [Act.put, List.setIfInBounds_toArray, List.set_cons_zero, List.set_cons_succ]
  refine anyH_take (i := 7) (d := some 6) (v := .string (bstr (Lib.itoa who))) rfl rfl (by kernel_rfl) (by kernel_rfl) (by kernel_rfl) (fun _ _ _ h => h) rfl (fun w' hS => by go_simp) HS.out ?_
  simp only [Act.put, List.setIfInBounds_toArray, List.set_cons_zero, List.set_cons_succ]
  refine wpAnyH_done (by kernel_rfl) ?_ _
  have k0 : w3.cell? ⟨w.heap.size, 0, none⟩ = some (.int .i64 kind) := by rw [(aBlk.get (St.swap HS.out)).cell 0]; exact a0.out
  have k1 : w3.cell? ⟨w.heap.size, 1, none⟩ = some (.int .i64 who) := by rw [(aBlk.get (St.swap HS.out)).cell 1]; exact a1.out
  have k2 : w3.cell? ⟨w.heap.size, 2, none⟩ = some (.int .i64 num) := by rw [(aBlk.get (St.swap HS.out)).cell 2]; exact a2.out
  have kL := (aBlk.get (St.swap HS.out)).lt
  rcases hk with rfl | rfl
  · have H1K := Lib.hid (show (#[.int .i64 6, .int .i64 who, .int .i64 0, .int .i64 0, .string ⟨#[]⟩, .string ⟨#[]⟩, .int .i64 0, .slice none 0 0, .slice none 0 0, .int .i64 0, .int .i64 0, .int .i64 0, .int .i64 0, .int .i64 0, .int .i64 0, .int .i64 0, .int .i64 0, .int .i64 0, .slice none 0 0, .int .i64 0, .int .i64 0, .slice none 0 0, .slice none 0 0, .slice none 0 0, .slice none 0 0, .string ⟨#[]⟩, .int .i64 0, .string ⟨#[]⟩, .int .i64 0, .slice none 0 0, .slice none 0 0, .int .i64 0, .int .i64 0, .slice none 0 0, .int .i64 0, .int .i64 0, .slice none 0 0, .int .i64 0, .int .i64 0, .bool false] : Array Value).all (·.oneCell') = true from by simp [Value.oneCell'])
    have HS3 := Lib.hid (show St w (w3.alloc (.cells #[.int .i64 0, .int .i64 0, .int .i64 0, .int .i64 0, .string ⟨#[]⟩, .string ⟨#[]⟩, .int .i64 0, .slice none 0 0, .slice none 0 0, .int .i64 0, .int .i64 0, .int .i64 0, .int .i64 0, .int .i64 0, .int .i64 0, .int .i64 0, .int .i64 0, .int .i64 0, .slice none 0 0, .int .i64 0, .int .i64 0, .slice none 0 0, .slice none 0 0, .slice none 0 0, .slice none 0 0, .string ⟨#[]⟩, .int .i64 0, .string ⟨#[]⟩, .int .i64 0, .slice none 0 0, .slice none 0 0, .int .i64 0, .int .i64 0, .slice none 0 0, .int .i64 0, .int .i64 0, .slice none 0 0, .int .i64 0, .int .i64 0, .bool false] 61)) [aBlk w3.heap.size 61 #[.int .i64 0, .int .i64 0, .int .i64 0, .int .i64 0, .string ⟨#[]⟩, .string ⟨#[]⟩, .int .i64 0, .slice none 0 0, .slice none 0 0, .int .i64 0, .int .i64 0, .int .i64 0, .int .i64 0, .int .i64 0, .int .i64 0, .int .i64 0, .int .i64 0, .int .i64 0, .slice none 0 0, .int .i64 0, .int .i64 0, .slice none 0 0, .slice none 0 0, .slice none 0 0, .slice none 0 0, .string ⟨#[]⟩, .int .i64 0, .string ⟨#[]⟩, .int .i64 0, .slice none 0 0, .slice none 0 0, .int .i64 0, .int .i64 0, .slice none 0 0, .int .i64 0, .int .i64 0, .slice none 0 0, .int .i64 0, .int .i64 0, .bool false], aBlk (w.heap.size + 1) 61 ZA, aBlk w.heap.size 61 A] from aBlk.new (show St _ _ _ from HS.out) _ _)
    clear HS
    obtain ⟨V, hV⟩ : ∃ V, (actC 6 who 0 oc (.slice none 0 0) zMsgC false).toArray = V := ⟨_, rfl⟩
    have HV := Lib.hid hV
    have HVS := Lib.hid (show V.size = 40 from by rw [← hV]; simp [actC, zMsgC, HOL.out])
    have HO1 := Lib.hid (tOp.one HO.out)
    have H1C := Lib.hid (show V.all (·.oneCell') = true from by
      rw [← hV]
      have := HO1.out
      simp only [List.all_toArray, actC, List.all_append, List.all_eq_true.2 this, zMsgC]
      simp [Value.oneCell'])
    have HKM := Lib.hid (show setMany #[.int .i64 6, .int .i64 who, .int .i64 0, .int .i64 0, .string ⟨#[]⟩, .string ⟨#[]⟩, .int .i64 0, .slice none 0 0, .slice none 0 0, .int .i64 0, .int .i64 0, .int .i64 0, .int .i64 0, .int .i64 0, .int .i64 0, .int .i64 0, .int .i64 0, .int .i64 0, .slice none 0 0, .int .i64 0, .int .i64 0, .slice none 0 0, .slice none 0 0, .slice none 0 0, .slice none 0 0, .string ⟨#[]⟩, .int .i64 0, .string ⟨#[]⟩, .int .i64 0, .slice none 0 0, .slice none 0 0, .int .i64 0, .int .i64 0, .slice none 0 0, .int .i64 0, .int .i64 0, .slice none 0 0, .int .i64 0, .int .i64 0, .bool false] 3 oc.toArray.toList = V from by
      rw [← hV]
      have := setMany_list oc zOpC [.int .i64 6, .int .i64 who, .int .i64 0] ([.slice none 0 0] ++ zMsgC ++ [.bool false]) (by rw [HOL.out]; rfl)
      simpa [actC, zOpC, zMsgC] using this)
    have HOI := Lib.hid (show (Tryz.prog.info? 40).map (·.size) = some oc.length from by rw [HOL.out]; kernel_rfl)
    obtain ⟨eb, heb⟩ : ∃ z, (opE op == 0) = z := ⟨_, rfl⟩
    have HEB := Lib.hid heb
    obtain ⟨BL, hBL⟩ : ∃ z, (if opE op = 0 then opB op else []) = z := ⟨_, rfl⟩
    have HBL := Lib.hid hBL
    have HBS := Lib.hid (show BL.length ≤ 1000 from by rw [← hBL]; split; · rename_i h; exact opB_short h
                                                       · simp)
    have HOB := Lib.hid (fun w1 (hb : B w w1) => (show Calls Tryz.prog 66 #[.agg oc.toArray] w1 fun e w' => ∃ v, e = .returned (.tuple #[v, .int .i64 (opE op)]) ∧ St w1 w' [aBy v BL] from by rw [← hBL]; exact opBytes_c (tOp.later HO.out hb) (opB_any HO.out)))
    clear hV heb hBL
    go_wp2_with (first
      | (refine wpList_store_row rfl 61 (.tmp 7) (.tmp 23) rfl w3.heap.size #[.int .i64 6, .int .i64 who, .int .i64 0, .int .i64 0, .string ⟨#[]⟩, .string ⟨#[]⟩, .int .i64 0, .slice none 0 0, .slice none 0 0, .int .i64 0, .int .i64 0, .int .i64 0, .int .i64 0, .int .i64 0, .int .i64 0, .int .i64 0, .int .i64 0, .int .i64 0, .slice none 0 0, .int .i64 0, .int .i64 0, .slice none 0 0, .slice none 0 0, .slice none 0 0, .slice none 0 0, .string ⟨#[]⟩, .int .i64 0, .string ⟨#[]⟩, .int .i64 0, .slice none 0 0, .slice none 0 0, .int .i64 0, .int .i64 0, .slice none 0 0, .int .i64 0, .int .i64 0, .slice none 0 0, .int .i64 0, .int .i64 0, .bool false] rfl rfl 61 #[.int .i64 0, .int .i64 0, .int .i64 0, .int .i64 0, .string ⟨#[]⟩, .string ⟨#[]⟩, .int .i64 0, .slice none 0 0, .slice none 0 0, .int .i64 0, .int .i64 0, .int .i64 0, .int .i64 0, .int .i64 0, .int .i64 0, .int .i64 0, .int .i64 0, .int .i64 0, .slice none 0 0, .int .i64 0, .int .i64 0, .slice none 0 0, .slice none 0 0, .slice none 0 0, .slice none 0 0, .string ⟨#[]⟩, .int .i64 0, .string ⟨#[]⟩, .int .i64 0, .slice none 0 0, .slice none 0 0, .int .i64 0, .int .i64 0, .slice none 0 0, .int .i64 0, .int .i64 0, .slice none 0 0, .int .i64 0, .int .i64 0, .bool false] (aBlk.get HS3.out) (by rw [aInfo]; rfl) rfl H1K.out ?_; have HS4 := Lib.hid (aBlk.setRow HS3.out #[.int .i64 6, .int .i64 who, .int .i64 0, .int .i64 0, .string ⟨#[]⟩, .string ⟨#[]⟩, .int .i64 0, .slice none 0 0, .slice none 0 0, .int .i64 0, .int .i64 0, .int .i64 0, .int .i64 0, .int .i64 0, .int .i64 0, .int .i64 0, .int .i64 0, .int .i64 0, .slice none 0 0, .int .i64 0, .int .i64 0, .slice none 0 0, .slice none 0 0, .slice none 0 0, .slice none 0 0, .string ⟨#[]⟩, .int .i64 0, .string ⟨#[]⟩, .int .i64 0, .slice none 0 0, .slice none 0 0, .int .i64 0, .int .i64 0, .slice none 0 0, .int .i64 0, .int .i64 0, .slice none 0 0, .int .i64 0, .int .i64 0, .bool false]); have k0 := (aBlk.get HS4.out.rot3).cell 0; rw [a0.out] at k0; have k1 := (aBlk.get HS4.out.rot3).cell 1; rw [a1.out] at k1; have k2 := (aBlk.get HS4.out.rot3).cell 2; rw [a2.out] at k2; clear HS3)
      | (refine wpList_load_mid rfl 40 (.tmp 65) rfl w.heap.size 3 rfl oc _ (rangeOf (aBlk.get HS4.out.rot3).cell 3 5 _ HA3.out) Tryz.underlying40 rfl HOI.out ?_)
      | (refine wpList_store_mid rfl 40 (.tmp 67) (.tmp 66) rfl w3.heap.size 3 oc.toArray rfl rfl (there_of HS4.out 3 _ (by simp [HOL.out])) (by rw [HOI.out]; simp) (all_oneCell_toArray HO1.out) ?_; have h6 := aBlk.setCells oc.toArray.toList 3 HS4.out; rw [HKM.out] at h6; have HS6 := Lib.hid h6; clear h6 HS4)
      | (refine wpList_load_mid rfl 40 (.tmp 69) rfl w.heap.size 3 rfl oc _ (rangeOf (aBlk.get HS6.out.rot3).cell 3 5 _ HA3.out) Tryz.underlying40 rfl HOI.out ?_)
      | (go_at_call 66; (with_reducible refine callsM (HOB.out _ HS6.out.on.b) ?_); rintro r w4 ⟨v8, rfl, hS⟩; have HY8 := Lib.hid hS; replace HS6 := Lib.hid (HS6.out.on.later hS.b); clear hS)
      | fail)
    refine wp_region_held_drew (S := KS2 w w3.heap.size V A) (by kernel_rfl) (show St _ _ _ from HS6.out.on.drop2) (fun HS => ?_)
    replace HS := Lib.hid HS
    replace HS6 := Lib.hid (HS6.out.later (Below.refl _ _).drew)
    have HB8 := Lib.hid (show B w4 w4.drew from (Below.refl _ _).drew)
    generalize World.drew _ = W1 at *
    refine anyH_take (i := 0) (d := some 74) (v := .agg V) rfl rfl (by kernel_rfl) (by kernel_rfl) (by kernel_rfl) (fun _ _ _ h => h) rfl (fun w' hS => run_load_op (ty := 61) rfl rfl (actLoad (aBlk.get hS) HVS.out)) HS.out ?_
    simp only [Act.put, List.setIfInBounds_toArray, List.set_cons_zero, List.set_cons_succ]
    refine anyH_take (i := 1) (d := some 75) (v := .string (bstr (Lib.itoa who))) rfl rfl (by kernel_rfl) (by kernel_rfl) (by kernel_rfl) (fun _ _ _ h => h) rfl (fun w' hS => by go_simp) HS.out ?_
    simp only [Act.put, List.setIfInBounds_toArray, List.set_cons_zero, List.set_cons_succ]
    refine anyH_take (i := 2) (d := some 76) (v := v8) rfl rfl (by kernel_rfl) (by kernel_rfl) (by kernel_rfl) (fun _ _ _ h => h) rfl (fun w' hS => by go_simp) HS.out ?_
    simp only [Act.put, List.setIfInBounds_toArray, List.set_cons_zero, List.set_cons_succ]
    refine anyH_take (i := 5) (d := some 79) (v := .int .i64 (opE op)) rfl rfl (by kernel_rfl) (by kernel_rfl) (by kernel_rfl) (fun _ _ _ h => h) rfl (fun w' hS => by go_simp) HS.out ?_
    simp only [Act.put, List.setIfInBounds_toArray, List.set_cons_zero, List.set_cons_succ]
    refine anyH_take (i := 6) (d := some 80) (v := .bool eb) rfl rfl (by kernel_rfl) (by kernel_rfl) (by kernel_rfl) (fun _ _ _ h => h) rfl (fun w' hS => by rw [← HEB.out]; go_simp) HS.out ?_
    simp only [Act.put, List.setIfInBounds_toArray, List.set_cons_zero, List.set_cons_succ]
    refine anyH_callW (i := 3) (d := some 77) (R := fun v w' => v = .string (bstr (hexF BL)) ∧ St w w' [aBlk w3.heap.size 61 V, aBlk (w.heap.size + 1) 61 ZA, aBlk w.heap.size 61 A]) (by kernel_rfl) rfl rfl rfl (by go_simp) ((hex_c ((HY8.out.byBs (by have := HBS.out; unfold big; omega)).later HB8.out) (by have := HBS.out; omega)).mono (by rintro r w' ⟨rfl, hb⟩; exact ⟨_, rfl, rfl, HS6.out.later hb⟩)) (fun v w' h => h.2.drop2) (fun v w5 h => ?_)
    obtain ⟨rfl, hS⟩ := h
    replace HS6 := Lib.hid hS
    clear hS
    simp only [Act.put, List.setIfInBounds_toArray, List.set_cons_zero, List.set_cons_succ]
    have h2 := aBlk.setAll HS6.out.swap (new := V) (by rw [HZS.out, HVS.out])
    have hz : (w5.setCells (w.heap.size + 1) 0 V.toList).heap.size = w5.heap.size := setCells_size _ _
    have h5 := (aStrs.new' h2 [wAsk, Lib.itoa who, hexF BL] (by simp [maxLen]) (cs := #[.string ⟨#[97, 115, 107]⟩, .string (bstr (Lib.itoa who)), .string (bstr (hexF BL))]) rfl (n := 3) (g := w5.heap.size) rfl hz).swap
    have hlz := (aBlk.get HS6.out.swap).lt
    refine anyH_pair (i := 4) (j := 7) (d := 78) (v := .slice (some ⟨w5.heap.size, 0, none⟩) 3 3) (w1 := w5.alloc (.cells #[.string ⟨#[97, 115, 107]⟩, .string (bstr (Lib.itoa who)), .string (bstr (hexF BL))] 9)) (w2 := w5.setCells (w.heap.size + 1) 0 V.toList) (w3 := (w5.setCells (w.heap.size + 1) 0 V.toList).alloc (.cells #[.string ⟨#[97, 115, 107]⟩, .string (bstr (Lib.itoa who)), .string (bstr (hexF BL))] 9)) (by kernel_rfl) rfl rfl rfl rfl rfl (by kernel_rfl) (by kernel_rfl) rfl rfl (by go_simp)
      (by kernel_rfl) (by kernel_rfl) (by rw [← setCells_alloc _ _ hlz]; exact run_store_op (ty := 61) rfl rfl rfl (storeAct (HS6.out.swap.later (B.alloc' _ _)) HZS.out HVS.out H1C.out)) (run_store_op (ty := 61) rfl rfl rfl (storeAct HS6.out.swap HZS.out HVS.out H1C.out)) (by rw [← hz]; clear hz; go_simp)
      (show KS2 w w3.heap.size V A _ from (HS6.out.later (B.alloc' w5 (.cells #[.string ⟨#[97, 115, 107]⟩, .string (bstr (Lib.itoa who)), .string (bstr (hexF BL))] 9))).drop2) (show KS2 w w3.heap.size V A _ from h2.drop) (show KS2 w w3.heap.size V A _ from h5.drop.drop) ?_
    simp only [Act.put, List.setIfInBounds_toArray, List.set_cons_zero, List.set_cons_succ]
    replace HS := Lib.hid (show KS2 w w3.heap.size V A _ from h5.drop.drop)
    have HS5 := Lib.hid h5
    clear h5 h2 hz hlz HS6
    refine anyH_take (i := 8) (d := some 3) (v := .slice (some ⟨w5.heap.size, 0, none⟩) 3 3) rfl rfl (by kernel_rfl) (by kernel_rfl) (by kernel_rfl) (fun _ _ _ h => h) rfl (fun w' hS => by go_simp) HS.out ?_
    simp only [Act.put, List.setIfInBounds_toArray, List.set_cons_zero, List.set_cons_succ]
    refine anyH_take (i := 9) (d := some 4) (v := .bool eb) rfl rfl (by kernel_rfl) (by kernel_rfl) (by kernel_rfl) (fun _ _ _ h => h) rfl (fun w' hS => by go_simp) HS.out ?_
    simp only [Act.put, List.setIfInBounds_toArray, List.set_cons_zero, List.set_cons_succ]
    refine wpAnyH_done (by kernel_rfl) ?_ _
    go_wp2_with fail
    (try simp only [Exit.inBlock, Exit.then])
    refine bodyPost_ret (results_cell2 rfl _ _ (w.heap.size + 1) _ V _ _ rfl (aBlk.get HS5.out) Tryz.underlying61 rfl (by rw [aInfo, HVS.out])) rfl ?_
    cases eb
    case true =>
      have he0 : opE op = 0 := by have := HEB.out; simpa using this
      have hR := HY.out ⟨⟨by simp, by simp⟩, fun _ => he0, fun h => absurd h (by simp)⟩ (actC 6 who 0 oc (.slice none 0 0) zMsgC false) (.slice (some ⟨w5.heap.size, 0, none⟩) 3 3) _
        (show tAct.rd _ _ _ { zAct with kind := 6, who := who, op := op } from tAct.mk' (s := { zAct with kind := 6, who := who, op := op }) (show (-9223372036854775808 : Int) ≤ 6 ∧ (6 : Int) ≤ 9223372036854775807 from by omega) HBK.out.2.1 (show (-9223372036854775808 : Int) ≤ 0 ∧ (0 : Int) ≤ 9223372036854775807 from by omega) (tOp.later HO.out HS5.out.b) (tY.nil _ _) (zMsg_rd _ _))
        (show St _ _ [aStrs _ [wAsk, Lib.itoa who, hexF (opB op)]] from by have e := HBL.out; rw [if_pos he0] at e; rw [e]; exact HS5.out.drop.drop2.drop2)
      rw [HV.out] at hR
      exact hR
    case false =>
      have he0 : ¬ opE op = 0 := by have := HEB.out; simpa using this
      exact HN.out (fun h => he0 (h.2.1 rfl)) V _ _ HVS.out H1C.out HS5.out.b
  · have H1K := Lib.hid (show (#[.int .i64 10, .int .i64 who, .int .i64 0, .int .i64 0, .string ⟨#[]⟩, .string ⟨#[]⟩, .int .i64 0, .slice none 0 0, .slice none 0 0, .int .i64 0, .int .i64 0, .int .i64 0, .int .i64 0, .int .i64 0, .int .i64 0, .int .i64 0, .int .i64 0, .int .i64 0, .slice none 0 0, .int .i64 0, .int .i64 0, .slice none 0 0, .slice none 0 0, .slice none 0 0, .slice none 0 0, .string ⟨#[]⟩, .int .i64 0, .string ⟨#[]⟩, .int .i64 0, .slice none 0 0, .slice none 0 0, .int .i64 0, .int .i64 0, .slice none 0 0, .int .i64 0, .int .i64 0, .slice none 0 0, .int .i64 0, .int .i64 0, .bool false] : Array Value).all (·.oneCell') = true from by simp [Value.oneCell'])
    have HS3 := Lib.hid (show St w (w3.alloc (.cells #[.int .i64 0, .int .i64 0, .int .i64 0, .int .i64 0, .string ⟨#[]⟩, .string ⟨#[]⟩, .int .i64 0, .slice none 0 0, .slice none 0 0, .int .i64 0, .int .i64 0, .int .i64 0, .int .i64 0, .int .i64 0, .int .i64 0, .int .i64 0, .int .i64 0, .int .i64 0, .slice none 0 0, .int .i64 0, .int .i64 0, .slice none 0 0, .slice none 0 0, .slice none 0 0, .slice none 0 0, .string ⟨#[]⟩, .int .i64 0, .string ⟨#[]⟩, .int .i64 0, .slice none 0 0, .slice none 0 0, .int .i64 0, .int .i64 0, .slice none 0 0, .int .i64 0, .int .i64 0, .slice none 0 0, .int .i64 0, .int .i64 0, .bool false] 61)) [aBlk w3.heap.size 61 #[.int .i64 0, .int .i64 0, .int .i64 0, .int .i64 0, .string ⟨#[]⟩, .string ⟨#[]⟩, .int .i64 0, .slice none 0 0, .slice none 0 0, .int .i64 0, .int .i64 0, .int .i64 0, .int .i64 0, .int .i64 0, .int .i64 0, .int .i64 0, .int .i64 0, .int .i64 0, .slice none 0 0, .int .i64 0, .int .i64 0, .slice none 0 0, .slice none 0 0, .slice none 0 0, .slice none 0 0, .string ⟨#[]⟩, .int .i64 0, .string ⟨#[]⟩, .int .i64 0, .slice none 0 0, .slice none 0 0, .int .i64 0, .int .i64 0, .slice none 0 0, .int .i64 0, .int .i64 0, .slice none 0 0, .int .i64 0, .int .i64 0, .bool false], aBlk (w.heap.size + 1) 61 ZA, aBlk w.heap.size 61 A] from aBlk.new (show St _ _ _ from HS.out) _ _)
    clear HS
    obtain ⟨V, hV⟩ : ∃ V, (actC 10 0 0 zOpC (.slice bA bytes.length bc) zMsgC false).toArray = V := ⟨_, rfl⟩
    have HV := Lib.hid hV
    have HVS := Lib.hid (show V.size = 40 from by rw [← hV]; rfl)
    have H1C := Lib.hid (show V.all (·.oneCell') = true from by rw [← hV]; simp [actC, zOpC, zMsgC, Value.oneCell'])
    clear hV
    go_wp2_with (first
      | (refine wpList_store_row rfl 61 (.tmp 7) (.tmp 23) rfl w3.heap.size #[.int .i64 10, .int .i64 who, .int .i64 0, .int .i64 0, .string ⟨#[]⟩, .string ⟨#[]⟩, .int .i64 0, .slice none 0 0, .slice none 0 0, .int .i64 0, .int .i64 0, .int .i64 0, .int .i64 0, .int .i64 0, .int .i64 0, .int .i64 0, .int .i64 0, .int .i64 0, .slice none 0 0, .int .i64 0, .int .i64 0, .slice none 0 0, .slice none 0 0, .slice none 0 0, .slice none 0 0, .string ⟨#[]⟩, .int .i64 0, .string ⟨#[]⟩, .int .i64 0, .slice none 0 0, .slice none 0 0, .int .i64 0, .int .i64 0, .slice none 0 0, .int .i64 0, .int .i64 0, .slice none 0 0, .int .i64 0, .int .i64 0, .bool false] rfl rfl 61 #[.int .i64 0, .int .i64 0, .int .i64 0, .int .i64 0, .string ⟨#[]⟩, .string ⟨#[]⟩, .int .i64 0, .slice none 0 0, .slice none 0 0, .int .i64 0, .int .i64 0, .int .i64 0, .int .i64 0, .int .i64 0, .int .i64 0, .int .i64 0, .int .i64 0, .int .i64 0, .slice none 0 0, .int .i64 0, .int .i64 0, .slice none 0 0, .slice none 0 0, .slice none 0 0, .slice none 0 0, .string ⟨#[]⟩, .int .i64 0, .string ⟨#[]⟩, .int .i64 0, .slice none 0 0, .slice none 0 0, .int .i64 0, .int .i64 0, .slice none 0 0, .int .i64 0, .int .i64 0, .slice none 0 0, .int .i64 0, .int .i64 0, .bool false] (aBlk.get HS3.out) (by rw [aInfo]; rfl) rfl H1K.out ?_; have HS4 := Lib.hid (aBlk.setRow HS3.out #[.int .i64 10, .int .i64 who, .int .i64 0, .int .i64 0, .string ⟨#[]⟩, .string ⟨#[]⟩, .int .i64 0, .slice none 0 0, .slice none 0 0, .int .i64 0, .int .i64 0, .int .i64 0, .int .i64 0, .int .i64 0, .int .i64 0, .int .i64 0, .int .i64 0, .int .i64 0, .slice none 0 0, .int .i64 0, .int .i64 0, .slice none 0 0, .slice none 0 0, .slice none 0 0, .slice none 0 0, .string ⟨#[]⟩, .int .i64 0, .string ⟨#[]⟩, .int .i64 0, .slice none 0 0, .slice none 0 0, .int .i64 0, .int .i64 0, .slice none 0 0, .int .i64 0, .int .i64 0, .slice none 0 0, .int .i64 0, .int .i64 0, .bool false]); have k0 := (aBlk.get HS4.out.rot3).cell 0; rw [a0.out] at k0; have k1 := (aBlk.get HS4.out.rot3).cell 1; rw [a1.out] at k1; have k2 := (aBlk.get HS4.out.rot3).cell 2; rw [a2.out] at k2; clear HS3)
      | fail)
    refine wp_region_held_drew (S := KS3 w A) (by kernel_rfl) (show St _ _ _ from HS4.out.on.drop.drop) (fun HS => ?_)
    replace HS := Lib.hid HS
    have HS6 := Lib.hid (HS4.out.drop.later (Below.refl _ _).drew)
    clear HS4
    generalize World.drew _ = W1 at *
    refine anyH_take (i := 0) (d := some 102) (v := .pointer (some ⟨w.heap.size, 0, none⟩)) rfl rfl (by kernel_rfl) (by kernel_rfl) (by kernel_rfl) (fun _ _ _ h => h) rfl (fun w' hS => by go_simp) HS.out ?_
    simp only [Act.put, List.setIfInBounds_toArray, List.set_cons_zero, List.set_cons_succ]
    refine anyH_take (i := 1) (d := some 103) (v := .int .i64 10) rfl rfl (by kernel_rfl) (by kernel_rfl) (by kernel_rfl) (fun _ _ _ h => h) rfl (fun w' hS => run_load_op (ty := 3) rfl rfl (load1 (by rw [(aBlk.get hS).cell 0]; exact a0.out) Tryz.underlying3 rfl)) HS.out ?_
    simp only [Act.put, List.setIfInBounds_toArray, List.set_cons_zero, List.set_cons_succ]
    refine anyH_take (i := 2) (d := some 104) (v := .pointer (some ⟨w.heap.size, 8, none⟩)) rfl rfl (by kernel_rfl) (by kernel_rfl) (by kernel_rfl) (fun _ _ _ h => h) rfl (fun w' hS => by go_simp) HS.out ?_
    simp only [Act.put, List.setIfInBounds_toArray, List.set_cons_zero, List.set_cons_succ]
    refine anyH_take (i := 3) (d := some 105) (v := .slice bA bytes.length bc) rfl rfl (by kernel_rfl) (by kernel_rfl) (by kernel_rfl) (fun _ _ _ h => h) rfl (fun w' hS => run_load_op (ty := 26) rfl rfl (load1 (by rw [(aBlk.get hS).cell 8]; exact a8.out) Tryz.underlying26 rfl)) HS.out ?_
    simp only [Act.put, List.setIfInBounds_toArray, List.set_cons_zero, List.set_cons_succ]
    refine anyH_take (i := 4) (d := some 106) (v := .agg V) rfl rfl (by kernel_rfl) (by kernel_rfl) (by kernel_rfl) (fun _ _ _ h => h) rfl (fun w' hS => by rw [← HV.out]; go_simp; rfl) HS.out ?_
    simp only [Act.put, List.setIfInBounds_toArray, List.set_cons_zero, List.set_cons_succ]
    refine anyH_take (i := 5) (d := some 107) (v := .pointer (some ⟨w.heap.size, 8, none⟩)) rfl rfl (by kernel_rfl) (by kernel_rfl) (by kernel_rfl) (fun _ _ _ h => h) rfl (fun w' hS => by go_simp) HS.out ?_
    simp only [Act.put, List.setIfInBounds_toArray, List.set_cons_zero, List.set_cons_succ]
    refine anyH_take (i := 6) (d := some 108) (v := .slice bA bytes.length bc) rfl rfl (by kernel_rfl) (by kernel_rfl) (by kernel_rfl) (fun _ _ _ h => h) rfl (fun w' hS => run_load_op (ty := 26) rfl rfl (load1 (by rw [(aBlk.get hS).cell 8]; exact a8.out) Tryz.underlying26 rfl)) HS.out ?_
    simp only [Act.put, List.setIfInBounds_toArray, List.set_cons_zero, List.set_cons_succ]
    refine anyH_callW (i := 7) (d := some 109) (R := fun v w' => v = .string (bstr (hexF bytes)) ∧ St w w' [aBlk (w.heap.size + 1) 61 ZA, aBlk w.heap.size 61 A]) (by kernel_rfl) rfl rfl rfl (by go_simp) ((hex_c ((tY.bs HB.out).later HS6.out.b) (tY.le HB.out)).mono (by rintro r w' ⟨rfl, hb⟩; exact ⟨_, rfl, rfl, HS6.out.later hb⟩)) (fun v w' h => h.2.drop) (fun v w5 h => ?_)
    obtain ⟨rfl, hS⟩ := h
    replace HS6 := Lib.hid hS
    clear hS
    simp only [Act.put, List.setIfInBounds_toArray, List.set_cons_zero, List.set_cons_succ]
    have h2 := aBlk.setAll HS6.out (new := V) (by rw [HZS.out, HVS.out])
    have hz : (w5.setCells (w.heap.size + 1) 0 V.toList).heap.size = w5.heap.size := setCells_size _ _
    have h5 := (aStrs.new' h2 [wHash, hexF bytes] (by simp [maxLen]) (cs := #[.string ⟨#[104, 97, 115, 104]⟩, .string (bstr (hexF bytes))]) rfl (n := 2) (g := w5.heap.size) rfl hz).swap
    have hlz := (aBlk.get HS6.out).lt
    refine anyH_pair (i := 8) (j := 9) (d := 110) (v := .slice (some ⟨w5.heap.size, 0, none⟩) 2 2) (w1 := w5.alloc (.cells #[.string ⟨#[104, 97, 115, 104]⟩, .string (bstr (hexF bytes))] 9)) (w2 := w5.setCells (w.heap.size + 1) 0 V.toList) (w3 := (w5.setCells (w.heap.size + 1) 0 V.toList).alloc (.cells #[.string ⟨#[104, 97, 115, 104]⟩, .string (bstr (hexF bytes))] 9)) (by kernel_rfl) rfl rfl rfl rfl rfl (by kernel_rfl) (by kernel_rfl) rfl rfl (by go_simp)
      (by kernel_rfl) (by kernel_rfl) (by rw [← setCells_alloc _ _ hlz]; exact run_store_op (ty := 61) rfl rfl rfl (storeAct (HS6.out.later (B.alloc' _ _)) HZS.out HVS.out H1C.out)) (run_store_op (ty := 61) rfl rfl rfl (storeAct HS6.out HZS.out HVS.out H1C.out)) (by rw [← hz]; clear hz; go_simp)
      (show KS3 w A _ from (HS6.out.later (B.alloc' w5 (.cells #[.string ⟨#[104, 97, 115, 104]⟩, .string (bstr (hexF bytes))] 9))).drop) (show KS3 w A _ from h2.drop) (show KS3 w A _ from h5.drop.drop) ?_
    simp only [Act.put, List.setIfInBounds_toArray, List.set_cons_zero, List.set_cons_succ]
    replace HS := Lib.hid (show KS3 w A _ from h5.drop.drop)
    have HS5 := Lib.hid h5
    clear h5 h2 hz hlz HS6
    refine anyH_take (i := 10) (d := some 3) (v := .slice (some ⟨w5.heap.size, 0, none⟩) 2 2) rfl rfl (by kernel_rfl) (by kernel_rfl) (by kernel_rfl) (fun _ _ _ h => h) rfl (fun w' hS => by go_simp) HS.out ?_
    simp only [Act.put, List.setIfInBounds_toArray, List.set_cons_zero, List.set_cons_succ]
    refine anyH_take (i := 11) (d := some 4) (v := .bool true) rfl rfl (by kernel_rfl) (by kernel_rfl) (by kernel_rfl) (fun _ _ _ h => h) rfl (fun w' hS => by go_simp) HS.out ?_
    simp only [Act.put, List.setIfInBounds_toArray, List.set_cons_zero, List.set_cons_succ]
    refine wpAnyH_done (by kernel_rfl) ?_ _
    go_wp2_with fail
    (try simp only [Exit.inBlock, Exit.then])
    refine bodyPost_ret (results_cell2 rfl _ _ (w.heap.size + 1) _ V _ _ rfl (aBlk.get HS5.out) Tryz.underlying61 rfl (by rw [aInfo, HVS.out])) rfl ?_
    have hR := HY.out ⟨⟨by simp, by simp⟩, fun h => absurd h (by simp), fun h => absurd h (by simp)⟩ (actC 10 0 0 zOpC (.slice bA bytes.length bc) zMsgC false) _ _
      (show tAct.rd _ _ _ { zAct with kind := 10, bytes := bytes } from tAct.mk' (s := { zAct with kind := 10, bytes := bytes }) (show (-9223372036854775808 : Int) ≤ 10 ∧ (10 : Int) ≤ 9223372036854775807 from by omega) (show (-9223372036854775808 : Int) ≤ 0 ∧ (0 : Int) ≤ 9223372036854775807 from by omega) (show (-9223372036854775808 : Int) ≤ 0 ∧ (0 : Int) ≤ 9223372036854775807 from by omega) (zOp_rd _ _) (tY.later HB.out HS5.out.b) (zMsg_rd _ _))
      (show St _ _ [aStrs _ [wHash, hexF bytes]] from HS5.out.drop.drop2)
    rw [HV.out] at hR
    exact hR
end Go.Proofs.YtafomdobfmmleaaGreatDoor

/- script.keep, some ways (printed by gen_nd.py). -/
namespace Go.Proofs.YtafomdobfmmleaaGreatDoor
open Go.RowKit Go.Deep
set_option linter.unusedVariables false

set_option maxRecDepth 20000 in
set_option maxHeartbeats 16000000 in
theorem keepE {w : World} {R : Ending → World → Prop} {kind who num : Int} {op : OpD} {bytes : List UInt8} {msg : MsgD} {sl : Bool} {oc mc : List Value} {b : Value} (hT : TabW w)
    (bk : (-9223372036854775808 ≤ kind ∧ kind ≤ 9223372036854775807) ∧ (-9223372036854775808 ≤ who ∧ who ≤ 9223372036854775807) ∧ (-9223372036854775808 ≤ num ∧ num ≤ 9223372036854775807))
    (ho : tOp.rd (fun _ => True) w oc op) (hb : tY.rd (fun _ => True) w [b] bytes) (hm : tMsg.rd (fun _ => True) w mc msg)
    (hY : keepOk ⟨kind, who, num, op, bytes, msg, sl⟩ → ∀ ds v w', tAct.rd (fun _ => True) w' ds (keepF ⟨kind, who, num, op, bytes, msg, sl⟩) → St w w' [aStrs v (keepW ⟨kind, who, num, op, bytes, msg, sl⟩)] → R (.returned (.tuple #[.agg ds.toArray, v, .bool true])) w')
    (hN : ¬ keepOk ⟨kind, who, num, op, bytes, msg, sl⟩ → ∀ (U : Array Value) v w', U.size = 40 → U.all (·.oneCell') = true → B w w' → R (.returned (.tuple #[.agg U, v, .bool false])) w')
    (hk : kind = 11 ∨ ¬ (1 ≤ kind ∧ kind ≤ 12)) : Calls Tryz.prog 42 #[.agg (actC kind who num oc b mc sl).toArray] w R := by
  obtain ⟨bA, bc, rfl⟩ : ∃ bA bc, b = .slice bA bytes.length bc := by
    obtain ⟨u, hu, hbs, _⟩ := hb
    injection hu with hu _
    subst hu
    obtain ⟨A1, c1, e1⟩ := hbs.rd.slice
    exact ⟨A1, c1, e1⟩
  have hol : oc.length = 5 := tOp.len ho
  have hml : mc.length = 30 := by have := tMsg.len hm; simpa using this
  obtain ⟨A, hA⟩ : ∃ A, (actC kind who num oc (.slice bA bytes.length bc) mc sl).toArray = A := ⟨_, rfl⟩
  obtain ⟨ZA, hZA⟩ : ∃ ZA, (actC 0 0 0 zOpC (.slice none 0 0) zMsgC false).toArray = ZA := ⟨_, rfl⟩
  have HAS := Lib.hid (show A.size = 40 from by rw [← hA]; simp [actC, hol, hml])
  have HZS := Lib.hid (show ZA.size = 40 from by rw [← hZA]; rfl)
  have a0 := Lib.hid (show A[0]? = some (.int .i64 kind) from by rw [← hA]; rfl)
  have a1 := Lib.hid (show A[1]? = some (.int .i64 who) from by rw [← hA]; rfl)
  have a8 := Lib.hid (show A[8]? = some (.slice bA bytes.length bc) from by rw [← hA]; simp [actC, hol])
  have HA3 := Lib.hid (show (A.toList.drop 3).take 5 = oc from by rw [← hA]; simp [actC, hol])
  have HA9 := Lib.hid (show (A.toList.drop 9).take 30 = mc from by rw [← hA]; simp [actC, List.drop_append, List.take_append, hol, hml])
  have a39 := Lib.hid (show A[39]? = some (.bool sl) from by rw [← hA]; simp [actC, hol, hml])
  have HOL := Lib.hid hol
  have HML := Lib.hid hml
  have a2 := Lib.hid (show A[2]? = some (.int .i64 num) from by rw [← hA]; rfl)
  have HO := Lib.hid ho
  have HB := Lib.hid hb
  have HM := Lib.hid hm
  have HY := Lib.hid hY
  have HN := Lib.hid hN
  have HT := Lib.hid hT
  have HBK := Lib.hid bk
  have HAA := Lib.hid hA
  have HZA := Lib.hid hZA
  rw [hA]
  have HS := Lib.hid (show KS0 w ZA A ((w.alloc (.cells A 61)).alloc (.cells #[.int .i64 0, .int .i64 0, .int .i64 0, .int .i64 0, .string ⟨#[]⟩, .string ⟨#[]⟩, .int .i64 0, .slice none 0 0, .slice none 0 0, .int .i64 0, .int .i64 0, .int .i64 0, .int .i64 0, .int .i64 0, .int .i64 0, .int .i64 0, .int .i64 0, .int .i64 0, .slice none 0 0, .int .i64 0, .int .i64 0, .slice none 0 0, .slice none 0 0, .slice none 0 0, .slice none 0 0, .string ⟨#[]⟩, .int .i64 0, .string ⟨#[]⟩, .int .i64 0, .slice none 0 0, .slice none 0 0, .int .i64 0, .int .i64 0, .slice none 0 0, .int .i64 0, .int .i64 0, .slice none 0 0, .int .i64 0, .int .i64 0, .bool false] 61)) from by
    have h := aBlk.new (aBlk.new (St.nil w) 61 A) 61 ZA
    rw [show (w.alloc (.cells A 61)).heap.size = w.heap.size + 1 from by simp] at h
    rw [← hZA] at h ⊢
    exact h)
  clear hA hZA ho hb hm hY hN hT bk hol hml
  go_enter Tryz.func42, Tryz.ntmps42
  go_wp2_with fail
  refine wp_region_held_drew (S := KS0 w ZA A) (by kernel_rfl) (show St _ _ _ from St.on (show St _ _ _ from HS.out)) (fun HS => ?_)
  replace HS := Lib.hid HS
  generalize World.drew _ = W1 at *
  refine anyH_take (i := 0) (d := some 13) (v := .pointer (some ⟨w.heap.size, 2, none⟩)) rfl rfl (by kernel_rfl) (by kernel_rfl) (by kernel_rfl) (fun _ _ _ h => h) rfl (fun w' hS => by go_simp) HS.out ?_
  simp only [Act.put, List.setIfInBounds_toArray, List.set_cons_zero, List.set_cons_succ]
  refine anyH_take (i := 1) (d := some 14) (v := .int .i64 num) rfl rfl (by kernel_rfl) (by kernel_rfl) (by kernel_rfl) (fun _ _ _ h => h) rfl (fun w' hS => run_load_op (ty := 3) rfl rfl (load1 (by rw [(aBlk.get (St.swap hS)).cell 2]; exact a2.out) Tryz.underlying3 rfl)) HS.out ?_
  simp only [Act.put, List.setIfInBounds_toArray, List.set_cons_zero, List.set_cons_succ]
  refine anyH_take (i := 3) (d := some 16) (v := .pointer (some ⟨w.heap.size, 1, none⟩)) rfl rfl (by kernel_rfl) (by kernel_rfl) (by kernel_rfl) (fun _ _ _ h => h) rfl (fun w' hS => by go_simp) HS.out ?_
  simp only [Act.put, List.setIfInBounds_toArray, List.set_cons_zero, List.set_cons_succ]
  refine anyH_take (i := 4) (d := some 17) (v := .int .i64 who) rfl rfl (by kernel_rfl) (by kernel_rfl) (by kernel_rfl) (fun _ _ _ h => h) rfl (fun w' hS => run_load_op (ty := 3) rfl rfl (load1 (by rw [(aBlk.get (St.swap hS)).cell 1]; exact a1.out) Tryz.underlying3 rfl)) HS.out ?_
  simp only [Act.put, List.setIfInBounds_toArray, List.set_cons_zero, List.set_cons_succ]
  refine anyH_call (i := 2) (d := some 15) (v := .string (bstr (Lib.itoa num))) (by kernel_rfl) rfl rfl rfl (by go_simp) (num_c (HT.out.later (St.b HS.out)) HBK.out.2.2) (fun w' hb => St.later HS.out hb) (fun w2 HS => ?_)
  replace HS := Lib.hid HS
  simp only [Act.put, List.setIfInBounds_toArray, List.set_cons_zero, List.set_cons_succ]
  refine anyH_call (i := 5) (d := some 18) (v := .string (bstr (Lib.itoa who))) (by kernel_rfl) rfl rfl rfl (by go_simp) (num_c (HT.out.later (St.b HS.out)) HBK.out.2.1) (fun w' hb => St.later HS.out hb) (fun w3 HS => ?_)
  replace HS := Lib.hid HS
  simp only [Act.put, List.setIfInBounds_toArray, List.set_cons_zero, List.set_cons_succ]
  refine anyH_take (i := 6) (d := some 5) (v := .string (bstr (Lib.itoa num))) rfl rfl (by kernel_rfl) (by kernel_rfl) (by kernel_rfl) (fun _ _ _ h => h) rfl (fun w' hS => by go_simp) HS.out ?_
  simp only [Act.put, List.setIfInBounds_toArray, List.set_cons_zero, List.set_cons_succ]
  refine anyH_take (i := 7) (d := some 6) (v := .string (bstr (Lib.itoa who))) rfl rfl (by kernel_rfl) (by kernel_rfl) (by kernel_rfl) (fun _ _ _ h => h) rfl (fun w' hS => by go_simp) HS.out ?_
  simp only [Act.put, List.setIfInBounds_toArray, List.set_cons_zero, List.set_cons_succ]
  refine wpAnyH_done (by kernel_rfl) ?_ _
  have k0 : w3.cell? ⟨w.heap.size, 0, none⟩ = some (.int .i64 kind) := by rw [(aBlk.get (St.swap HS.out)).cell 0]; exact a0.out
  have k1 : w3.cell? ⟨w.heap.size, 1, none⟩ = some (.int .i64 who) := by rw [(aBlk.get (St.swap HS.out)).cell 1]; exact a1.out
  have k2 : w3.cell? ⟨w.heap.size, 2, none⟩ = some (.int .i64 num) := by rw [(aBlk.get (St.swap HS.out)).cell 2]; exact a2.out
  have kL := (aBlk.get (St.swap HS.out)).lt
  rcases hk with rfl | hk
  · have H1K := Lib.hid (show (#[.int .i64 11, .int .i64 who, .int .i64 0, .int .i64 0, .string ⟨#[]⟩, .string ⟨#[]⟩, .int .i64 0, .slice none 0 0, .slice none 0 0, .int .i64 0, .int .i64 0, .int .i64 0, .int .i64 0, .int .i64 0, .int .i64 0, .int .i64 0, .int .i64 0, .int .i64 0, .slice none 0 0, .int .i64 0, .int .i64 0, .slice none 0 0, .slice none 0 0, .slice none 0 0, .slice none 0 0, .string ⟨#[]⟩, .int .i64 0, .string ⟨#[]⟩, .int .i64 0, .slice none 0 0, .slice none 0 0, .int .i64 0, .int .i64 0, .slice none 0 0, .int .i64 0, .int .i64 0, .slice none 0 0, .int .i64 0, .int .i64 0, .bool false] : Array Value).all (·.oneCell') = true from by simp [Value.oneCell'])
    have HS3 := Lib.hid (show St w (w3.alloc (.cells #[.int .i64 0, .int .i64 0, .int .i64 0, .int .i64 0, .string ⟨#[]⟩, .string ⟨#[]⟩, .int .i64 0, .slice none 0 0, .slice none 0 0, .int .i64 0, .int .i64 0, .int .i64 0, .int .i64 0, .int .i64 0, .int .i64 0, .int .i64 0, .int .i64 0, .int .i64 0, .slice none 0 0, .int .i64 0, .int .i64 0, .slice none 0 0, .slice none 0 0, .slice none 0 0, .slice none 0 0, .string ⟨#[]⟩, .int .i64 0, .string ⟨#[]⟩, .int .i64 0, .slice none 0 0, .slice none 0 0, .int .i64 0, .int .i64 0, .slice none 0 0, .int .i64 0, .int .i64 0, .slice none 0 0, .int .i64 0, .int .i64 0, .bool false] 61)) [aBlk w3.heap.size 61 #[.int .i64 0, .int .i64 0, .int .i64 0, .int .i64 0, .string ⟨#[]⟩, .string ⟨#[]⟩, .int .i64 0, .slice none 0 0, .slice none 0 0, .int .i64 0, .int .i64 0, .int .i64 0, .int .i64 0, .int .i64 0, .int .i64 0, .int .i64 0, .int .i64 0, .int .i64 0, .slice none 0 0, .int .i64 0, .int .i64 0, .slice none 0 0, .slice none 0 0, .slice none 0 0, .slice none 0 0, .string ⟨#[]⟩, .int .i64 0, .string ⟨#[]⟩, .int .i64 0, .slice none 0 0, .slice none 0 0, .int .i64 0, .int .i64 0, .slice none 0 0, .int .i64 0, .int .i64 0, .slice none 0 0, .int .i64 0, .int .i64 0, .bool false], aBlk (w.heap.size + 1) 61 ZA, aBlk w.heap.size 61 A] from aBlk.new (show St _ _ _ from HS.out) _ _)
    clear HS
    obtain ⟨V, hV⟩ : ∃ V, (actC 11 who 0 zOpC (.slice none 0 0) mc sl).toArray = V := ⟨_, rfl⟩
    have HV := Lib.hid hV
    have HVS := Lib.hid (show V.size = 40 from by rw [← hV]; simp [actC, zOpC, HML.out])
    have HM1 := Lib.hid (tMsg.one HM.out)
    have H1C := Lib.hid (show V.all (·.oneCell') = true from by
      rw [← hV]
      have := HM1.out
      simp only [List.all_toArray, actC, List.all_append, List.all_eq_true.2 this, zOpC]
      simp [Value.oneCell'])
    have HKM := Lib.hid (show (setMany (#[.int .i64 11, .int .i64 who, .int .i64 0, .int .i64 0, .string ⟨#[]⟩, .string ⟨#[]⟩, .int .i64 0, .slice none 0 0, .slice none 0 0, .int .i64 0, .int .i64 0, .int .i64 0, .int .i64 0, .int .i64 0, .int .i64 0, .int .i64 0, .int .i64 0, .int .i64 0, .slice none 0 0, .int .i64 0, .int .i64 0, .slice none 0 0, .slice none 0 0, .slice none 0 0, .slice none 0 0, .string ⟨#[]⟩, .int .i64 0, .string ⟨#[]⟩, .int .i64 0, .slice none 0 0, .slice none 0 0, .int .i64 0, .int .i64 0, .slice none 0 0, .int .i64 0, .int .i64 0, .slice none 0 0, .int .i64 0, .int .i64 0, .bool false] : Array Value) 9 mc).setIfInBounds 39 (.bool sl) = V from by
      rw [← hV]
      have := setMany_list mc zMsgC ([.int .i64 11, .int .i64 who, .int .i64 0] ++ zOpC ++ [.slice none 0 0]) [.bool false] (by rw [HML.out]; rfl)
      have h2 : setMany (#[.int .i64 11, .int .i64 who, .int .i64 0, .int .i64 0, .string ⟨#[]⟩, .string ⟨#[]⟩, .int .i64 0, .slice none 0 0, .slice none 0 0, .int .i64 0, .int .i64 0, .int .i64 0, .int .i64 0, .int .i64 0, .int .i64 0, .int .i64 0, .int .i64 0, .int .i64 0, .slice none 0 0, .int .i64 0, .int .i64 0, .slice none 0 0, .slice none 0 0, .slice none 0 0, .slice none 0 0, .string ⟨#[]⟩, .int .i64 0, .string ⟨#[]⟩, .int .i64 0, .slice none 0 0, .slice none 0 0, .int .i64 0, .int .i64 0, .slice none 0 0, .int .i64 0, .int .i64 0, .slice none 0 0, .int .i64 0, .int .i64 0, .bool false] : Array Value) 9 mc = (([.int .i64 11, .int .i64 who, .int .i64 0] : List Value) ++ zOpC ++ [Value.slice none 0 0] ++ mc ++ [Value.bool false]).toArray := by simpa [actC, zOpC, zMsgC] using this
      rw [h2]
      simp [actC, zOpC, HML.out])
    have HKS := Lib.hid (show (setMany (#[.int .i64 11, .int .i64 who, .int .i64 0, .int .i64 0, .string ⟨#[]⟩, .string ⟨#[]⟩, .int .i64 0, .slice none 0 0, .slice none 0 0, .int .i64 0, .int .i64 0, .int .i64 0, .int .i64 0, .int .i64 0, .int .i64 0, .int .i64 0, .int .i64 0, .int .i64 0, .slice none 0 0, .int .i64 0, .int .i64 0, .slice none 0 0, .slice none 0 0, .slice none 0 0, .slice none 0 0, .string ⟨#[]⟩, .int .i64 0, .string ⟨#[]⟩, .int .i64 0, .slice none 0 0, .slice none 0 0, .int .i64 0, .int .i64 0, .slice none 0 0, .int .i64 0, .int .i64 0, .slice none 0 0, .int .i64 0, .int .i64 0, .bool false] : Array Value) 9 mc).size = 40 from by have := HKM.out; have h2 := HVS.out; rw [← this] at h2; simpa using h2)
    have HMI := Lib.hid (show (Tryz.prog.info? 59).map (·.size) = some mc.length from by rw [HML.out]; kernel_rfl)
    obtain ⟨okb, L, hPM, hok, hno⟩ : ∃ (okb : Bool) (L : List (List UInt8)), (∀ w1, B w w1 → Calls Tryz.prog 67 #[.agg mc.toArray] w1 fun r w' => ∃ v, r = .returned (.tuple #[v, .bool okb]) ∧ St w1 w' [aStrs v L]) ∧ (okb = true → wordsOk msg ∧ L = msgW msg) ∧ (okb = false → ¬ wordsOk msg ∧ L = []) := by
      by_cases hw : wordsOk msg
      · refine ⟨true, msgW msg, fun w1 hb => (putMsg_c (tMsg.later HM.out hb)).mono fun r w' h => ?_, fun _ => ⟨hw, rfl⟩, fun h => by cases h⟩
        unfold PutPost at h
        rwa [if_pos hw] at h
      · refine ⟨false, [], fun w1 hb => (putMsg_c (tMsg.later HM.out hb)).mono fun r w' h => ?_, (fun h => by cases h), fun _ => ⟨hw, rfl⟩⟩
        unfold PutPost at h
        rw [if_neg hw] at h
        exact ⟨_, h.1, aStrs.nil ((St.nil w1).later h.2)⟩
    have HPM := Lib.hid hPM
    have HLL := Lib.hid (show L.length ≤ 2 from by cases okb with | false => (rw [(hno rfl).2]; simp) | true => (rw [(hok rfl).2]; simp [msgW]))
    have HOK := Lib.hid hok
    have HNO := Lib.hid hno
    clear hV hPM hok hno
    go_wp2_with (first
      | (refine wpList_store_row rfl 61 (.tmp 7) (.tmp 23) rfl w3.heap.size #[.int .i64 11, .int .i64 who, .int .i64 0, .int .i64 0, .string ⟨#[]⟩, .string ⟨#[]⟩, .int .i64 0, .slice none 0 0, .slice none 0 0, .int .i64 0, .int .i64 0, .int .i64 0, .int .i64 0, .int .i64 0, .int .i64 0, .int .i64 0, .int .i64 0, .int .i64 0, .slice none 0 0, .int .i64 0, .int .i64 0, .slice none 0 0, .slice none 0 0, .slice none 0 0, .slice none 0 0, .string ⟨#[]⟩, .int .i64 0, .string ⟨#[]⟩, .int .i64 0, .slice none 0 0, .slice none 0 0, .int .i64 0, .int .i64 0, .slice none 0 0, .int .i64 0, .int .i64 0, .slice none 0 0, .int .i64 0, .int .i64 0, .bool false] rfl rfl 61 #[.int .i64 0, .int .i64 0, .int .i64 0, .int .i64 0, .string ⟨#[]⟩, .string ⟨#[]⟩, .int .i64 0, .slice none 0 0, .slice none 0 0, .int .i64 0, .int .i64 0, .int .i64 0, .int .i64 0, .int .i64 0, .int .i64 0, .int .i64 0, .int .i64 0, .int .i64 0, .slice none 0 0, .int .i64 0, .int .i64 0, .slice none 0 0, .slice none 0 0, .slice none 0 0, .slice none 0 0, .string ⟨#[]⟩, .int .i64 0, .string ⟨#[]⟩, .int .i64 0, .slice none 0 0, .slice none 0 0, .int .i64 0, .int .i64 0, .slice none 0 0, .int .i64 0, .int .i64 0, .slice none 0 0, .int .i64 0, .int .i64 0, .bool false] (aBlk.get HS3.out) (by rw [aInfo]; rfl) rfl H1K.out ?_; have HS4 := Lib.hid (aBlk.setRow HS3.out #[.int .i64 11, .int .i64 who, .int .i64 0, .int .i64 0, .string ⟨#[]⟩, .string ⟨#[]⟩, .int .i64 0, .slice none 0 0, .slice none 0 0, .int .i64 0, .int .i64 0, .int .i64 0, .int .i64 0, .int .i64 0, .int .i64 0, .int .i64 0, .int .i64 0, .int .i64 0, .slice none 0 0, .int .i64 0, .int .i64 0, .slice none 0 0, .slice none 0 0, .slice none 0 0, .slice none 0 0, .string ⟨#[]⟩, .int .i64 0, .string ⟨#[]⟩, .int .i64 0, .slice none 0 0, .slice none 0 0, .int .i64 0, .int .i64 0, .slice none 0 0, .int .i64 0, .int .i64 0, .slice none 0 0, .int .i64 0, .int .i64 0, .bool false]); have k0 := (aBlk.get HS4.out.rot3).cell 0; rw [a0.out] at k0; have k1 := (aBlk.get HS4.out.rot3).cell 1; rw [a1.out] at k1; have k2 := (aBlk.get HS4.out.rot3).cell 2; rw [a2.out] at k2; clear HS3)
      | fail)
    refine wp_region_held_drew (S := KS3 w A) (by kernel_rfl) (show St _ _ _ from HS4.out.on.drop.drop) (fun HS => ?_)
    replace HS := Lib.hid HS
    have HS6 := Lib.hid (HS4.out.later (Below.refl _ _).drew)
    clear HS4
    generalize World.drew _ = W1 at *
    refine anyH_take (i := 0) (d := some 113) (v := .pointer (some ⟨w.heap.size, 9, none⟩)) rfl rfl (by kernel_rfl) (by kernel_rfl) (by kernel_rfl) (fun _ _ _ h => h) rfl (fun w' hS => by go_simp) HS.out ?_
    simp only [Act.put, List.setIfInBounds_toArray, List.set_cons_zero, List.set_cons_succ]
    refine anyH_take (i := 1) (d := some 114) (v := .agg mc.toArray) rfl rfl (by kernel_rfl) (by kernel_rfl) (by kernel_rfl) (fun _ _ _ h => h) rfl (fun w' hS => run_load_op (ty := 59) rfl rfl (partLoad (aBlk.get hS) HA9.out Tryz.underlying59 rfl HMI.out)) HS.out ?_
    simp only [Act.put, List.setIfInBounds_toArray, List.set_cons_zero, List.set_cons_succ]
    refine anyH_take (i := 2) (d := some 115) (v := .pointer (some ⟨w.heap.size, 39, none⟩)) rfl rfl (by kernel_rfl) (by kernel_rfl) (by kernel_rfl) (fun _ _ _ h => h) rfl (fun w' hS => by go_simp) HS.out ?_
    simp only [Act.put, List.setIfInBounds_toArray, List.set_cons_zero, List.set_cons_succ]
    refine anyH_take (i := 3) (d := some 116) (v := .bool sl) rfl rfl (by kernel_rfl) (by kernel_rfl) (by kernel_rfl) (fun _ _ _ h => h) rfl (fun w' hS => run_load_op (ty := 4) rfl rfl (load1 (by rw [(aBlk.get hS).cell 39]; exact a39.out) Tryz.underlying4 rfl)) HS.out ?_
    simp only [Act.put, List.setIfInBounds_toArray, List.set_cons_zero, List.set_cons_succ]
    refine anyH_take (i := 4) (d := some 117) (v := .pointer (some ⟨w3.heap.size, 9, none⟩)) rfl rfl (by kernel_rfl) (by kernel_rfl) (by kernel_rfl) (fun _ _ _ h => h) rfl (fun w' hS => by go_simp) HS.out ?_
    simp only [Act.put, List.setIfInBounds_toArray, List.set_cons_zero, List.set_cons_succ]
    have h7 := aBlk.setCells mc 9 HS6.out
    refine anyH_st (i := 5) (d := none) (by kernel_rfl) rfl rfl rfl (run_store_op (ty := 59) rfl rfl rfl (run_storeAt_mid W1 w3.heap.size 9 59 mc.toArray (there_of HS6.out 9 _ (by simp [HML.out])) (by rw [HMI.out]; simp) (all_oneCell_toArray HM1.out))) (show KS3 w A _ from h7.drop.drop) ?_
    simp only [Act.put]
    replace HS := Lib.hid (show KS3 w A _ from h7.drop.drop)
    replace HS6 := Lib.hid h7
    clear h7
    generalize W1.setCells w3.heap.size 9 mc.toArray.toList = W2 at *
    refine anyH_take (i := 6) (d := some 118) (v := .pointer (some ⟨w3.heap.size, 39, none⟩)) rfl rfl (by kernel_rfl) (by kernel_rfl) (by kernel_rfl) (fun _ _ _ h => h) rfl (fun w' hS => by go_simp) HS.out ?_
    simp only [Act.put, List.setIfInBounds_toArray, List.set_cons_zero, List.set_cons_succ]
    have h8 := aBlk.set HS6.out 39 (.bool sl)
    rw [HKM.out] at h8
    obtain ⟨u39, hu39⟩ : ∃ u, W2.cell? ⟨w3.heap.size, 39, none⟩ = some u := by rw [(aBlk.get HS6.out).cell 39]; exact ⟨_, Array.getElem?_eq_getElem (by rw [HKS.out]; omega)⟩
    refine anyH_st (i := 7) (d := none) (by kernel_rfl) rfl rfl rfl (run_store_op (ty := 4) rfl rfl rfl (store1 hu39 ((aBlk.get HS6.out).frozen 39))) (show KS3 w A _ from h8.drop.drop) ?_
    simp only [Act.put]
    replace HS := Lib.hid (show KS3 w A _ from h8.drop.drop)
    replace HS6 := Lib.hid h8
    clear h8 hu39
    refine wpAnyH_done (by kernel_rfl) ?_ _
    generalize W2.setCell ⟨w3.heap.size, 39, none⟩ (.bool sl) = W3 at *
    cases sl
    all_goals
      go_wp2_with (first
        | (refine wpList_load_mid rfl 59 (.tmp 120) rfl w.heap.size 9 rfl mc _ (rangeOf (aBlk.get HS6.out.rot3).cell 9 30 _ HA9.out) Tryz.underlying59 rfl HMI.out ?_)
        | (go_at_call 67; (with_reducible refine callsM (HPM.out _ HS6.out.on.b) ?_); rintro r w4 ⟨v10, rfl, hS⟩; replace HS6 := Lib.hid (St.onto HS6.out.on hS); clear hS; have k39 := (aBlk.get HS6.out.drop.rot3).cell 39; rw [a39.out] at k39)
        | fail)
    · refine wp_region_held_drew (S := KS2 w w3.heap.size V A) (by kernel_rfl) (show St _ _ _ from HS6.out.on.drop.drop2) (fun HS => ?_)
      replace HS := Lib.hid HS
      replace HS6 := Lib.hid (HS6.out.later (Below.refl _ _).drew)
      generalize World.drew _ = W4 at *
      refine anyH_take (i := 0) (d := some 127) (v := .agg V) rfl rfl (by kernel_rfl) (by kernel_rfl) (by kernel_rfl) (fun _ _ _ h => h) rfl (fun w' hS => run_load_op (ty := 61) rfl rfl (actLoad (aBlk.get hS) HVS.out)) HS.out ?_
      simp only [Act.put, List.setIfInBounds_toArray, List.set_cons_zero, List.set_cons_succ]
      refine anyH_take (i := 1) (d := some 128) (v := .string ⟨#[115, 101, 110, 100]⟩) rfl rfl (by kernel_rfl) (by kernel_rfl) (by kernel_rfl) (fun _ _ _ h => h) rfl (fun w' hS => by go_simp) HS.out ?_
      simp only [Act.put, List.setIfInBounds_toArray, List.set_cons_zero, List.set_cons_succ]
      refine anyH_take (i := 2) (d := some 129) (v := .string (bstr (Lib.itoa who))) rfl rfl (by kernel_rfl) (by kernel_rfl) (by kernel_rfl) (fun _ _ _ h => h) rfl (fun w' hS => by go_simp) HS.out ?_
      simp only [Act.put, List.setIfInBounds_toArray, List.set_cons_zero, List.set_cons_succ]
      refine anyH_take (i := 4) (d := some 131) (v := v10) rfl rfl (by kernel_rfl) (by kernel_rfl) (by kernel_rfl) (fun _ _ _ h => h) rfl (fun w' hS => by go_simp) HS.out ?_
      simp only [Act.put, List.setIfInBounds_toArray, List.set_cons_zero, List.set_cons_succ]
      refine anyH_take (i := 6) (d := some 133) (v := .bool okb) rfl rfl (by kernel_rfl) (by kernel_rfl) (by kernel_rfl) (fun _ _ _ h => h) rfl (fun w' hS => by go_simp) HS.out ?_
      simp only [Act.put, List.setIfInBounds_toArray, List.set_cons_zero, List.set_cons_succ]
      have h5 := aStrs.new HS6.out [wSend, Lib.itoa who] (by simp [maxLen]) (cs := #[.string ⟨#[115, 101, 110, 100]⟩, .string (bstr (Lib.itoa who))]) rfl (n := 2) rfl
      refine anyH_do (i := 3) (d := some 130) (v := .slice (some ⟨W4.heap.size, 0, none⟩) 2 2) (w' := W4.alloc (.cells #[.string ⟨#[115, 101, 110, 100]⟩, .string (bstr (Lib.itoa who))] 9)) (by kernel_rfl) rfl rfl rfl (by go_simp) (show KS2 w w3.heap.size V A _ from h5.drop.drop.drop2) ?_
      simp only [Act.put, List.setIfInBounds_toArray, List.set_cons_zero, List.set_cons_succ]
      replace HS := Lib.hid (show KS2 w w3.heap.size V A _ from h5.drop.drop.drop2)
      replace HS6 := Lib.hid h5
      clear h5
      refine anyH_append (W := w) (i := 5) (d := 132) (by kernel_rfl) rfl rfl rfl (.tmp 130) (.tmp 131) 78 rfl Tryz.underlying78 infoS rfl Nat.zero_lt_one rfl rfl (n := 2) (m := L.length) (xs := strC [wSend, Lib.itoa who]) (news := strC L) (show St w _ (aRow 9 1 _ 2 (strC [wSend, Lib.itoa who]) :: _) from HS6.out) (St.rowRd' (show St w _ (aRow 9 1 v10 L.length (strC L) :: _) from HS6.out.swap)) (strC_one L) (by have := HLL.out; unfold maxLen; omega) (by have := HLL.out; omega) (fun A1 c1 w' hS => (show KS2 w w3.heap.size V A _ from hS.drop.drop.drop2)) (fun A1 c1 w6 hS => ?_)
      replace HS := Lib.hid (show KS2 w w3.heap.size V A _ from hS.drop.drop.drop2)
      have h6 : St w w6 (aStrs (.slice A1 (2 + L.length) c1) ([wSend, Lib.itoa who] ++ L) :: _) := (show St w w6 (aRow 9 1 (.slice A1 (2 + L.length) c1) ([wSend, Lib.itoa who] ++ L).length (strC ([wSend, Lib.itoa who] ++ L)) :: _) from by
        have e1 : ([wSend, Lib.itoa who] ++ L).length = 2 + L.length := by simp; omega
        have e2 : strC ([wSend, Lib.itoa who] ++ L) = strC [wSend, Lib.itoa who] ++ strC L := by simp [strC]
        rw [e1, e2]
        exact hS)
      simp only [Act.put, List.setIfInBounds_toArray, List.set_cons_zero, List.set_cons_succ]
      have h7 := (aBlk.setAll h6.drop2.rot3 (new := V) (by rw [HZS.out, HVS.out]))
      refine anyH_st (i := 7) (d := none) (by kernel_rfl) rfl rfl rfl (run_store_op (ty := 61) rfl rfl rfl (storeAct h6.drop2.rot3 HZS.out HVS.out H1C.out)) (show KS2 w w3.heap.size V A _ from h7.drop.drop) ?_
      simp only [Act.put]
      replace HS := Lib.hid (show KS2 w w3.heap.size V A _ from h7.drop.drop)
      replace HS6 := Lib.hid h7
      clear h7 h6 hS
      refine anyH_take (i := 8) (d := some 3) (v := .slice A1 (2 + L.length) c1) rfl rfl (by kernel_rfl) (by kernel_rfl) (by kernel_rfl) (fun _ _ _ h => h) rfl (fun w' hS => by go_simp) HS.out ?_
      simp only [Act.put, List.setIfInBounds_toArray, List.set_cons_zero, List.set_cons_succ]
      refine anyH_take (i := 9) (d := some 4) (v := .bool okb) rfl rfl (by kernel_rfl) (by kernel_rfl) (by kernel_rfl) (fun _ _ _ h => h) rfl (fun w' hS => by go_simp) HS.out ?_
      simp only [Act.put, List.setIfInBounds_toArray, List.set_cons_zero, List.set_cons_succ]
      refine wpAnyH_done (by kernel_rfl) ?_ _
      go_wp2_with fail
      (try simp only [Exit.inBlock, Exit.then])
      refine bodyPost_ret (results_cell2 rfl _ _ (w.heap.size + 1) _ V _ _ rfl (aBlk.get HS6.out) Tryz.underlying61 rfl (by rw [aInfo, HVS.out])) rfl ?_
      cases okb
      case true =>
        obtain ⟨hw, hL⟩ := HOK.out rfl
        have hR := HY.out ⟨⟨by simp, by simp⟩, fun h => absurd h (by simp), fun _ => hw⟩ (actC 11 who 0 zOpC (.slice none 0 0) mc false) (.slice A1 (2 + L.length) c1) _
          (show tAct.rd _ _ _ { zAct with kind := 11, who := who, msg := msg, sealed := false } from tAct.mk' (s := { zAct with kind := 11, who := who, msg := msg, sealed := false }) (show (-9223372036854775808 : Int) ≤ 11 ∧ (11 : Int) ≤ 9223372036854775807 from by omega) HBK.out.2.1 (show (-9223372036854775808 : Int) ≤ 0 ∧ (0 : Int) ≤ 9223372036854775807 from by omega) (zOp_rd _ _) (tY.nil _ _) (tMsg.later HM.out HS6.out.b))
          (show St _ _ [aStrs _ (wSend :: Lib.itoa who :: msgW msg)] from by rw [← hL]; exact HS6.out.drop.drop2.drop2)
        rw [HV.out] at hR
        exact hR
      case false =>
        exact HN.out (fun h => (HNO.out rfl).1 (h.2.2 rfl)) V _ _ HVS.out H1C.out HS6.out.b
    · refine wp_region_held_drew (S := KS2 w w3.heap.size V A) (by kernel_rfl) (show St _ _ _ from HS6.out.on.drop.drop2) (fun HS => ?_)
      replace HS := Lib.hid HS
      replace HS6 := Lib.hid (HS6.out.later (Below.refl _ _).drew)
      generalize World.drew _ = W4 at *
      refine anyH_take (i := 0) (d := some 127) (v := .agg V) rfl rfl (by kernel_rfl) (by kernel_rfl) (by kernel_rfl) (fun _ _ _ h => h) rfl (fun w' hS => run_load_op (ty := 61) rfl rfl (actLoad (aBlk.get hS) HVS.out)) HS.out ?_
      simp only [Act.put, List.setIfInBounds_toArray, List.set_cons_zero, List.set_cons_succ]
      refine anyH_take (i := 1) (d := some 128) (v := .string ⟨#[115, 101, 97, 108]⟩) rfl rfl (by kernel_rfl) (by kernel_rfl) (by kernel_rfl) (fun _ _ _ h => h) rfl (fun w' hS => by go_simp) HS.out ?_
      simp only [Act.put, List.setIfInBounds_toArray, List.set_cons_zero, List.set_cons_succ]
      refine anyH_take (i := 2) (d := some 129) (v := .string (bstr (Lib.itoa who))) rfl rfl (by kernel_rfl) (by kernel_rfl) (by kernel_rfl) (fun _ _ _ h => h) rfl (fun w' hS => by go_simp) HS.out ?_
      simp only [Act.put, List.setIfInBounds_toArray, List.set_cons_zero, List.set_cons_succ]
      refine anyH_take (i := 4) (d := some 131) (v := v10) rfl rfl (by kernel_rfl) (by kernel_rfl) (by kernel_rfl) (fun _ _ _ h => h) rfl (fun w' hS => by go_simp) HS.out ?_
      simp only [Act.put, List.setIfInBounds_toArray, List.set_cons_zero, List.set_cons_succ]
      refine anyH_take (i := 6) (d := some 133) (v := .bool okb) rfl rfl (by kernel_rfl) (by kernel_rfl) (by kernel_rfl) (fun _ _ _ h => h) rfl (fun w' hS => by go_simp) HS.out ?_
      simp only [Act.put, List.setIfInBounds_toArray, List.set_cons_zero, List.set_cons_succ]
      have h5 := aStrs.new HS6.out [wSeal, Lib.itoa who] (by simp [maxLen]) (cs := #[.string ⟨#[115, 101, 97, 108]⟩, .string (bstr (Lib.itoa who))]) rfl (n := 2) rfl
      refine anyH_do (i := 3) (d := some 130) (v := .slice (some ⟨W4.heap.size, 0, none⟩) 2 2) (w' := W4.alloc (.cells #[.string ⟨#[115, 101, 97, 108]⟩, .string (bstr (Lib.itoa who))] 9)) (by kernel_rfl) rfl rfl rfl (by go_simp) (show KS2 w w3.heap.size V A _ from h5.drop.drop.drop2) ?_
      simp only [Act.put, List.setIfInBounds_toArray, List.set_cons_zero, List.set_cons_succ]
      replace HS := Lib.hid (show KS2 w w3.heap.size V A _ from h5.drop.drop.drop2)
      replace HS6 := Lib.hid h5
      clear h5
      refine anyH_append (W := w) (i := 5) (d := 132) (by kernel_rfl) rfl rfl rfl (.tmp 130) (.tmp 131) 78 rfl Tryz.underlying78 infoS rfl Nat.zero_lt_one rfl rfl (n := 2) (m := L.length) (xs := strC [wSeal, Lib.itoa who]) (news := strC L) (show St w _ (aRow 9 1 _ 2 (strC [wSeal, Lib.itoa who]) :: _) from HS6.out) (St.rowRd' (show St w _ (aRow 9 1 v10 L.length (strC L) :: _) from HS6.out.swap)) (strC_one L) (by have := HLL.out; unfold maxLen; omega) (by have := HLL.out; omega) (fun A1 c1 w' hS => (show KS2 w w3.heap.size V A _ from hS.drop.drop.drop2)) (fun A1 c1 w6 hS => ?_)
      replace HS := Lib.hid (show KS2 w w3.heap.size V A _ from hS.drop.drop.drop2)
      have h6 : St w w6 (aStrs (.slice A1 (2 + L.length) c1) ([wSeal, Lib.itoa who] ++ L) :: _) := (show St w w6 (aRow 9 1 (.slice A1 (2 + L.length) c1) ([wSeal, Lib.itoa who] ++ L).length (strC ([wSeal, Lib.itoa who] ++ L)) :: _) from by
        have e1 : ([wSeal, Lib.itoa who] ++ L).length = 2 + L.length := by simp; omega
        have e2 : strC ([wSeal, Lib.itoa who] ++ L) = strC [wSeal, Lib.itoa who] ++ strC L := by simp [strC]
        rw [e1, e2]
        exact hS)
      simp only [Act.put, List.setIfInBounds_toArray, List.set_cons_zero, List.set_cons_succ]
      have h7 := (aBlk.setAll h6.drop2.rot3 (new := V) (by rw [HZS.out, HVS.out]))
      refine anyH_st (i := 7) (d := none) (by kernel_rfl) rfl rfl rfl (run_store_op (ty := 61) rfl rfl rfl (storeAct h6.drop2.rot3 HZS.out HVS.out H1C.out)) (show KS2 w w3.heap.size V A _ from h7.drop.drop) ?_
      simp only [Act.put]
      replace HS := Lib.hid (show KS2 w w3.heap.size V A _ from h7.drop.drop)
      replace HS6 := Lib.hid h7
      clear h7 h6 hS
      refine anyH_take (i := 8) (d := some 3) (v := .slice A1 (2 + L.length) c1) rfl rfl (by kernel_rfl) (by kernel_rfl) (by kernel_rfl) (fun _ _ _ h => h) rfl (fun w' hS => by go_simp) HS.out ?_
      simp only [Act.put, List.setIfInBounds_toArray, List.set_cons_zero, List.set_cons_succ]
      refine anyH_take (i := 9) (d := some 4) (v := .bool okb) rfl rfl (by kernel_rfl) (by kernel_rfl) (by kernel_rfl) (fun _ _ _ h => h) rfl (fun w' hS => by go_simp) HS.out ?_
      simp only [Act.put, List.setIfInBounds_toArray, List.set_cons_zero, List.set_cons_succ]
      refine wpAnyH_done (by kernel_rfl) ?_ _
      go_wp2_with fail
      (try simp only [Exit.inBlock, Exit.then])
      refine bodyPost_ret (results_cell2 rfl _ _ (w.heap.size + 1) _ V _ _ rfl (aBlk.get HS6.out) Tryz.underlying61 rfl (by rw [aInfo, HVS.out])) rfl ?_
      cases okb
      case true =>
        obtain ⟨hw, hL⟩ := HOK.out rfl
        have hR := HY.out ⟨⟨by simp, by simp⟩, fun h => absurd h (by simp), fun _ => hw⟩ (actC 11 who 0 zOpC (.slice none 0 0) mc true) (.slice A1 (2 + L.length) c1) _
          (show tAct.rd _ _ _ { zAct with kind := 11, who := who, msg := msg, sealed := true } from tAct.mk' (s := { zAct with kind := 11, who := who, msg := msg, sealed := true }) (show (-9223372036854775808 : Int) ≤ 11 ∧ (11 : Int) ≤ 9223372036854775807 from by omega) HBK.out.2.1 (show (-9223372036854775808 : Int) ≤ 0 ∧ (0 : Int) ≤ 9223372036854775807 from by omega) (zOp_rd _ _) (tY.nil _ _) (tMsg.later HM.out HS6.out.b))
          (show St _ _ [aStrs _ (wSeal :: Lib.itoa who :: msgW msg)] from by rw [← hL]; exact HS6.out.drop.drop2.drop2)
        rw [HV.out] at hR
        exact hR
      case false =>
        exact HN.out (fun h => (HNO.out rfl).1 (h.2.2 rfl)) V _ _ HVS.out H1C.out HS6.out.b
  · have H1K := Lib.hid (show (#[.int .i64 kind, .int .i64 who, .int .i64 0, .int .i64 0, .string ⟨#[]⟩, .string ⟨#[]⟩, .int .i64 0, .slice none 0 0, .slice none 0 0, .int .i64 0, .int .i64 0, .int .i64 0, .int .i64 0, .int .i64 0, .int .i64 0, .int .i64 0, .int .i64 0, .int .i64 0, .slice none 0 0, .int .i64 0, .int .i64 0, .slice none 0 0, .slice none 0 0, .slice none 0 0, .slice none 0 0, .string ⟨#[]⟩, .int .i64 0, .string ⟨#[]⟩, .int .i64 0, .slice none 0 0, .slice none 0 0, .int .i64 0, .int .i64 0, .slice none 0 0, .int .i64 0, .int .i64 0, .slice none 0 0, .int .i64 0, .int .i64 0, .bool false] : Array Value).all (·.oneCell') = true from by simp [Value.oneCell'])
    have HS3 := Lib.hid (show St w (w3.alloc (.cells #[.int .i64 0, .int .i64 0, .int .i64 0, .int .i64 0, .string ⟨#[]⟩, .string ⟨#[]⟩, .int .i64 0, .slice none 0 0, .slice none 0 0, .int .i64 0, .int .i64 0, .int .i64 0, .int .i64 0, .int .i64 0, .int .i64 0, .int .i64 0, .int .i64 0, .int .i64 0, .slice none 0 0, .int .i64 0, .int .i64 0, .slice none 0 0, .slice none 0 0, .slice none 0 0, .slice none 0 0, .string ⟨#[]⟩, .int .i64 0, .string ⟨#[]⟩, .int .i64 0, .slice none 0 0, .slice none 0 0, .int .i64 0, .int .i64 0, .slice none 0 0, .int .i64 0, .int .i64 0, .slice none 0 0, .int .i64 0, .int .i64 0, .bool false] 61)) [aBlk w3.heap.size 61 #[.int .i64 0, .int .i64 0, .int .i64 0, .int .i64 0, .string ⟨#[]⟩, .string ⟨#[]⟩, .int .i64 0, .slice none 0 0, .slice none 0 0, .int .i64 0, .int .i64 0, .int .i64 0, .int .i64 0, .int .i64 0, .int .i64 0, .int .i64 0, .int .i64 0, .int .i64 0, .slice none 0 0, .int .i64 0, .int .i64 0, .slice none 0 0, .slice none 0 0, .slice none 0 0, .slice none 0 0, .string ⟨#[]⟩, .int .i64 0, .string ⟨#[]⟩, .int .i64 0, .slice none 0 0, .slice none 0 0, .int .i64 0, .int .i64 0, .slice none 0 0, .int .i64 0, .int .i64 0, .slice none 0 0, .int .i64 0, .int .i64 0, .bool false], aBlk (w.heap.size + 1) 61 ZA, aBlk w.heap.size 61 A] from aBlk.new (show St _ _ _ from HS.out) _ _)
    clear HS
    have n1 : (kind == 1) = false := by simp; omega
    have n2 : (kind == 2) = false := by simp; omega
    have n3 : (kind == 3) = false := by simp; omega
    have n4 : (kind == 4) = false := by simp; omega
    have n5 : (kind == 5) = false := by simp; omega
    have n6 : (kind == 6) = false := by simp; omega
    have n7 : (kind == 7) = false := by simp; omega
    have n8 : (kind == 8) = false := by simp; omega
    have n9 : (kind == 9) = false := by simp; omega
    have n10 : (kind == 10) = false := by simp; omega
    have n11 : (kind == 11) = false := by simp; omega
    have n12 : (kind == 12) = false := by simp; omega
    have H1C := Lib.hid (show (#[.int .i64 0, .int .i64 0, .int .i64 0, .int .i64 0, .string ⟨#[]⟩, .string ⟨#[]⟩, .int .i64 0, .slice none 0 0, .slice none 0 0, .int .i64 0, .int .i64 0, .int .i64 0, .int .i64 0, .int .i64 0, .int .i64 0, .int .i64 0, .int .i64 0, .int .i64 0, .slice none 0 0, .int .i64 0, .int .i64 0, .slice none 0 0, .slice none 0 0, .slice none 0 0, .slice none 0 0, .string ⟨#[]⟩, .int .i64 0, .string ⟨#[]⟩, .int .i64 0, .slice none 0 0, .slice none 0 0, .int .i64 0, .int .i64 0, .slice none 0 0, .int .i64 0, .int .i64 0, .slice none 0 0, .int .i64 0, .int .i64 0, .bool false] : Array Value).all (·.oneCell') = true from by simp [Value.oneCell'])
    go_wp2_with (first
      | (refine wpList_store_row rfl 61 (.tmp 7) (.tmp 23) rfl w3.heap.size #[.int .i64 kind, .int .i64 who, .int .i64 0, .int .i64 0, .string ⟨#[]⟩, .string ⟨#[]⟩, .int .i64 0, .slice none 0 0, .slice none 0 0, .int .i64 0, .int .i64 0, .int .i64 0, .int .i64 0, .int .i64 0, .int .i64 0, .int .i64 0, .int .i64 0, .int .i64 0, .slice none 0 0, .int .i64 0, .int .i64 0, .slice none 0 0, .slice none 0 0, .slice none 0 0, .slice none 0 0, .string ⟨#[]⟩, .int .i64 0, .string ⟨#[]⟩, .int .i64 0, .slice none 0 0, .slice none 0 0, .int .i64 0, .int .i64 0, .slice none 0 0, .int .i64 0, .int .i64 0, .slice none 0 0, .int .i64 0, .int .i64 0, .bool false] rfl rfl 61 #[.int .i64 0, .int .i64 0, .int .i64 0, .int .i64 0, .string ⟨#[]⟩, .string ⟨#[]⟩, .int .i64 0, .slice none 0 0, .slice none 0 0, .int .i64 0, .int .i64 0, .int .i64 0, .int .i64 0, .int .i64 0, .int .i64 0, .int .i64 0, .int .i64 0, .int .i64 0, .slice none 0 0, .int .i64 0, .int .i64 0, .slice none 0 0, .slice none 0 0, .slice none 0 0, .slice none 0 0, .string ⟨#[]⟩, .int .i64 0, .string ⟨#[]⟩, .int .i64 0, .slice none 0 0, .slice none 0 0, .int .i64 0, .int .i64 0, .slice none 0 0, .int .i64 0, .int .i64 0, .slice none 0 0, .int .i64 0, .int .i64 0, .bool false] (aBlk.get HS3.out) (by rw [aInfo]; rfl) rfl H1K.out ?_; have HS4 := Lib.hid (aBlk.setRow HS3.out #[.int .i64 kind, .int .i64 who, .int .i64 0, .int .i64 0, .string ⟨#[]⟩, .string ⟨#[]⟩, .int .i64 0, .slice none 0 0, .slice none 0 0, .int .i64 0, .int .i64 0, .int .i64 0, .int .i64 0, .int .i64 0, .int .i64 0, .int .i64 0, .int .i64 0, .int .i64 0, .slice none 0 0, .int .i64 0, .int .i64 0, .slice none 0 0, .slice none 0 0, .slice none 0 0, .slice none 0 0, .string ⟨#[]⟩, .int .i64 0, .string ⟨#[]⟩, .int .i64 0, .slice none 0 0, .slice none 0 0, .int .i64 0, .int .i64 0, .slice none 0 0, .int .i64 0, .int .i64 0, .slice none 0 0, .int .i64 0, .int .i64 0, .bool false]); have k0 := (aBlk.get HS4.out.rot3).cell 0; rw [a0.out] at k0; have k1 := (aBlk.get HS4.out.rot3).cell 1; rw [a1.out] at k1; have k2 := (aBlk.get HS4.out.rot3).cell 2; rw [a2.out] at k2; clear HS3)
      | (refine wpList_store_row rfl 61 (.tmp 2) (.tmp 140) rfl (w.heap.size + 1) #[.int .i64 0, .int .i64 0, .int .i64 0, .int .i64 0, .string ⟨#[]⟩, .string ⟨#[]⟩, .int .i64 0, .slice none 0 0, .slice none 0 0, .int .i64 0, .int .i64 0, .int .i64 0, .int .i64 0, .int .i64 0, .int .i64 0, .int .i64 0, .int .i64 0, .int .i64 0, .slice none 0 0, .int .i64 0, .int .i64 0, .slice none 0 0, .slice none 0 0, .slice none 0 0, .slice none 0 0, .string ⟨#[]⟩, .int .i64 0, .string ⟨#[]⟩, .int .i64 0, .slice none 0 0, .slice none 0 0, .int .i64 0, .int .i64 0, .slice none 0 0, .int .i64 0, .int .i64 0, .slice none 0 0, .int .i64 0, .int .i64 0, .bool false] rfl rfl 61 ZA (aBlk.get HS4.out.swap) (by rw [aInfo]; rfl) (by rw [HZS.out]; rfl) H1C.out ?_; have HS5 := Lib.hid (aBlk.setRow HS4.out.swap #[.int .i64 0, .int .i64 0, .int .i64 0, .int .i64 0, .string ⟨#[]⟩, .string ⟨#[]⟩, .int .i64 0, .slice none 0 0, .slice none 0 0, .int .i64 0, .int .i64 0, .int .i64 0, .int .i64 0, .int .i64 0, .int .i64 0, .int .i64 0, .int .i64 0, .int .i64 0, .slice none 0 0, .int .i64 0, .int .i64 0, .slice none 0 0, .slice none 0 0, .slice none 0 0, .slice none 0 0, .string ⟨#[]⟩, .int .i64 0, .string ⟨#[]⟩, .int .i64 0, .slice none 0 0, .slice none 0 0, .int .i64 0, .int .i64 0, .slice none 0 0, .int .i64 0, .int .i64 0, .slice none 0 0, .int .i64 0, .int .i64 0, .bool false]))
      | fail)
    (try simp only [Exit.inBlock, Exit.then])
    refine bodyPost_ret (results_cell2 rfl _ _ (w.heap.size + 1) _ #[.int .i64 0, .int .i64 0, .int .i64 0, .int .i64 0, .string ⟨#[]⟩, .string ⟨#[]⟩, .int .i64 0, .slice none 0 0, .slice none 0 0, .int .i64 0, .int .i64 0, .int .i64 0, .int .i64 0, .int .i64 0, .int .i64 0, .int .i64 0, .int .i64 0, .int .i64 0, .slice none 0 0, .int .i64 0, .int .i64 0, .slice none 0 0, .slice none 0 0, .slice none 0 0, .slice none 0 0, .string ⟨#[]⟩, .int .i64 0, .string ⟨#[]⟩, .int .i64 0, .slice none 0 0, .slice none 0 0, .int .i64 0, .int .i64 0, .slice none 0 0, .int .i64 0, .int .i64 0, .slice none 0 0, .int .i64 0, .int .i64 0, .bool false] _ _ rfl (aBlk.get HS5.out) Tryz.underlying61 rfl (by rw [aInfo]; rfl)) rfl ?_
    exact HN.out (fun h => hk h.1) _ _ _ rfl H1C.out HS5.out.b
end Go.Proofs.YtafomdobfmmleaaGreatDoor

/- script.keep, whole (printed by gen_nd.py). -/
namespace Go.Proofs.YtafomdobfmmleaaGreatDoor
open Go.RowKit Go.Deep
set_option linter.unusedVariables false

theorem keep_w {w : World} {R : Ending → World → Prop} {kind who num : Int} {op : OpD} {bytes : List UInt8} {msg : MsgD} {sl : Bool} {oc mc : List Value} {b : Value} (hT : TabW w)
    (bk : (-9223372036854775808 ≤ kind ∧ kind ≤ 9223372036854775807) ∧ (-9223372036854775808 ≤ who ∧ who ≤ 9223372036854775807) ∧ (-9223372036854775808 ≤ num ∧ num ≤ 9223372036854775807))
    (ho : tOp.rd (fun _ => True) w oc op) (hb : tY.rd (fun _ => True) w [b] bytes) (hm : tMsg.rd (fun _ => True) w mc msg)
    (hY : keepOk ⟨kind, who, num, op, bytes, msg, sl⟩ → ∀ ds v w', tAct.rd (fun _ => True) w' ds (keepF ⟨kind, who, num, op, bytes, msg, sl⟩) → St w w' [aStrs v (keepW ⟨kind, who, num, op, bytes, msg, sl⟩)] → R (.returned (.tuple #[.agg ds.toArray, v, .bool true])) w')
    (hN : ¬ keepOk ⟨kind, who, num, op, bytes, msg, sl⟩ → ∀ (U : Array Value) v w', U.size = 40 → U.all (·.oneCell') = true → B w w' → R (.returned (.tuple #[.agg U, v, .bool false])) w') :
    Calls Tryz.prog 42 #[.agg (actC kind who num oc b mc sl).toArray] w R := by
  by_cases h1 : kind = 1 ∨ kind = 2 ∨ kind = 3
  · exact keepA hT bk ho hb hm hY hN h1
  by_cases h2 : kind = 4 ∨ kind = 5 ∨ kind = 7
  · exact keepB hT bk ho hb hm hY hN h2
  by_cases h3 : kind = 9 ∨ kind = 12 ∨ kind = 8
  · exact keepC hT bk ho hb hm hY hN h3
  by_cases h4 : kind = 6 ∨ kind = 10
  · exact keepD hT bk ho hb hm hY hN h4
  exact keepE hT bk ho hb hm hY hN (by omega)
/-- script.keep -/
theorem keep_c {inn : Nat → Prop} {w : World} {R : Ending → World → Prop} {cs : List Value} {x : ActD} (hT : TabW w) (hx : tAct.rd inn w cs x)
    (hY : keepOk x → ∀ ds v w', tAct.rd (fun _ => True) w' ds (keepF x) → St w w' [aStrs v (keepW x)] → R (.returned (.tuple #[.agg ds.toArray, v, .bool true])) w')
    (hN : ¬ keepOk x → ∀ (U : Array Value) v w', U.size = 40 → U.all (·.oneCell') = true → B w w' → R (.returned (.tuple #[.agg U, v, .bool false])) w') :
    Calls Tryz.prog 42 #[.agg cs.toArray] w R := by
  obtain ⟨oc, b, mc, rfl, hbk, ho, hb, hm⟩ := tAct.open' (tAct.mono hx (fun _ _ => trivial : ∀ g, inn g → (fun _ => True) g))
  exact keep_w hT hbk ho hb hm hY hN
end Go.Proofs.YtafomdobfmmleaaGreatDoor

/- script.Line: an act's line. -/
namespace Go.Proofs.YtafomdobfmmleaaGreatDoor
open Go.RowKit Go.Deep
set_option linter.unusedVariables false

theorem tAct.one {inn : Nat → Prop} {w : World} {cs : List Value} {x : ActD} (h : tAct.rd inn w cs x) : cs.toArray.size = 40 ∧ cs.toArray.all (·.oneCell') = true := by
  obtain ⟨oc, b, mc, rfl, hbk, ho, hb, hm⟩ := tAct.open' h
  have h1 := tOp.one ho
  have h2 := tMsg.one hm
  have l1 : oc.length = 5 := tOp.len ho
  have l2 : mc.length = 30 := by have := tMsg.len hm; simpa using this
  obtain ⟨u, hu, hbs, _⟩ := hb
  injection hu with hu _
  subst hu
  obtain ⟨A1, c1, e1⟩ := hbs.rd.slice
  subst e1
  refine ⟨by simp [actC, l1, l2], ?_⟩
  simp only [List.all_toArray, actC, List.all_append, List.all_eq_true.2 h1, List.all_eq_true.2 h2]
  simp [Value.oneCell']
/-- what script.keep hands back: an act's cells, words, a bool -/
theorem keepU_c {inn : Nat → Prop} {w : World} {cs : List Value} {x : ActD} (hT : TabW w) (hx : tAct.rd inn w cs x) (hk : ¬ keepOk x) :
    Calls Tryz.prog 42 #[.agg cs.toArray] w fun r w' => ∃ U v, r = .returned (.tuple #[.agg U, v, .bool false]) ∧ (U.size = 40 ∧ U.all (·.oneCell') = true) ∧ B w w' :=
  keep_c hT hx (fun h => absurd h hk) (fun _ U v w' h1 h2 h3 => ⟨U, v, rfl, ⟨h1, h2⟩, h3⟩)
theorem keepV_c {inn : Nat → Prop} {w : World} {cs : List Value} {x : ActD} (hT : TabW w) (hx : tAct.rd inn w cs x) (hk : keepOk x) :
    Calls Tryz.prog 42 #[.agg cs.toArray] w fun r w' => ∃ U v, r = .returned (.tuple #[.agg U, v, .bool true]) ∧ ((U.size = 40 ∧ U.all (·.oneCell') = true) ∧ ∃ ds, U = ds.toArray ∧ tAct.rd (fun _ => True) w' ds (keepF x)) ∧ St w w' [aStrs v (keepW x)] :=
  keep_c hT hx (fun _ ds v w' h1 h2 => ⟨_, v, rfl, ⟨tAct.one h1, ds, rfl, h1⟩, h2⟩) (fun h => absurd hk h)
end Go.Proofs.YtafomdobfmmleaaGreatDoor
