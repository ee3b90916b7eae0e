/- WalBack: for any two byte strings of bulk at most 1048576 a framed record is read as it was, whatever stands behind, and a log that no call made answers as it should. Condition: the five listed package variables hold what their initialisers lay. -/
import Derived.Test.YtnpjfjgnhadmjaaGreatDoorZb4
/- Going through a log's records: the iterator All$1, and 'kept'. -/
namespace Go.Proofs.YtnpjfjgnhadmjaaGreatDoor
open Go.RowKit Go.Deep Go.Maps
set_option linter.unusedVariables false
attribute [local go_sem] Oper.semAt_some

/-- numbers from one on, and the records, as an iterator of a log has them -/
structure Its (w0 : World) (b1 b2 : Nat) (A1 A2 : Option Addr) (c1 c2 : Nat) (f : Int) (M : List (List UInt8)) : Prop where
  k1 : w0.cell? ⟨b1, 0, none⟩ = some (.slice A1 M.length c1)
  k2 : w0.cell? ⟨b2, 0, none⟩ = some (.slice A2 M.length c2)
  lt : M.length ≤ 1099511627776
  at1 : ∀ i, i < M.length → ∃ g, A1 = some ⟨g, 0, none⟩ ∧ w0.cell? ⟨g, i, none⟩ = some (.int .i64 (f + (i : Int)))
  at2 : ∀ i b, M[i]? = some b → ∃ g u, A2 = some ⟨g, 0, none⟩ ∧ w0.cell? ⟨g, i, none⟩ = some u ∧ Bs w0 u b
theorem Its.later {w0 w1 : World} {b1 b2 : Nat} {A1 A2 : Option Addr} {c1 c2 : Nat} {f : Int} {M : List (List UInt8)} (h : Its w0 b1 b2 A1 A2 c1 c2 f M) (hb : B w0 w1) : Its w1 b1 b2 A1 A2 c1 c2 f M :=
  ⟨hb.cell h.k1, hb.cell h.k2, h.lt, fun i hi => let ⟨g, e, k⟩ := h.at1 i hi; ⟨g, e, hb.cell k⟩, fun i b hi => let ⟨g, u, e, k, r⟩ := h.at2 i b hi; ⟨g, u, e, hb.cell k, r.later hb⟩⟩
/-- a number, its record as a value, the record -/
abbrev Ix := Int × Value × List UInt8
def ItY (w0 : World) (f : Int) (M : List (List UInt8)) (x : Ix) (W : World) : Prop := (∃ i : Nat, x.1 = f + (i : Int) ∧ M[i]? = some x.2.2) ∧ St w0 W [aBy x.2.1 x.2.2]
theorem ItY.bears {w0 w1 : World} {f : Int} {M : List (List UInt8)} {x : Ix} (hz : w0.heap.size ≤ w1.heap.size) : Bears w1.heap.size (ItY w0 f M x) :=
  ⟨fun W o h => ⟨h.1, h.2.later (B.alloc' _ _)⟩, fun W l o o' h hl ho hno => ⟨h.1, h.2.putObj o' (cel_cons (aBy.cel _ _) (by simp)) (by omega) ho hno⟩⟩
theorem B.putObj {w0 W : World} {l : Nat} {o o' : Obj} (h : B w0 W) (hl : w0.heap.size ≤ l) (ho : W.heap[l]? = some o) (hno : o.isCells = false) : B w0 (W.putObj l o') :=
  (St.putObj (L := []) o' (⟨h, trivial⟩ : St w0 W []) (by simp) hl ho hno).b
theorem B.bears {w0 w1 : World} (hz : w0.heap.size ≤ w1.heap.size) : Bears w1.heap.size (B w0) :=
  ⟨fun W o h => h.trans (B.alloc' _ _), fun W l o o' h hl ho hno => B.putObj h (by omega) ho hno⟩
section
variable {w0 : World} {b1 b2 : Nat} {A1 A2 : Option Addr} {c1 c2 : Nat} {f : Int} {M : List (List UInt8)}
set_option maxRecDepth 100000 in
set_option maxHeartbeats 2000000 in
theorem all1_in (hI : Its w0 b1 b2 A1 A2 c1 c2 f M) (k : Nat) (hk : 1 ≤ k) (l : Nat) (T : World → Prop) (hT : ∀ A B, T A → KeepsOthers A B → T B) (W1 : World) (hT1 : T W1) (h0 : B w0 W1)
    (hY : ∀ x W, ItY w0 f M x W → T W → YieldAt Fence.wide (k - 1) Tryz.prog l #[.int .i64 x.1, x.2.1] W fun e W' => e = .returned (.bool true) ∧ B w0 W' ∧ T W') :
    CallsIn Fence.wide k Tryz.prog 71 #[.func (.yield l) #[] #[], .pointer (some ⟨b1, 0, none⟩), .pointer (some ⟨b2, 0, none⟩)] W1 fun e W' => (∃ v, e = .returned v) ∧ B w0 W' ∧ T W' := by
  obtain ⟨m, hm⟩ : ∃ m, M.length = m := ⟨_, rfl⟩
  have HM := Lib.hid hm
  have k1 := h0.cell hI.k1
  have hlt := hI.lt
  rw [hm] at k1 hlt
  have HI := Lib.hid hI
  have H0 := Lib.hid h0
  clear hm hI h0
  refine callsIn_of_wp Tryz.func71 rfl trivial ?_ rfl
  simp only [Tryz.ntmps71, List.size_toArray, List.length_cons, List.length_nil, Nat.reduceAdd, Nat.reduceSub, Array.replicate_succ, Array.replicate_zero, List.push_toArray, List.append_toArray, List.nil_append, List.cons_append]
  gi_wp2
  gi_loopw [8] (fun i wr => ∃ j : Nat, i = .int .i64 (j : Int) ∧ j ≤ m ∧ T wr ∧ Hid (B w0 wr)) (fun i wr => m - (intOf i).toNat)
  case atStart => exact ⟨0, rfl, Nat.zero_le _, hT1, H0⟩
  case round =>
    obtain ⟨j, rfl, hj, hTr, hBr⟩ := hrel
    by_cases hjm : j < m
    · obtain ⟨g1, rfl, a1⟩ := HI.out.at1 j (by have := HM.out; omega)
      obtain ⟨b, hb⟩ : ∃ b, M[j]? = some b := ⟨_, List.getElem?_eq_getElem (by have := HM.out; omega)⟩
      obtain ⟨g2, u, rfl, a2, r2⟩ := HI.out.at2 j b hb
      have e1 := hBr.out.cell a1
      have e2 := hBr.out.cell a2
      have e3 := hBr.out.cell HI.out.k2
      rw [HM.out] at e3
      have HC := Lib.hid (clone89 (r2.later hBr.out))
      have HBJ := Lib.hid hb
      clear a1 a2 r2 hb
      gi_wp2_with (first
        | ((try refine ⟨trivial, ?_⟩); gi_at_call 69; (with_reducible refine (callsIn_wide.2 HC.out).mono ?_); rintro e w3 ⟨v3, rfl, r3, hb3⟩; have hS := (St.nil w0).later hBr.out |>.addRow hb3 r3; have hT3 := hT _ _ hTr (KeepsOthers.of_B hb3); have hyy := hY (f + (j : Int), v3, b) w3 ⟨⟨j, rfl, HBJ.out⟩, hS⟩ hT3; clear hb3 r3 hS; obtain ⟨fn, tmps, assign, body, hy, hR⟩ := hyy; dsimp only at hy))
      refine hR.mono ?_
      rintro e W3 ⟨rfl, hB3, hT4⟩
      have HB3 := Lib.hid hB3
      clear hB3 hR hy
      gi_wp2
      go_roundw
      case rel => exact ⟨j + 1, by go_num, by omega, hT4, HB3⟩
      case measure => simp [intOf]; omega
    · obtain rfl : j = m := by omega
      have HTr := Lib.hid hTr
      gi_wp2
      refine bodyPost_end (results_none rfl _ _ _) rfl ?_
      exact ⟨⟨_, rfl⟩, hBr.out, HTr.out⟩
set_option maxRecDepth 100000 in
set_option maxHeartbeats 4000000 in
theorem kept_yes {w : World} {m : Nat} (hI : Its w b1 b2 A1 A2 c1 c2 f M) (hlook : ∀ w' (i : Nat) b, B w w' → M[i]? = some b → ∃ v, (Instr.lookup 61 (.map (some m)) (.int .i64 (f + (i : Int))) false).run Tryz.prog w' = .ok v w' ∧ Bs w' v b) :
    Calls Tryz.prog 30 #[.func (.func 71) #[] #[.pointer (some ⟨b1, 0, none⟩), .pointer (some ⟨b2, 0, none⟩)], .map (some m)] w fun e w' => e = .returned (.bool true) ∧ B w w' := by
  have HI := Lib.hid hI
  have HL := Lib.hid hlook
  clear hI hlook
  refine (callsIn_wide (n := 4)).1 ?_
  refine callsIn_of_wp_marks Tryz.func30 rfl trivial ?_ rfl
  simp only [Tryz.ntmps30, List.size_toArray, List.length_cons, List.length_nil, Nat.reduceAdd, Nat.reduceSub, Array.replicate_succ, Array.replicate_zero, List.push_toArray, List.append_toArray, List.nil_append, List.cons_append]
  gi_wp2_with fail
  have h1 := aBlk.new (aBlk.new (St.nil w) 61 #[.map (some m)]) 4 #[.bool false]
  rw [World.size_alloc] at h1
  have hb1 := h1.b
  have hI1 := HI.out.later hb1
  have kb := (aBlk.get h1.swap).cell 0
  simp only [List.getElem?_toArray, List.getElem?_cons_zero] at kb
  have H1 := Lib.hid h1
  clear h1
  obtain ⟨w1, hw1⟩ : ∃ w1, (w.alloc (.cells #[.map (some m)] 61)).alloc (.cells #[.bool false] 4) = w1 := ⟨_, rfl⟩
  rw [hw1] at hb1 hI1 kb H1 ⊢
  have HB1 := Lib.hid hb1
  have HI1 := Lib.hid hI1
  have hsz : w1.heap.size = w.heap.size + 2 := by rw [← hw1]; simp
  clear hw1 hb1 hI1
  refine range_go (F := Fence.wide) rfl (by omega) (gf := 71) (lb := #[.pointer (some ⟨b1, 0, none⟩), .pointer (some ⟨b2, 0, none⟩)]) rfl trivial (enters_of Tryz.func71 (by kernel_rfl) rfl)
    (encs := fun x : Ix => #[.int .i64 x.1, x.2.1]) (S := fun _ => True) (fun x => rfl) (fun _ => B w1) (fun _ => B w1) (fun _ x => ItY w1 f M x)
    (fun _ => B.bears (Nat.le_refl _)) (fun _ _ => ItY.bears (Nat.le_refl _)) (fun _ => B.bears (Nat.le_refl _)) (Below.refl _ _)
    (fun x => { tmps := #[.func (.func 71) #[] #[.pointer (some ⟨b1, 0, none⟩), .pointer (some ⟨b2, 0, none⟩)], .map (some m), undef, .pointer (some ⟨w.heap.size, 0, none⟩), .pointer (some ⟨w.heap.size + 1, 0, none⟩), .int .i64 x.1, x.2.1, .func (.func 71) #[] #[.pointer (some ⟨b1, 0, none⟩), .pointer (some ⟨b2, 0, none⟩)], .int .i64 x.1, x.2.1, undef, undef, undef, undef, undef, undef], defers := [] }) ?assign ?body ?hit ?done
  case assign =>
    intro l x W K hK
    gi_wp2
    exact hK
  case hit =>
    intro l W1 T hT hT1 h0 hY
    refine (all1_in HI1.out _ (by omega) l T hT W1 hT1 h0 (fun x W hx hTW => hY [] x W hx hTW)).mono ?_
    rintro e W' ⟨h1, h2, h3⟩
    exact ⟨h1, [], trivial, h2, h3⟩
  case body =>
    rintro l pre ⟨xn, xv, xb⟩ W ⟨⟨i, hi, hx⟩, hS⟩
    dsimp only at hi hx hS
    subst hi
    obtain ⟨v, hrun, hv⟩ := HL.out W i xb (HB1.out.trans hS.b) hx
    have kl := hS.b.cell kb
    have hxb : xb.length ≤ big := hv.2
    have hE := Lib.hid (equal68 (hS.byBs hxb) hv)
    have HB := Lib.hid hS.b
    clear hS hv hx
    gi_wp2_with (first
      | ((try refine ⟨trivial, ?_⟩); gi_at_call 15; (with_reducible refine ((callsIn_wide.2 hE.out).inRound l).mono ?_); rintro e w3 ⟨rfl, rfl⟩; simp only [beq_self_eq_true]))
    exact ⟨KeepsOthers.refl _, HB.out⟩
  case done =>
    rintro D xs W hD _ hJ hK
    have hS := H1.out.later hJ
    have z0 := (aBlk.get hS).cell 0
    have f0 := (aBlk.get hS).frozen 0
    simp only [List.getElem?_toArray, List.getElem?_cons_zero] at z0
    have HS := Lib.hid hS
    have HD := Lib.hid hK
    clear hS hK hJ
    gi_wp2
    have h4 := aBlk.set HS.out 0 (.bool true)
    have hk4 := (KeepsOthers.setCell W ⟨w.heap.size + 1, 0, none⟩ (.bool true)).same D _ HD.out rfl
    have h5 := h4.putObj (.deferred none) (cel_cons (aBlk.cel _ _ _) (cel_cons (aBlk.cel _ _ _) (by simp))) (by omega) hk4 rfl
    refine ⟨by simp, .inl ⟨_, _, rfl, run_takeDeferred hk4, ?_⟩⟩
    have c5 := (aBlk.get h5).cell 0
    simp at c5
    refine ⟨.bool true, ?_, rfl, h5.b⟩
    simp [results, Tryz.f30, go_sem, c5]
end
end Go.Proofs.YtnpjfjgnhadmjaaGreatDoor

/- A log that no call made: nil, or of zero value. -/
namespace Go.Proofs.YtnpjfjgnhadmjaaGreatDoor
open Go.RowKit Go.Maps Go.Deep
set_option linter.unusedVariables false

def LBad (w : World) (v : Value) : Prop := v = .pointer none ∨ ∃ p, v = .pointer (some ⟨p, 0, none⟩) ∧ Blk w p 48 #[.pointer none, .string ⟨#[]⟩, .int .i64 0, .slice none 0 0, .int .i64 0]
section
variable {w : World} {v u : Value} {k : Int}
theorem LBad.later {w' : World} (h : LBad w v) (hb : B w w') : LBad w' v := h.elim .inl fun ⟨p, e, h⟩ => .inr ⟨p, e, h.later hb⟩
theorem Lnone_bad (h : LBad w v) : Calls Tryz.prog 64 #[v] w fun e w' => e = .returned (.bool true) ∧ w = w' := by
  rcases h with rfl | ⟨p, rfl, h⟩
  · go_enter Tryz.func64, Tryz.ntmps64
    go_wp2
    go_ret
    exact ⟨rfl, rfl⟩
  · have c1 := h.cell 3
    simp at c1
    clear h
    go_enter Tryz.func64, Tryz.ntmps64
    go_wp2
    go_ret
    exact ⟨rfl, rfl⟩
set_option maxRecDepth 20000 in
theorem LAppend_bad (h : LBad w v) : Calls Tryz.prog 21 #[v, u] w fun e w' => e = .returned (.tuple #[.int .i64 0, .int .i64 2]) ∧ w = w' := by
  have HN := Lib.hid (Lnone_bad h)
  clear h
  go_enter Tryz.func21, Tryz.ntmps21
  go_wp2_with (first
    | (go_at_call 64; (with_reducible refine HN.out.mono ?_); rintro e w1 ⟨rfl, rfl⟩))
  go_ret2
  exact ⟨rfl, rfl⟩
set_option maxRecDepth 20000 in
theorem LGet_bad (h : LBad w v) : Calls Tryz.prog 22 #[v, .int .i64 k] w fun e w' => e = .returned (.tuple #[.slice none 0 0, .int .i64 2]) ∧ w = w' := by
  have HN := Lib.hid (Lnone_bad h)
  clear h
  go_enter Tryz.func22, Tryz.ntmps22
  go_wp2_with (first
    | (go_at_call 64; (with_reducible refine HN.out.mono ?_); rintro e w1 ⟨rfl, rfl⟩))
  go_ret2
  exact ⟨rfl, rfl⟩
set_option maxRecDepth 20000 in
theorem LSync_bad (h : LBad w v) : Calls Tryz.prog 23 #[v] w fun e w' => e = .returned (.int .i64 2) ∧ w = w' := by
  have HN := Lib.hid (Lnone_bad h)
  clear h
  go_enter Tryz.func23, Tryz.ntmps23
  go_wp2_with (first
    | (go_at_call 64; (with_reducible refine HN.out.mono ?_); rintro e w1 ⟨rfl, rfl⟩))
  go_ret
  exact ⟨rfl, rfl⟩
set_option maxRecDepth 20000 in
theorem LRoll_bad (h : LBad w v) : Calls Tryz.prog 24 #[v] w fun e w' => e = .returned (.int .i64 2) ∧ w = w' := by
  have HN := Lib.hid (Lnone_bad h)
  have HSY := Lib.hid (LSync_bad h)
  clear h
  go_enter Tryz.func24, Tryz.ntmps24
  go_wp2_with (first
    | (go_at_call 23; (with_reducible refine HSY.out.mono ?_); rintro e w1 ⟨rfl, rfl⟩))
  go_ret
  exact ⟨rfl, rfl⟩
set_option maxRecDepth 20000 in
theorem LPrune_bad (h : LBad w v) : Calls Tryz.prog 25 #[v, .int .i64 k] w fun e w' => e = .returned (.int .i64 2) ∧ w = w' := by
  have HN := Lib.hid (Lnone_bad h)
  clear h
  go_enter Tryz.func25, Tryz.ntmps25
  go_wp2_with (first
    | (go_at_call 64; (with_reducible refine HN.out.mono ?_); rintro e w1 ⟨rfl, rfl⟩))
  go_ret
  exact ⟨rfl, rfl⟩
set_option maxRecDepth 20000 in
theorem LFirst_bad (h : LBad w v) : Calls Tryz.prog 26 #[v] w fun e w' => e = .returned (.int .i64 0) ∧ w = w' := by
  have HN := Lib.hid (Lnone_bad h)
  clear h
  go_enter Tryz.func26, Tryz.ntmps26
  go_wp2_with (first
    | (go_at_call 64; (with_reducible refine HN.out.mono ?_); rintro e w1 ⟨rfl, rfl⟩))
  go_ret
  exact ⟨rfl, rfl⟩
set_option maxRecDepth 20000 in
theorem LLast_bad (h : LBad w v) : Calls Tryz.prog 27 #[v] w fun e w' => e = .returned (.int .i64 0) ∧ w = w' := by
  have HN := Lib.hid (Lnone_bad h)
  clear h
  go_enter Tryz.func27, Tryz.ntmps27
  go_wp2_with (first
    | (go_at_call 64; (with_reducible refine HN.out.mono ?_); rintro e w1 ⟨rfl, rfl⟩))
  go_ret
  exact ⟨rfl, rfl⟩
set_option maxRecDepth 20000 in
theorem LSynced_bad (h : LBad w v) : Calls Tryz.prog 28 #[v] w fun e w' => e = .returned (.int .i64 0) ∧ w = w' := by
  have HN := Lib.hid (Lnone_bad h)
  clear h
  go_enter Tryz.func28, Tryz.ntmps28
  go_wp2_with (first
    | (go_at_call 64; (with_reducible refine HN.out.mono ?_); rintro e w1 ⟨rfl, rfl⟩))
  go_ret
  exact ⟨rfl, rfl⟩
set_option maxRecDepth 20000 in
theorem LSegments_bad (h : LBad w v) : Calls Tryz.prog 29 #[v] w fun e w' => e = .returned (.int .i64 0) ∧ w = w' := by
  have HN := Lib.hid (Lnone_bad h)
  clear h
  go_enter Tryz.func29, Tryz.ntmps29
  go_wp2_with (first
    | (go_at_call 64; (with_reducible refine HN.out.mono ?_); rintro e w1 ⟨rfl, rfl⟩))
  go_ret
  exact ⟨rfl, rfl⟩
set_option maxRecDepth 20000 in
theorem LAll_bad (h : LBad w v) : Calls Tryz.prog 31 #[v] w fun e w' => ∃ b1 b2, e = .returned (.func (.func 71) #[] #[.pointer (some ⟨b1, 0, none⟩), .pointer (some ⟨b2, 0, none⟩)]) ∧ B w w' ∧ Its w' b1 b2 none none 0 0 0 [] := by
  have h2 := aBlk.new (aBlk.new (St.nil w) 97 #[.slice none 0 0]) 63 #[.slice none 0 0]
  have h3 := Lib.hid h2
  have HN := Lib.hid (Lnone_bad (h.later h2.b))
  clear h h2
  go_enter Tryz.func31, Tryz.ntmps31
  go_wp2_with (first
    | (go_at_call 64; (with_reducible refine HN.out.mono ?_); rintro e w1 ⟨rfl, rfl⟩))
  go_ret
  have k2 := (aBlk.get h3.out).cell 0
  have k1 := (aBlk.get h3.out.swap).cell 0
  simp only [List.getElem?_toArray, List.getElem?_cons_zero, World.size_alloc] at k1 k2
  exact ⟨_, _, rfl, h3.out.b, ⟨k1, k2, by simp, fun i hi => by simp at hi, fun i b hi => by simp at hi⟩⟩
end
end Go.Proofs.YtnpjfjgnhadmjaaGreatDoor

/- The walk of WalBack. -/
namespace Go.Proofs.YtnpjfjgnhadmjaaGreatDoor
open Go.RowKit Go.Maps Go.Deep
set_option linter.unusedVariables false

section
variable {w : World} {u x : Value} {b xs : List UInt8} {k : Int}
set_option maxRecDepth 20000 in
theorem open_nil (w : World) : Calls Tryz.prog 18 #[.pointer none, .string ⟨#[108, 111, 103]⟩, .int .i64 64] w fun e w' => e = .returned (.tuple #[.pointer none, .int .i64 2]) ∧ B w w' := by
  go_enter Tryz.func18, Tryz.ntmps18
  go_wp2_with fail
  go_ret2
  exact ⟨rfl, Below.refl _ _⟩
set_option maxRecDepth 20000 in
set_option maxHeartbeats 4000000 in
theorem walBack_c (hu : Bs w u b) (hx : Bs w x xs) (hxl : xs.length ≤ 1048576) : Calls Tryz.prog 5 #[u, x] w fun e w' => e = .returned (.bool true) ∧ B w w' := by
  have HBG := Lib.hid (begun_c w)
  have HU := Lib.hid hu
  have HX := Lib.hid hx
  have HON := Lib.hid open_nil
  have hmm := @run_makeMap Tryz.prog
  obtain ⟨Ax, cx, rfl⟩ := hx.rd.slice
  have HXL := Lib.hid hxl
  clear hu hx hxl
  go_enter Tryz.func5, Tryz.ntmps5
  go_wp2_with (first
    | (go_at_call 12; (with_reducible refine HBG.out.mono ?_); rintro e w1 ⟨rfl, hb⟩; have H1 := Lib.hid hb; clear hb))
  have h2 := aBlk.new (aBlk.new ((St.nil w).later H1.out) 48 #[.pointer none, .string ⟨#[]⟩, .int .i64 0, .slice none 0 0, .int .i64 0]) 38 #[.pointer none, .pointer (some ⟨w1.heap.size, 0, none⟩)]
  rw [World.size_alloc] at h2
  have e0 := (aBlk.get h2).cell 0
  have e1 := (aBlk.get h2).cell 1
  simp only [List.getElem?_toArray, List.getElem?_cons_zero, List.getElem?_cons_succ] at e0 e1
  have hz := aBlk.get h2.swap
  have H2 := Lib.hid h2.b
  clear h2
  obtain ⟨w2, hw2⟩ : ∃ w2, (w1.alloc (.cells #[.pointer none, .string ⟨#[]⟩, .int .i64 0, .slice none 0 0, .int .i64 0] 48)).alloc (.cells #[.pointer none, .pointer (some ⟨w1.heap.size, 0, none⟩)] 38) = w2 := ⟨_, rfl⟩
  obtain ⟨z, hzz⟩ : ∃ z, w1.heap.size = z := ⟨_, rfl⟩
  rw [hw2] at e0 e1 hz H2 ⊢
  rw [hzz] at e0 e1 hz ⊢
  have HV0 := Lib.hid (fun w' (hb : B w2 w') => show LBad w' (.pointer none) from .inl rfl)
  have HV1 := Lib.hid (fun w' (hb : B w2 w') => show LBad w' (.pointer (some ⟨z, 0, none⟩)) from .inr ⟨z, rfl, hz.later hb⟩)
  clear hz hw2 hzz
  go_loopw [24] (fun i wr => ∃ j : Nat, i = .int .i64 (j : Int) ∧ j ≤ 2 ∧ Hid (B w2 wr)) (fun i wr => 2 - (intOf i).toNat)
  case atStart => exact ⟨0, rfl, by omega, Below.refl _ _⟩
  case round =>
    obtain ⟨j, rfl, hj, HR⟩ := hrel
    have k0 := HR.out.cell e0
    have k1 := HR.out.cell e1
    rcases (by omega : j = 0 ∨ j = 1 ∨ j = 2) with rfl | rfl | rfl
    · rw [show ((0 : Nat) : Int) = 0 from rfl]
      have HV := HV0
      go_wp2_with (first
        | (go_at_call 21; (with_reducible refine (LAppend_bad (HV.out _ HR.out)).mono ?_); rintro e wa ⟨rfl, rfl⟩)
        | (go_at_call 22; (with_reducible refine (LGet_bad (HV.out _ HR.out)).mono ?_); rintro e wb ⟨rfl, rfl⟩)
        | (go_at_call 23; (with_reducible refine (LSync_bad (HV.out _ HR.out)).mono ?_); rintro e wc ⟨rfl, rfl⟩)
        | (go_at_call 24; (with_reducible refine (LRoll_bad (HV.out _ HR.out)).mono ?_); rintro e wd ⟨rfl, rfl⟩)
        | (go_at_call 25; (with_reducible refine (LPrune_bad (HV.out _ HR.out)).mono ?_); rintro e we ⟨rfl, rfl⟩)
        | (go_at_call 26; (with_reducible refine (LFirst_bad (HV.out _ HR.out)).mono ?_); rintro e wf ⟨rfl, rfl⟩)
        | (go_at_call 27; (with_reducible refine (LLast_bad (HV.out _ HR.out)).mono ?_); rintro e wg ⟨rfl, rfl⟩)
        | (go_at_call 28; (with_reducible refine (LSynced_bad (HV.out _ HR.out)).mono ?_); rintro e wh ⟨rfl, rfl⟩)
        | (go_at_call 29; (with_reducible refine (LSegments_bad (HV.out _ HR.out)).mono ?_); rintro e wi ⟨rfl, rfl⟩)
        | (go_at_call 31; (with_reducible refine (LAll_bad (HV.out _ HR.out)).mono ?_); rintro e wj ⟨b1, b2, rfl, hb, hI⟩; have HJ := Lib.hid hb; have HI := Lib.hid hI; clear hb hI)
        | (go_at_call 30; (with_reducible refine (kept_yes (HI.out.later (B.alloc' _ _)) (fun w' i b hb hi => by simp at hi)).mono ?_); rintro e wk ⟨rfl, hb⟩; have HK := Lib.hid ((HR.out.trans HJ.out).trans ((B.alloc' _ _).trans hb)); clear hb))
      go_roundw
      case rel => exact ⟨1, rfl, by omega, HK⟩
      case measure => simp [intOf]
    · rw [show ((1 : Nat) : Int) = 1 from rfl]
      have HV := HV1
      go_wp2_with (first
        | (go_at_call 21; (with_reducible refine (LAppend_bad (HV.out _ HR.out)).mono ?_); rintro e wa ⟨rfl, rfl⟩)
        | (go_at_call 22; (with_reducible refine (LGet_bad (HV.out _ HR.out)).mono ?_); rintro e wb ⟨rfl, rfl⟩)
        | (go_at_call 23; (with_reducible refine (LSync_bad (HV.out _ HR.out)).mono ?_); rintro e wc ⟨rfl, rfl⟩)
        | (go_at_call 24; (with_reducible refine (LRoll_bad (HV.out _ HR.out)).mono ?_); rintro e wd ⟨rfl, rfl⟩)
        | (go_at_call 25; (with_reducible refine (LPrune_bad (HV.out _ HR.out)).mono ?_); rintro e we ⟨rfl, rfl⟩)
        | (go_at_call 26; (with_reducible refine (LFirst_bad (HV.out _ HR.out)).mono ?_); rintro e wf ⟨rfl, rfl⟩)
        | (go_at_call 27; (with_reducible refine (LLast_bad (HV.out _ HR.out)).mono ?_); rintro e wg ⟨rfl, rfl⟩)
        | (go_at_call 28; (with_reducible refine (LSynced_bad (HV.out _ HR.out)).mono ?_); rintro e wh ⟨rfl, rfl⟩)
        | (go_at_call 29; (with_reducible refine (LSegments_bad (HV.out _ HR.out)).mono ?_); rintro e wi ⟨rfl, rfl⟩)
        | (go_at_call 31; (with_reducible refine (LAll_bad (HV.out _ HR.out)).mono ?_); rintro e wj ⟨b1, b2, rfl, hb, hI⟩; have HJ := Lib.hid hb; have HI := Lib.hid hI; clear hb hI)
        | (go_at_call 30; (with_reducible refine (kept_yes (HI.out.later (B.alloc' _ _)) (fun w' i b hb hi => by simp at hi)).mono ?_); rintro e wk ⟨rfl, hb⟩; have HK := Lib.hid ((HR.out.trans HJ.out).trans ((B.alloc' _ _).trans hb)); clear hb))
      go_roundw
      case rel => exact ⟨2, rfl, by omega, HK⟩
      case measure => simp [intOf]
    · rw [show ((2 : Nat) : Int) = 2 from rfl]
      by_cases hbl : b.length ≤ 524288
      · have hfl := frame_len hbl
        have HF := Lib.hid (fun w' X (h : St w w' X) => frame_yes h (HU.out.later h.b) hbl)
        have HUN := Lib.hid (fun w' v (h : Bs w' v (frameF b ++ xs)) => unframe_s h (unframe_frame (x := xs) hbl))
        obtain ⟨fl, hfl2⟩ : ∃ fl, (frameF b).length = fl := ⟨_, rfl⟩
        have HFL := Lib.hid hfl2
        have HFB := Lib.hid (show (frameF b).length ≤ big by unfold big; omega)
        rw [hfl2] at HUN hfl
        have HXB := Lib.hid HX.out.2
        have HBL := Lib.hid (show b.length ≤ big by unfold big; omega)
        have HRX := Lib.hid (fun w' (h : B w w') => (HX.out.later h).rd)
        have o1 := cellsB_one xs
        have g1 : fl + xs.length ≤ maxLen := by have := HXL.out; unfold maxLen; omega
        have g2 : (fl + xs.length) * 1 ≤ 140737488355328 := by have := HXL.out; omega
        have HFX := Lib.hid (show (frameF b ++ xs).length ≤ big by rw [List.length_append]; have := HXL.out; unfold big; omega)
        have HNB := Lib.hid (fun w' A c Y (h : St w w' (aRow 5 1 (.slice A (fl + xs.length) c) (fl + xs.length) (cellsB (frameF b) ++ cellsB xs) :: Y)) => show St w w' (aBy (.slice A (fl + xs.length) c) (frameF b ++ xs) :: Y) from by
          rw [← cellsB_app, ← HFL.out, ← List.length_append] at h
          rw [← HFL.out, ← List.length_append]
          exact h)
        clear hbl hfl2
        go_wp2_with (first
          | (go_at_call 18; (with_reducible refine (HON.out _).mono ?_); rintro e w3 ⟨rfl, hb⟩; have H3 := Lib.hid ((H2.out.trans HR.out).trans hb); clear hb)
          | (go_at_call 8; (with_reducible refine (HF.out _ _ ((St.nil w).later H3.out)).mono ?_); rintro e w4 ⟨v4, rfl, hS⟩; have H4 := Lib.hid hS; obtain ⟨A4, c4, hv4⟩ := hS.bySlice; rw [HFL.out] at hv4; subst hv4; clear hS)
          | (go_at_call 32; (with_reducible refine (sclone_c (H4.out.byBs HFB.out)).mono ?_); rintro e w5 ⟨v5, rfl, r5, hb5⟩; have hS := H4.out.addRow hb5 r5; obtain ⟨A5, c5, hv5⟩ := hS.bySlice; rw [HFL.out] at hv5; subst hv5; have H5 := Lib.hid (show St w w5 (aRow 5 1 (.slice A5 fl c5) fl (cellsB (frameF b)) :: aBy (.slice A4 fl c4) (frameF b) :: []) from by rw [← HFL.out]; rw [← HFL.out] at hS; exact hS); clear hS r5 hb5)
          | (at_builtin; refine wpList_append_St rfl (.tmp 114) (.tmp 115) 22 rfl Tryz.underlying22 info5 rfl Nat.zero_lt_one rfl rfl H5.out (HRX.out _ H5.out.b) o1 g1 g2 ?_; intro A6 c6 w6 hS; have H6 := Lib.hid (HNB.out _ _ _ _ hS); clear hS)
          | (go_at_call 10; (with_reducible refine (HUN.out _ _ (H6.out.byBs HFX.out)).mono ?_); rintro e w7 ⟨v7, rfl, hS⟩; have H7 := Lib.hid (H6.out.onto hS); clear hS)
          | (go_at_call 15; (with_reducible refine (equal68 (H7.out.byBs HBL.out) (HU.out.later H7.out.b)).mono ?_); rintro e w8 ⟨rfl, rfl⟩; simp only [beq_self_eq_true]))
        go_ret
        exact ⟨rfl, H7.out.b⟩
      · have hlt : (524288 : Int) < (b.length : Int) := by omega
        have HF := Lib.hid (fun w' X (h : St w w' X) => frame_no h (HU.out.later h.b) hbl)
        obtain ⟨Ab, cb, rfl⟩ := HU.out.rd.slice
        obtain ⟨bl, hbl2⟩ : ∃ bl, b.length = bl := ⟨_, rfl⟩
        rw [hbl2] at hlt HF ⊢
        clear hbl hbl2
        go_wp2_with (first
          | (go_at_call 18; (with_reducible refine (HON.out _).mono ?_); rintro e w3 ⟨rfl, hb⟩; have H3 := Lib.hid ((H2.out.trans HR.out).trans hb); clear hb)
          | (go_at_call 8; (with_reducible refine (HF.out _ _ ((St.nil w).later H3.out)).mono ?_); rintro e w4 ⟨rfl, rfl⟩))
        go_ret
        exact ⟨rfl, H3.out⟩
end
end Go.Proofs.YtnpjfjgnhadmjaaGreatDoor

/- WalBack: for any two byte strings of bulk at most 1048576 a framed record is read as it was, whatever stands behind, and a log that no call made answers as it should. Condition: the five listed package variables hold what their initialisers lay. -/
namespace Go.Proofs.YtnpjfjgnhadmjaaGreatDoor
open Go.ChangeShapes Go.WideShapes Go.ChangeAt Go.RowKit Go.Deep
set_option linter.unusedVariables false

set_option maxRecDepth 100000 in
theorem walBack_contract (H : Type) (enc : TypeId × Value → H) (W : World) (base : Nat) (args : Array Value) (ds gs : List (DataW H)) (before : List MemPlace)
    (hval : ∀ (j : Nat) t v, Tryz.f5.params[j]? = some t → args[j]? = some v → Value.okWide Tryz.prog W .any base t v)
    (hW : DataW.Whole enc Tryz.prog Tryz.f5.params.toList Rows.walBackSpec.vars false W args.toList ds gs before) (hk : ∀ k, (Rows.OpenSpec.upto Rows.walBackSpec).cond = some k → k H (ds ++ gs) = true)
    (hsz0 : (DataW.weightsEach Tryz.prog (Tryz.f5.params.toList ++ Rows.walBackSpec.plain.varTypes Tryz.prog) (ds ++ gs)).all (· ≤ reachBytes) = true) :
    Calls Tryz.prog 5 args W fun e W' => ∃ v, e = .returned v ∧ Rows.walBackSpec.post enc Tryz.prog Tryz.f5 false true false false W args v W' := by
  have hW' := hW
  obtain ⟨p, q, hA0, hV, rfl, hfz, hnd⟩ := hW
  have hA : DataW.TrodAll enc Tryz.prog W 0 (fun _ => true) true Tryz.f5.params.toList args.toList ds p := hA0
  rw [Tryz.params5] at hA hval
  obtain ⟨rfl, rfl⟩ := trodVars_none hV
  have hsz : (DataW.weightsEach Tryz.prog (Tryz.f5.params.toList ++ []) (ds ++ [])).all (· ≤ reachBytes) = true := hsz0
  rw [Tryz.params5] at hsz
  have hB := uptoBound (hk _ rfl)
  rw [List.append_nil] at hB
  obtain ⟨v0, vs0, d0, ds0, p0, q0, hargs, rfl, rfl, h0, r0⟩ := trodAll_cons hA
  obtain ⟨v1, vs1, d1, ds1, p1, q1, rfl, rfl, rfl, h1, r1⟩ := trodAll_cons r0
  obtain ⟨rfl, rfl, rfl⟩ := trodAll_nil r1
  obtain rfl : args = #[v0, v1] := by cases args; simp_all
  simp only [Rows.uptoBulkAll] at hB
  obtain ⟨b, hb, hbl⟩ := open_bsU Tryz.underlying22 Tryz.underlying5 (by kernel_rfl) (hval 0 22 v0 rfl rfl) h0 (by omega)
  obtain ⟨x, hx, hxl⟩ := open_bsU Tryz.underlying22 Tryz.underlying5 (by kernel_rfl) (hval 1 22 v1 rfl rfl) h1 (by omega)
  refine (walBack_c hb hx (by omega)).mono fun e W' ⟨he, hg⟩ => ?_
  subst he
  exact ⟨_, rfl, law_post prog_laid (by kernel_rfl) rfl ⟨rfl, rfl, rfl⟩ (tb := 4) (by kernel_rfl) Tryz.underlying4 hW' hg⟩
set_option maxRecDepth 100000 in
theorem walBack_reads (os : Os) (H : Type) (enc : TypeId × Value → H) : ∃ places, DataW.whole enc Tryz.prog ((laidWorld os).forCall (fun _ _ => 0) ⟨#[], #[.slice none 0 0, .slice none 0 0], []⟩).memory Tryz.f5.params.toList Rows.walBackSpec.vars false (#[.slice none 0 0, .slice none 0 0] : Array Value).toList 8 = some ([.nil, .nil], [], places) :=
  ⟨[], by kernel_rfl⟩
set_option maxRecDepth 100000 in
theorem walBack_lifted (os : Os) (started : os.Started) (H : Type) (enc : TypeId × Value → H) (F : Stop.Interp) :
    ReturnsInHanded {} Tryz.checked os 5 .any ((Rows.OpenSpec.upto Rows.walBackSpec).preRow enc Tryz.prog Tryz.f5 Rows.walBackUptoRow.domain false Rows.walBackUptoRow.laid) (((Rows.OpenSpec.upto Rows.walBackSpec).at F).post enc Tryz.prog Tryz.f5 false true false false) := by
  obtain ⟨places, hx⟩ := walBack_reads os H enc
  refine returnsInHanded_of_row (C := Tryz.checked) (s := (Rows.OpenSpec.upto Rows.walBackSpec)) prog_own started (by kernel_rfl) Tryz.func5
    (witness_row_atRef (enc := enc) (C := Tryz.checked) false (laidWorld os) #[.slice none 0 0, .slice none 0 0] rfl (by kernel_rfl) (by kernel_rfl) (by kernel_rfl)
      (OpenSpec.preRow_of_cond 8 hx (by kernel_rfl) (fun k hk => by cases hk; kernel_rfl) (by kernel_rfl) (laid_met os _))) ?_
  intro W base args ds gs before hval hW _ hk hsz _ _ _
  exact walBack_contract H enc W base args ds gs before hval hW hk hsz
theorem walBack_said : Rows.WalBackUptoSaid :=
  OpenClaim.holds_of_cond 5 Tryz.f5 rfl rfl rfl rfl rfl rfl rfl ⟨rfl, rfl, rfl, rfl, rfl⟩ rfl rfl rfl rfl rfl (by kernel_rfl) Tryz.func5 (by kernel_rfl)
    (of_decide_eq_true (by kernel_rfl)) (by unfold Func.isWrapper; first | (rw [if_pos (by decide +kernel)]; kernel_rfl) | (rw [if_neg (by decide +kernel)]; exact ⟨rfl, rfl⟩))
    (fun os started H enc _ F => by rw [OpenClaim.pre_eq_preRow]; exact walBack_lifted os started H enc F)
theorem walBack_plain (f : FuncId) (fn : Func) (hf : Tryz.pinned.checked.prog.funcNamed "bulla/bullalaw04.WalBack" = some f) (hfn : Tryz.pinned.checked.prog.funcs[f]? = some fn) :
    true = Tryz.pinned.checked.prog.looks [] ∧ ∀ (j : Nat) t, fn.params[j]? = some t → Tryz.pinned.checked.prog.wantsStandIn t = false := by
  obtain rfl : f = 5 := Option.some.inj ((show Tryz.prog.funcNamed "bulla/bullalaw04.WalBack" = some 5 by kernel_rfl).symm.trans hf) |>.symm
  obtain rfl : fn = Tryz.f5 := (Option.some.inj (Tryz.func5.symm.trans hfn)).symm
  refine ⟨by kernel_rfl, fun j t ht => ?_⟩
  rw [Tryz.params5] at ht
  have hm : t = 22 := by
    have := Array.mem_of_getElem? ht
    simpa using this
  subst hm
  exact (show Tryz.prog.wantsStandIn 22 = false by kernel_rfl)
theorem walBackUpto_holds : Rows.WalBackUptoCardSaid :=
  Claim7.holds_tied_plain_at .later [] _ _ _ _ walBack_said (fun _ h => by cases h) (by kernel_rfl) (fun _ h => by cases h) walBackUpto_row_tie rfl ⟨rfl, rfl⟩ (by kernel_rfl) rfl walBack_plain (by kernel_rfl)
end Go.Proofs.YtnpjfjgnhadmjaaGreatDoor
