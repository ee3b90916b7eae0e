/- A table and a ledger that no call made: what their methods return. Plain with its rows told. -/
import Derived.Test.YthgpkbhilkdckaaRz
import Derived.Test.YthgpkbhilkdckaaLg
namespace Go.Proofs.Ythgpkbhilkdckaa
open Go.RowKit
set_option linter.unusedVariables false

/-- nil, or a struct that no call made -/
def NoOne (T : TypeId) (w : World) (v : Value) : Prop := v = .pointer none ∨ ∃ p, v = .pointer (some ⟨p, 0, none⟩) ∧ Blk w p T #[.slice none 0 0, .map none]
theorem NoOne.later {T : TypeId} {w w' : World} {v : Value} (h : NoOne T w v) (hb : B w w') : NoOne T w' v := by
  rcases h with h | ⟨p, h, hk⟩
  · exact .inl h
  · exact .inr ⟨p, h, hk.later hb⟩

theorem tnone113n {w : World} {v : Value} (h : NoOne 105 w v) : Calls Try.prog 113 #[v] w fun e w' => e = .returned (.bool true) ∧ w = w' := by
  rcases h with rfl | ⟨p, rfl, hk⟩
  · go_enter Try.func113, Try.ntmps113
    go_wp2
    go_ret
    exact ⟨rfl, rfl⟩
  · have c1 := hk.cell 1
    simp at c1
    have q1 : ∀ w, (binOp .eql 103 (.map none) (.map none)).run Try.prog w = .ok (.bool true) w := fun w => by kernel_rfl
    clear hk
    go_enter Try.func113, Try.ntmps113
    go_wp2
    go_ret
    exact ⟨rfl, rfl⟩

theorem lnone109n {w : World} {v : Value} (h : NoOne 109 w v) : Calls Try.prog 109 #[v] w fun e w' => e = .returned (.bool true) ∧ w = w' := by
  rcases h with rfl | ⟨p, rfl, hk⟩
  · go_enter Try.func109, Try.ntmps109
    go_wp2
    go_ret
    exact ⟨rfl, rfl⟩
  · have c1 := hk.cell 1
    simp at c1
    have q1 : ∀ w, (binOp .eql 107 (.map none) (.map none)).run Try.prog w = .ok (.bool true) w := fun w => by kernel_rfl
    clear hk
    go_enter Try.func109, Try.ntmps109
    go_wp2
    go_ret
    exact ⟨rfl, rfl⟩

theorem look66n {w : World} {v : Value} (h : NoOne 105 w v) (x : Value) : Calls Try.prog 66 #[v, x] w fun e w' => e = .returned (.tuple #[.int .i64 0, .bool false]) ∧ B w w' := by
  have H := Lib.hid h
  clear h
  go_enter Try.func66, Try.ntmps66
  go_wp2_with (first | (go_at_call 113; refine (tnone113n H.out).mono ?_; rintro e wn ⟨rfl, rfl⟩))
  go_ret2
  exact ⟨rfl, Below.refl _ _⟩

theorem open64n {w : World} {v : Value} (h : NoOne 105 w v) (d : Int) : Calls Try.prog 64 #[v, .int .i64 d] w fun e w' => e = .returned (.tuple #[.slice none 0 0, .bool false]) ∧ B w w' := by
  have H := Lib.hid h
  clear h
  go_enter Try.func64, Try.ntmps64
  go_wp2_with (first | (go_at_call 113; refine (tnone113n H.out).mono ?_; rintro e wn ⟨rfl, rfl⟩))
  go_ret2
  exact ⟨rfl, Below.refl _ _⟩

theorem sum52n {w : World} {v : Value} (h : NoOne 105 w v) (x : Value) : Calls Try.prog 52 #[v, x] w fun e w' => e = .returned (.int .i64 0) ∧ B w w' := by
  have H := Lib.hid h
  clear h
  go_enter Try.func52, Try.ntmps52
  go_wp2_with (first | (go_at_call 113; refine (tnone113n H.out).mono ?_; rintro e wn ⟨rfl, rfl⟩))
  go_ret
  exact ⟨rfl, Below.refl _ _⟩

theorem len54n {w : World} {v : Value} (h : NoOne 105 w v)  : Calls Try.prog 54 #[v] w fun e w' => e = .returned (.int .i64 0) ∧ B w w' := by
  have H := Lib.hid h
  clear h
  go_enter Try.func54, Try.ntmps54
  go_wp2_with (first | (go_at_call 113; refine (tnone113n H.out).mono ?_; rintro e wn ⟨rfl, rfl⟩))
  go_ret
  exact ⟨rfl, Below.refl _ _⟩

theorem plain51n {w : World} {v : Value} (h : NoOne 105 w v)  : Calls Try.prog 51 #[v] w fun e w' => e = .returned (.slice none 0 0) ∧ B w w' := by
  have H := Lib.hid h
  clear h
  go_enter Try.func51, Try.ntmps51
  go_wp2_with (first | (go_at_call 113; refine (tnone113n H.out).mono ?_; rintro e wn ⟨rfl, rfl⟩))
  go_ret
  exact ⟨rfl, Below.refl _ _⟩

theorem tclone62n {w : World} {v : Value} (h : NoOne 105 w v)  : Calls Try.prog 62 #[v] w fun e w' => e = .returned (.pointer none) ∧ B w w' := by
  have H := Lib.hid h
  clear h
  go_enter Try.func62, Try.ntmps62
  go_wp2_with (first | (go_at_call 113; refine (tnone113n H.out).mono ?_; rintro e wn ⟨rfl, rfl⟩))
  go_ret
  exact ⟨rfl, Below.refl _ _⟩

theorem signs59n {w : World} {v : Value} (h : NoOne 109 w v)  : Calls Try.prog 59 #[v] w fun e w' => e = .returned (.slice none 0 0) ∧ B w w' := by
  have H := Lib.hid h
  clear h
  go_enter Try.func59, Try.ntmps59
  go_wp2_with (first | (go_at_call 109; refine (lnone109n H.out).mono ?_; rintro e wn ⟨rfl, rfl⟩))
  go_ret
  exact ⟨rfl, Below.refl _ _⟩

theorem llen60n {w : World} {v : Value} (h : NoOne 109 w v)  : Calls Try.prog 60 #[v] w fun e w' => e = .returned (.int .i64 0) ∧ B w w' := by
  have H := Lib.hid h
  clear h
  go_enter Try.func60, Try.ntmps60
  go_wp2_with (first | (go_at_call 109; refine (lnone109n H.out).mono ?_; rintro e wn ⟨rfl, rfl⟩))
  go_ret
  exact ⟨rfl, Below.refl _ _⟩

theorem lclone55n {w : World} {v : Value} (h : NoOne 109 w v)  : Calls Try.prog 55 #[v] w fun e w' => e = .returned (.pointer none) ∧ B w w' := by
  have H := Lib.hid h
  clear h
  go_enter Try.func55, Try.ntmps55
  go_wp2_with (first | (go_at_call 109; refine (lnone109n H.out).mono ?_; rintro e wn ⟨rfl, rfl⟩))
  go_ret
  exact ⟨rfl, Below.refl _ _⟩

theorem sign25n {w : World} {v : Value} (h : NoOne 109 w v) (k d : Int) : Calls Try.prog 25 #[v, .int .i64 k, .int .i64 d] w fun e w' => e = .returned (.tuple #[.agg #[.int .i64 0, .int .i64 0], .int .i64 2]) ∧ B w w' := by
  have H := Lib.hid (h.later (B.alloc' w (.cells #[.int .i64 0, .int .i64 0] 25)))
  clear h
  go_enter Try.func25, Try.ntmps25
  go_wp2_with (first | (go_at_call 109; refine (lnone109n H.out).mono ?_; rintro e wn ⟨rfl, rfl⟩))
  exact bodyPost_ret (v := .tuple #[.agg #[.int .i64 0, .int .i64 0], .int .i64 2]) (by simp [results, Try.results25, go_sem]) rfl ⟨rfl, by first | exact B.alloc' _ _ | exact (B.alloc' _ _).setCell (by simp) _ | exact ((B.alloc' _ _).setCell (by simp) _).setCell (by simp) _⟩
theorem signed26n {w : World} {v : Value} (h : NoOne 109 w v) (k d : Int) : Calls Try.prog 26 #[v, .agg #[.int .i64 k, .int .i64 d]] w fun e w' => e = .returned (.bool false) ∧ B w w' := by
  have H := Lib.hid (fun w' (hb : B (w.alloc (.cells #[.int .i64 k, .int .i64 d] 25)) w') => lnone109n (h.later ((B.alloc' w (.cells #[.int .i64 k, .int .i64 d] 25)).trans hb)))
  clear h
  go_enter Try.func26, Try.ntmps26
  go_wp2_with fail
  go_quiet ((go_at_call 109; exact Calls.quiet_of_same ((H.out _ (B.drewN _ _)).mono fun _ _ ⟨a, b⟩ => ⟨a, b.symm⟩)))
  go_wp2
  go_ret
  exact ⟨rfl, (B.alloc' _ _).trans (B.drewN _ _)⟩

def PlainRows (w : World) (M : List (List UInt8)) (e : Ending) (w' : World) : Prop := ∃ v' vs, e = .returned v' ∧ w'.ownsRow w.heap.size 47 1 v' M.length vs ∧ Els (fun g => w.heap.size ≤ g) w' vs M ∧ B w w'
set_option maxRecDepth 20000 in
set_option maxHeartbeats 1000000 in
theorem plain51o {own : Nat → Prop} {w : World} {p : Nat} {M : List (List UInt8)} (h : TableAt own w p M) (hlen : M.length ≤ 1048576) : Calls Try.prog 51 #[.pointer (some ⟨p, 0, none⟩)] w (PlainRows w M) := by
  obtain ⟨u, c0, hL⟩ := h.lss
  obtain ⟨A, cap, rfl, hn, hc, hm, hr⟩ := hL
  have HR := Lib.hid hr
  have H := Lib.hid h
  have HL := Lib.hid hlen
  clear hr hn hc hm h hlen
  go_enter Try.func51, Try.ntmps51
  go_wp2_with (first | (go_at_call 113; refine (tnone113 H.out).mono ?_; rintro e wn ⟨rfl, rfl⟩))
  clear c0
  go_loopw [3, 14] (fun v i wr => ∃ (q : Nat) (vs : List Value), q ≤ M.length ∧ i = .int .i64 q ∧ wr.ownsRow w.heap.size 47 1 v q vs ∧ Els (fun g => w.heap.size ≤ g) wr vs (M.take q) ∧ B w wr) (fun _ i _ => M.length - (intOf i).toNat)
  case atStart => exact ⟨0, [], Nat.zero_le _, rfl, ownNil _ _ _ _, Els.nil _ _, Below.refl _ _⟩
  case round =>
    obtain ⟨q, vs, hq, rfl, ho, hE, hB⟩ := hrel
    by_cases hlt : q < M.length
    · obtain ⟨b, off, rfl, hb, _, hc⟩ := HR.out (by omega)
      obtain ⟨u1, k1, k2, _⟩ := hc q _ (List.getElem?_eq_getElem hlt)
      have k1 := hB.cell k1
      have k4 := k2.later hB
      have HS := Lib.hid (List.getElem?_eq_getElem hlt)
      have hqi : (q : Int) < M.length := by omega
      generalize M[q] = x at *
      have hMl : (M.take q).length = q := by simp; omega
      have E := Lib.hid (show M.take q ++ [x] = M.take (q + 1) by rw [List.take_add_one, HS.out]; rfl)
      have HM := Lib.hid hMl
      have g5 : q + 1 ≤ maxLen := by have := HL.out; unfold maxLen; omega
      have g6 : (q + 1) * 24 ≤ 140737488355328 := by have := HL.out; omega
      have ho2 : ∀ (A : Option Addr) (n c : Nat), ∀ x ∈ [Value.slice A n c], x.oneCell' = true := fun A n c => by simp [Value.oneCell']
      obtain ⟨A3, c3, rfl⟩ := own_slice ho
      have HO := Lib.hid ho
      have hBs := hB.size
      have hcl := Lib.hid (clone89 k4)
      have K4L := Lib.hid k4.len
      clear hc k2 hMl ho k4
      go_wp2_with (first
        | (go_at_call 89; refine hcl.out.mono ?_; rintro e w1 ⟨v1, rfl, r1, hb1⟩; obtain ⟨A1, c1, rfl⟩ := own_slice r1; have hb1s := hb1.size; have hq1 := row_later HO.out (hb1.trans (B.alloc' _ (.cells #[.slice A1 x.length c1] 47))))
        | (refine wpList_append_Rd (v := .slice A3 q c3) rfl (.tmp 18) (.tmp 21) 46 rfl Try.underlying46 info47 rfl Nat.zero_lt_one rfl rfl hq1 (Rd.one _ _ _) (ho2 _ _ _) g5 g6 (Nat.le_trans hBs (Nat.le_trans hb1s (B.alloc' _ _).size)) ?_; intro A4 c4 w4 r4 x4 y4))
      have hBa := hb1.trans (B.alloc' w1 (.cells #[.slice A1 x.length c1] 47))
      have hgx : Ext (fun g => some g = (Value.slice A3 q c3).ownBlock) (w1.alloc (.cells #[.slice A1 x.length c1] 47)) w4 := (Ext.refl _ _).grown x4 (fun g e _ => e.symm)
      have hB4 : B w w4 := B.grown (hB.trans hBa) x4 (fun k hk => row_ge HO.out hk)
      have f7 := (hE.later hBa).ext hgx (fun g cs _ hB' e => row_ne hq1 hB' (by decide) e.symm)
      have q2 := row_later r1 (B.alloc' w1 (.cells #[.slice A1 x.length c1] 47))
      have q3 := row_ext q2 hgx (fun g hg e => row_row hq1 q2 (by decide) e.symm hg)
      have f8 := f7.snoc (row_base q3 (Nat.zero_le _)) K4L.out (fun g hg => by have := row_ge q2 hg; omega)
      rw [E.out] at f8
      clear k1 hE hq1 q2 q3 f7 hgx x4 r1
      go_roundw
      case rel => exact ⟨q + 1, _, by omega, by go_num, r4, f8, hB4⟩
      case measure => simp [intOf]; omega
    · have hqi : ¬ (q : Int) < M.length := by omega
      have e1 : q = M.length := by omega
      subst e1
      rw [List.take_length] at hE
      go_wp2_with fail
      go_ret
      exact ⟨_, _, rfl, ho, hE, hB⟩

end Go.Proofs.Ythgpkbhilkdckaa
