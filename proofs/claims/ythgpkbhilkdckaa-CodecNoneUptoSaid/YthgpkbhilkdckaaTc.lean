/- Contracts of the table's methods: New, none, Look, Len, Sum. -/
import Derived.Test.YthgpkbhilkdckaaTb
namespace Go.Proofs.Ythgpkbhilkdckaa
open Go.RowKit
set_option linter.unusedVariables false

set_option maxHeartbeats 400000 in
theorem newTable61 (w : World) : Calls Try.prog 61 #[] w fun e w' => e = .returned (.pointer (some ⟨w.heap.size + 1, 0, none⟩)) ∧ w' = (w.alloc (.map #[] 0)).alloc (.cells #[.slice none 0 0, .map (some w.heap.size)] 105) := by
  have hmm := @run_makeMap Try.prog
  go_enter Try.func61, Try.ntmps61
  go_wp2
  go_ret
  exact ⟨rfl, rfl⟩
theorem TableAt.new (w : World) : TableAt (fun b => b = w.heap.size ∨ b = w.heap.size + 1) ((w.alloc (.map #[] 0)).alloc (.cells #[.slice none 0 0, .map (some w.heap.size)] 105)) (w.heap.size + 1) [] := by
  refine ⟨w.heap.size, .slice none 0 0, [], .inr rfl, .inl rfl, fun g hg => by simp [Value.ownBlock] at hg, ?_, ?_, ⟨rfl, .inl ⟨rfl, rfl⟩⟩, Els.nil _ _⟩
  · have := Blk.new (w.alloc (.map #[] 0)) 105 #[.slice none 0 0, .map (some w.heap.size)]
    simpa using this
  · exact (Mp.new w _ _).later (B.alloc' _ _)

set_option maxHeartbeats 400000 in
theorem tnone113 {own : Nat → Prop} {w : World} {p : Nat} {M : List (List UInt8)} (h : TableAt own w p M) : Calls Try.prog 113 #[.pointer (some ⟨p, 0, none⟩)] w fun e w' => e = .returned (.bool false) ∧ w = w' := by
  obtain ⟨m, v, vs, h1, h2, h3, h4, h5, h6, h7⟩ := h
  have c1 := h4.cell 1
  simp at c1
  have q1 : ∀ w, (binOp .eql 103 (.map (some m)) (.map none)).run Try.prog w = .ok (.bool false) w := fun w => by kernel_rfl
  clear h4 h5 h6 h7
  go_enter Try.func113, Try.ntmps113
  go_wp2
  go_ret
  exact ⟨rfl, rfl⟩

/-- facts of a table that hold in all later worlds -/
theorem Table.facts {own : Nat → Prop} {w : World} {p : Nat} {M : List (List UInt8)} (h : TableAt own w p M) : ∃ (m : Nat) (A : Option Addr) (cap : Nat), ∀ w', B w w' →
    TableAt own w' p M ∧ w'.cell? ⟨p, 0, none⟩ = some (.slice A M.length cap) ∧ w'.cell? ⟨p, 1, none⟩ = some (.map (some m)) ∧ ∀ b, (Instr.lookup 103 (.map (some m)) (.string (bstr b)) true).run Try.prog w' = .ok (.tuple #[.int .i64 (lkN M b), .bool (lkB M b)]) w' := by
  obtain ⟨m, v, vs, h1, h2, h3, h4, h5, h6, h7⟩ := id h
  obtain ⟨A, cap, hv⟩ : ∃ A cap, v = .slice A M.length cap := by
    rcases h6.2 with ⟨rfl, h0⟩ | ⟨g, cap, cur, rfl, _⟩
    · exact ⟨none, 0, by rw [h0]⟩
    · exact ⟨_, cap, rfl⟩
  refine ⟨m, A, cap, fun w' hb => ⟨h.later hb, by rw [(h4.later hb).cell 0, ← hv]; rfl, by rw [(h4.later hb).cell 1]; rfl, fun b => run_lookup103 (h5.later hb) b⟩⟩

set_option maxHeartbeats 400000 in
theorem look66 {own : Nat → Prop} {w : World} {p : Nat} {M : List (List UInt8)} (h : TableAt own w p M) {v : Value} {b : List UInt8} (hb : Bs w v b) :
    Calls Try.prog 66 #[.pointer (some ⟨p, 0, none⟩), v] w fun e w' => e = .returned (.tuple #[.int .i64 (lkN M b), .bool (lkB M b)]) ∧ B w w' := by
  obtain ⟨m, A, cap, hf⟩ := Table.facts h
  have l1 : ∀ w', B w w' → w'.cell? ⟨p, 1, none⟩ = some (.map (some m)) := fun w' hb => (hf w' hb).2.2.1
  have l2 : ∀ w', B w w' → (Instr.lookup 103 (.map (some m)) (.string (bstr b)) true).run Try.prog w' = .ok (.tuple #[.int .i64 (lkN M b), .bool (lkB M b)]) w' := fun w' hb => (hf w' hb).2.2.2 b
  have l3 : ∀ w', B w w' → (convert 47 9 v).run Try.prog w' = .ok (.string (bstr b)) w' := fun w' h => (hb.later h).conv Try.underlying47 Try.underlying5 Try.underlying9
  clear hf hb
  go_enter Try.func66, Try.ntmps66
  go_wp2_with (first | (go_at_call 113; refine (tnone113 h).mono ?_; rintro e wn ⟨rfl, rfl⟩))
  go_region_held3 (fun w' => B w w') (first | assumption | exact (Below.refl _ _).drew) (fail)
  go_wp2
  go_ret2
  exact ⟨rfl, ‹B w _›⟩

set_option maxHeartbeats 400000 in
theorem len54 {own : Nat → Prop} {w : World} {p : Nat} {M : List (List UInt8)} (h : TableAt own w p M) : Calls Try.prog 54 #[.pointer (some ⟨p, 0, none⟩)] w fun e w' => e = .returned (.int .i64 (M.length : Int)) ∧ w = w' := by
  obtain ⟨m, A, cap, hf⟩ := Table.facts h
  have l1 := (hf w (Below.refl _ _)).2.1
  clear hf
  go_enter Try.func54, Try.ntmps54
  go_wp2_with (first | (go_at_call 113; refine (tnone113 h).mono ?_; rintro e wn ⟨rfl, rfl⟩))
  go_ret
  exact ⟨rfl, rfl⟩

/-- what Sum answers, and what the table holds behind it -/
def sumN (M : List (List UInt8)) (b : List UInt8) : Int := if b ∈ M then lkN M b else if 1048576 ≤ M.length then 0 else ((M.length + 1 : Nat) : Int)
def sumM (M : List (List UInt8)) (b : List UInt8) : List (List UInt8) := if b ∈ M then M else if 1048576 ≤ M.length then M else M ++ [b]
def SumPost (own : Nat → Prop) (w : World) (p : Nat) (M : List (List UInt8)) (b : List UInt8) (e : Ending) (w' : World) : Prop :=
  e = .returned (.int .i64 (sumN M b)) ∧ TableAt (fun x => own x ∨ w.heap.size ≤ x) w' p (sumM M b) ∧ Ext own w w'
theorem SumPost.same {own : Nat → Prop} {w w' : World} {p : Nat} {M : List (List UInt8)} {b : List UInt8} {n : Int} (h : TableAt own w p M) (hb : B w w') (h1 : n = sumN M b) (h2 : sumM M b = M) :
    SumPost own w p M b (.returned (.int .i64 n)) w' := ⟨by rw [h1], by rw [h2]; exact (h.later hb).mono (fun _ => .inl), Ext.of_B hb⟩

set_option maxHeartbeats 400000 in
theorem sum52_had {own : Nat → Prop} {w : World} {p : Nat} {M : List (List UInt8)} (h : TableAt own w p M) {v : Value} {b : List UInt8} (hb : Bs w v b) (hm : b ∈ M) :
    Calls Try.prog 52 #[.pointer (some ⟨p, 0, none⟩), v] w (SumPost own w p M b) := by
  obtain ⟨m, A, cap, hf⟩ := Table.facts h
  have hB : lkB M b = true := by
    unfold lkB
    cases e : look b M 0 with
    | none => exact absurd hm (look_none.1 e)
    | some d => rfl
  have E := Lib.hid (fun (w' : World) (hb : B w w') => SumPost.same (b := b) (n := lkN M b) h hb (by simp [sumN, hm]) (by simp [sumM, hm]))
  have l1 : ∀ w', B w w' → w'.cell? ⟨p, 1, none⟩ = some (.map (some m)) := fun w' hb => (hf w' hb).2.2.1
  have l2 : ∀ w', B w w' → (Instr.lookup 103 (.map (some m)) (.string (bstr b)) true).run Try.prog w' = .ok (.tuple #[.int .i64 (lkN M b), .bool true]) w' := fun w' hb => by rw [(hf w' hb).2.2.2 b, hB]
  have l3 : ∀ w', B w w' → (convert 47 9 v).run Try.prog w' = .ok (.string (bstr b)) w' := fun w' h => (hb.later h).conv Try.underlying47 Try.underlying5 Try.underlying9
  clear hf hb hB hm
  go_enter Try.func52, Try.ntmps52
  go_wp2_with (first | (go_at_call 113; refine (tnone113 h).mono ?_; rintro e wn ⟨rfl, rfl⟩))
  go_region_held3 (fun w' => B w w') (first | assumption | exact (Below.refl _ _).drew) (fail)
  go_wp2
  go_ret
  exact E.out _ ‹B w _›
set_option maxHeartbeats 400000 in
theorem sum52_full {own : Nat → Prop} {w : World} {p : Nat} {M : List (List UInt8)} (h : TableAt own w p M) {v : Value} {b : List UInt8} (hb : Bs w v b) (hm : b ∉ M) (hn : 1048576 ≤ M.length) :
    Calls Try.prog 52 #[.pointer (some ⟨p, 0, none⟩), v] w (SumPost own w p M b) := by
  obtain ⟨m, A, cap, hf⟩ := Table.facts h
  have hB : lkB M b = false := by unfold lkB; rw [look_none.2 hm]; rfl
  have E := Lib.hid (fun (w' : World) (hb : B w w') => SumPost.same (b := b) (n := 0) h hb (by simp [sumN, hm, hn]) (by simp [sumM, hm, hn]))
  have l0 : ∀ w', B w w' → w'.cell? ⟨p, 0, none⟩ = some (.slice A M.length cap) := fun w' hb => (hf w' hb).2.1
  have l1 : ∀ w', B w w' → w'.cell? ⟨p, 1, none⟩ = some (.map (some m)) := fun w' hb => (hf w' hb).2.2.1
  have l2 : ∀ w', B w w' → (Instr.lookup 103 (.map (some m)) (.string (bstr b)) true).run Try.prog w' = .ok (.tuple #[.int .i64 (lkN M b), .bool false]) w' := fun w' hb => by rw [(hf w' hb).2.2.2 b, hB]
  have l3 : ∀ w', B w w' → (convert 47 9 v).run Try.prog w' = .ok (.string (bstr b)) w' := fun w' h => (hb.later h).conv Try.underlying47 Try.underlying5 Try.underlying9
  have hd : decide ((1048576 : Int) ≤ (M.length : Int)) = true := decide_eq_true (by omega)
  clear hf hb hB hm hn
  go_enter Try.func52, Try.ntmps52
  go_wp2_with (first | (go_at_call 113; refine (tnone113 h).mono ?_; rintro e wn ⟨rfl, rfl⟩))
  go_region_held3 (fun w' => B w w') (first | assumption | exact (Below.refl _ _).drew) (fail)
  go_wp2
  go_ret
  exact E.out _ ‹B w _›

theorem info47 : (Try.prog.info? 47).map (fun i => (i.zero, i.size, i.bytes)) = some (some (.slice none 0 0), 1, 24) := by kernel_rfl
set_option maxRecDepth 20000 in
set_option maxHeartbeats 1000000 in
theorem sum52_new {own : Nat → Prop} {w : World} {p : Nat} {M : List (List UInt8)} (h : TableAt own w p M) {v : Value} {b : List UInt8} (hb : Bs w v b) (hvo : ∀ g, v.ownBlock = some g → b ≠ [] → ¬ own g) (hm : b ∉ M) (hn : M.length < 1048576) :
    Calls Try.prog 52 #[.pointer (some ⟨p, 0, none⟩), v] w (SumPost own w p M b) := by
  obtain ⟨m, A, cap, hf⟩ := Table.facts h
  have hB : lkB M b = false := by unfold lkB; rw [look_none.2 hm]; rfl
  have E1 := Lib.hid (show ((M.length + 1 : Nat) : Int) = sumN M b by unfold sumN; rw [if_neg hm, if_neg (by omega)])
  have E2 := Lib.hid (show M ++ [b] = sumM M b by unfold sumM; rw [if_neg hm, if_neg (by omega)])
  have l0 : ∀ w', B w w' → w'.cell? ⟨p, 0, none⟩ = some (.slice A M.length cap) := fun w' hb => (hf w' hb).2.1
  have l1 : ∀ w', B w w' → w'.cell? ⟨p, 1, none⟩ = some (.map (some m)) := fun w' hb => (hf w' hb).2.2.1
  have l2 : ∀ w', B w w' → (Instr.lookup 103 (.map (some m)) (.string (bstr b)) true).run Try.prog w' = .ok (.tuple #[.int .i64 (lkN M b), .bool false]) w' := fun w' hb => by rw [(hf w' hb).2.2.2 b, hB]
  have l3 : ∀ w', B w w' → (convert 47 9 v).run Try.prog w' = .ok (.string (bstr b)) w' := fun w' h => (hb.later h).conv Try.underlying47 Try.underlying5 Try.underlying9
  have hd : decide ((1048576 : Int) ≤ (M.length : Int)) = false := decide_eq_false (by omega)
  have hn' := Lib.hid hn
  have hm' := Lib.hid hm
  clear hB hm hn hf
  go_enter Try.func52, Try.ntmps52
  go_wp2_with (first | (go_at_call 113; refine (tnone113 h).mono ?_; rintro e wn ⟨rfl, rfl⟩))
  go_region_held3 (fun w' => B w w') (first | assumption | exact (Below.refl _ _).drew) (fail)
  go_wp2
  -- the append
  obtain ⟨m', v0, vs, k1, k2, k3, k4, k5, k6, k7⟩ := id h
  have hB2 : B w w.drew.drew := (Below.refl _ _).drew.drew
  obtain ⟨i0, hi, hz0, hz1, hz2⟩ := info_parts info47
  have hv0 : v0 = .slice A M.length cap := by
    have e1 := k4.cell 0
    rw [l0 w (Below.refl _ _)] at e1
    simpa using e1.symm
  subst hv0
  have mlt := k5.lt
  have plt := k4.lt
  have glt := fun g => row_lt k6 (g := g)
  clear l1 l2 l3
  go_region_law (first
    | (refine step_call rfl 89 #[.tmp 33] #[47] rfl Try.call89 (clone89 (hb.later hB2)) rfl ?_; rintro e wn ⟨v1, rfl, ho, hbn⟩; obtain ⟨A1, c1, rfl⟩ := own_slice ho; refine ⟨_, rfl, ?_⟩; have hBn : B w wn := hB2.trans hbn; have pa := l0 _ hBn; have pb := l0 _ (hBn.trans (B.alloc' _ (.cells #[.slice A1 b.length c1] 47))); obtain ⟨v2, w2, hrun, r1, r2, _, r3⟩ := run_append_own_at (P := Try.prog) (wn.alloc (.cells #[.slice A1 b.length c1] 47)) 0 46 46 47 i0 (.slice none 0 0) 1 24 Try.underlying46 hi hz0 hz1 hz2 rfl (by omega) (.slice A M.length cap) M.length vs (row_later k6 (hBn.trans (B.alloc' _ _))) ⟨wn.heap.size, 0, none⟩ 1 1 [.slice A1 b.length c1] rfl (cell_one_new _ _ _) (by simp [Value.oneCell']) (by have := hn'.out; unfold maxLen; omega) (by have := hn'.out; omega) (by omega); obtain ⟨gn, cap', rfl, _, hgl⟩ := r1.form (by omega); have q4 := ((k4.later hBn).alloc (.cells #[.slice A1 b.length c1] 47)).grown r2 (fun e => row_ne k6 k4 (by decide) e.symm); have p0 := q4.cell 0; have pf := q4.frozen 0; simp at p0)
    | (refine step_append_run rfl (.tmp 32) (.tmp 35) 46 rfl rfl rfl hrun ?_))
  all_goals
    go_wp2
    have hBa := hBn.trans (B.alloc' wn (.cells #[.slice A1 b.length c1] 47))
    have hgx : Ext (fun g => some g = (Value.slice A M.length cap).ownBlock) (wn.alloc (.cells #[.slice A1 b.length c1] 47)) w2 := (Ext.refl _ _).grown r2 (fun g e _ => e.symm)
    have hsx : ∀ u, Ext (fun g => g = p) w2 (w2.setCell ⟨p, 0, none⟩ u) := fun u => (Ext.refl (fun g => g = p) w2).set (p := ⟨p, 0, none⟩) (fun _ => rfl) u
    have mP : ¬ p = m' := fun e => k5.ne k4 e.symm
    have hx0 := ((Ext.of_B (own := own) hBa).grown r2 (fun g e _ => k3 g e)).set (p := ⟨p, 0, none⟩) (fun _ => k1) (.slice (some ⟨gn, 0, none⟩) (M.length + 1) cap')
    have hgo : own gn ∨ w.heap.size ≤ gn := by
      rcases r3 with e | e
      · exact .inl (k3 gn (by rw [← e]; rfl))
      · have : gn = (wn.alloc (.cells #[.slice A1 b.length c1] 47)).heap.size := by simpa [Value.ownBlock] using e
        have := hBa.size
        right; omega
    have f4 := q4.set_ 0 (.slice (some ⟨gn, 0, none⟩) (M.length + 1) cap')
    have f5 := ((k5.later hBa).ext hgx (fun e => row_no (row_later k6 hBa) (k5.later hBa) e.symm rfl)).ext (hsx (.slice (some ⟨gn, 0, none⟩) (M.length + 1) cap')) (fun e => mP e.symm)
    have f6 := row_ext r1 (hsx (.slice (some ⟨gn, 0, none⟩) (M.length + 1) cap')) (fun g hg e => row_ne r1 q4 (by decide) (by rw [hg, e]))
    have f7 := ((k7.later hBa).ext hgx (fun g cs _ hB' e => row_ne (row_later k6 hBa) hB' (by decide) e.symm)).ext (hsx (.slice (some ⟨gn, 0, none⟩) (M.length + 1) cap')) (fun g cs _ hB' e => by subst e; exact Blk.ne hB' q4 (by decide) rfl)
    have f8 := row_ext (row_ext (row_later ho (B.alloc' _ (.cells #[.slice A1 b.length c1] 47))) hgx (fun g hg e => row_row (row_later k6 hBa) (row_later ho (B.alloc' _ (.cells #[.slice A1 b.length c1] 47))) (by decide) e.symm hg)) (hsx (.slice (some ⟨gn, 0, none⟩) (M.length + 1) cap')) (fun g hg e => row_ne (row_ext (row_later ho (B.alloc' _ (.cells #[.slice A1 b.length c1] 47))) hgx (fun g hg e => row_row (row_later k6 hBa) (row_later ho (B.alloc' _ (.cells #[.slice A1 b.length c1] 47))) (by decide) e.symm hg)) q4 (by decide) (by rw [hg, e]))
    have f9 := hb.ext hx0 hvo
    have c1' := f4.cell 1
    simp at c1'
    generalize w2.setCell ⟨p, 0, none⟩ (.slice (some ⟨gn, 0, none⟩) (M.length + 1) cap') = wF at *
    obtain ⟨wG, hup, g5, hxG⟩ := update103 (w := wF.drew) f5 b hm'.out
    have hup' : (Instr.mapUpdate 103 (.map (some m')) (.string (bstr b)) (.int .i64 ((M.length : Int) + 1))).run Try.prog wF.drew = .ok () wG := hup
    have hcv : (convert 47 9 v).run Try.prog wF.drew = .ok (.string (bstr b)) wF.drew := Bs.conv (w := wF.drew) (f9.later (Below.refl _ _).drew) Try.underlying47 Try.underlying5 Try.underlying9
    clear p0 pf pa pb hrun l0 hup
    go_region
    go_wp2
    go_ret
    have g4 := Blk.ext (w := wF.drew) f4 hxG mP
    have g6 := row_ext (w := wF.drew) f6 hxG (fun g hg => row_no f6 f5 hg)
    have g7 := Els.ext (w := wF.drew) f7 hxG (fun g cs _ hB' e => by subst e; exact f5.ne hB' rfl)
    have g8 := row_ext (w := wF.drew) f8 hxG (fun g hg => row_no f8 f5 hg)
    have hxZ : Ext own w wG := hx0.drew.trans hxG (fun x _ e => by subst e; exact k2)
    refine ⟨retI E1.out, ?_, hxZ⟩
    rw [← E2.out]
    refine ⟨m', .slice (some ⟨gn, 0, none⟩) (M.length + 1) cap', vs ++ [.slice A1 b.length c1], .inl k1, .inl k2, fun g hg => ?_, by simpa using g4, g5, by simpa using g6, (g7.mono (fun _ => .inl)).snoc (row_base g8 (by omega)) hb.len (fun g hg => .inr (row_ge g8 hg))⟩
    have : g = gn := by simpa [Value.ownBlock] using hg.symm
    rw [this]; exact hgo

theorem sum52 {own : Nat → Prop} {w : World} {p : Nat} {M : List (List UInt8)} (h : TableAt own w p M) {v : Value} {b : List UInt8} (hb : Bs w v b) (hvo : ∀ g, v.ownBlock = some g → b ≠ [] → ¬ own g) :
    Calls Try.prog 52 #[.pointer (some ⟨p, 0, none⟩), v] w (SumPost own w p M b) := by
  by_cases hm : b ∈ M
  · exact sum52_had h hb hm
  · by_cases hn : 1048576 ≤ M.length
    · exact sum52_full h hb hm hn
    · exact sum52_new h hb hvo hm (by omega)
end Go.Proofs.Ythgpkbhilkdckaa
