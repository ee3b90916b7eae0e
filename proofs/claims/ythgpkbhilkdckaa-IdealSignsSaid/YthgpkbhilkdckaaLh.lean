/- Sign of the reference's ledger. -/
import Derived.Test.YthgpkbhilkdckaaLg
namespace Go.Proofs.Ythgpkbhilkdckaa
open Go.RowKit
set_option linter.unusedVariables false

def RSignPost (own : Nat → Prop) (w : World) (p : Nat) (a b : Int) (s : List (Int × Int)) (e : Ending) (w' : World) : Prop :=
  e = .returned (.tuple #[.agg #[.int .i64 (sgnV a b).1, .int .i64 (sgnV a b).2], .int .i64 (sgnE a b)]) ∧ RefL (fun x => own x ∨ w.heap.size ≤ x) w' p (sgnS a b s) ∧ Ext own w w'
theorem RSignPost.same {own : Nat → Prop} {w w' : World} {p : Nat} {a b c d f : Int} {s : List (Int × Int)} (h : RefL own w p s) (hb : B w w') (h1 : sgnV a b = (c, d)) (h2 : sgnE a b = f) (h3 : sgnS a b s = s) :
    RSignPost own w p a b s (.returned (.tuple #[.agg #[.int .i64 c, .int .i64 d], .int .i64 f])) w' :=
  ⟨by rw [h1, h2], by rw [h3]; exact (h.later hb).mono (fun _ => .inl), Ext.of_B hb⟩

set_option maxHeartbeats 400000 in
theorem rsign56_key {own : Nat → Prop} {w : World} {p : Nat} {s : List (Int × Int)} (h : RefL own w p s) (a b : Int) (ha : a < 0 ∨ 21 ≤ a) : Calls Try.prog 56 #[.pointer (some ⟨p, 0, none⟩), .int .i64 a, .int .i64 b] w (RSignPost own w p a b s) := by
  have hE : sgnE a b = 20 := if_pos ha
  have E := Lib.hid (RSignPost.same (a := a) (b := b) (c := 0) (d := 0) (f := 20) h (w' := (w.alloc (.cells #[.int .i64 0, .int .i64 0] 25))) (B.alloc' _ _) (by simp [sgnV, hE]) hE (by simp [sgnS, hE]))
  clear h hE
  rcases ha with ha | ha
  · go_enter Try.func56, Try.ntmps56
    go_wp2
    exact bodyPost_ret (v := .tuple #[.agg #[.int .i64 0, .int .i64 0], .int .i64 20]) (by simp [results, Try.results56, go_sem]) rfl E.out
  · have ha' : ¬ a < 0 := by omega
    go_enter Try.func56, Try.ntmps56
    go_wp2
    exact bodyPost_ret (v := .tuple #[.agg #[.int .i64 0, .int .i64 0], .int .i64 20]) (by simp [results, Try.results56, go_sem]) rfl E.out
set_option maxHeartbeats 400000 in
theorem rsign56_dig {own : Nat → Prop} {w : World} {p : Nat} {s : List (Int × Int)} (h : RefL own w p s) (a b : Int) (ha : 0 ≤ a ∧ a < 21) (hb : b < 1) : Calls Try.prog 56 #[.pointer (some ⟨p, 0, none⟩), .int .i64 a, .int .i64 b] w (RSignPost own w p a b s) := by
  have hE : sgnE a b = 1 := by unfold sgnE; rw [if_neg (by omega), if_pos hb]
  have E := Lib.hid (RSignPost.same (a := a) (b := b) (c := 0) (d := 0) (f := 1) h (w' := (w.alloc (.cells #[.int .i64 0, .int .i64 0] 25))) (B.alloc' _ _) (by simp [sgnV, hE]) hE (by simp [sgnS, hE]))
  clear h hE
  obtain ⟨ha1, ha2⟩ := ha
  go_enter Try.func56, Try.ntmps56
  go_wp2
  exact bodyPost_ret (v := .tuple #[.agg #[.int .i64 0, .int .i64 0], .int .i64 1]) (by simp [results, Try.results56, go_sem]) rfl E.out
set_option maxHeartbeats 400000 in
theorem rsign56_had {own : Nat → Prop} {w : World} {p : Nat} {s : List (Int × Int)} (h : RefL own w p s) (hlen : s.length ≤ 9223372036854775806) (a b : Int) (ha : 0 ≤ a ∧ a < 21) (hb : 1 ≤ b) (hx : (a, b) ∈ s) : Calls Try.prog 56 #[.pointer (some ⟨p, 0, none⟩), .int .i64 a, .int .i64 b] w (RSignPost own w p a b s) := by
  have hE : sgnE a b = 0 := by unfold sgnE; rw [if_neg (by omega), if_neg (by omega)]
  have hB : B w ((w.alloc (.cells #[.int .i64 0, .int .i64 0] 25)).alloc (.cells #[.int .i64 a, .int .i64 b] 25)) := (B.alloc' _ _).trans (B.alloc' _ _)
  have E := Lib.hid (fun (w' : World) (hb : B w w') => RSignPost.same (a := a) (b := b) (c := a) (d := b) (f := 0) h hb (by simp [sgnV, hE]) hE (by simp [sgnS, hE, ins, hx]))
  have oS : Own2 ((w.alloc (.cells #[.int .i64 0, .int .i64 0] 25)).alloc (.cells #[.int .i64 a, .int .i64 b] 25)) (w.heap.size + 1) (.int .i64 a) (.int .i64 b) := by simpa using (Own2.mk (w := w.alloc (.cells #[.int .i64 0, .int .i64 0] 25)) (x := .int .i64 a) (y := .int .i64 b) (T := 25))
  have oR : Own2 ((w.alloc (.cells #[.int .i64 0, .int .i64 0] 25)).alloc (.cells #[.int .i64 a, .int .i64 b] 25)) w.heap.size (.int .i64 0) (.int .i64 0) := Own2.mk.alloc _
  have hc := Lib.hid (rsigned57 (h.later hB) hlen a b)
  have hd : decide ((a, b) ∈ s) = true := decide_eq_true hx
  clear h hE hx
  obtain ⟨ha1, ha2⟩ := ha
  go_enter Try.func56, Try.ntmps56
  go_wp2_with fail
  refine hc.out.mono ?_
  rintro e w1 ⟨rfl, hb1⟩
  simp only [hd]
  have oS := oS.later hb1
  have oR := oR.later hb1
  have hB1 := hB.trans hb1
  obtain ⟨d1, d2, d3, d4, d5⟩ := id oS
  obtain ⟨e1, e2, e3, e4, e5⟩ := id oR
  clear hb1 hB hc hd
  go_wp2
  exact bodyPost_ret (v := .tuple #[.agg #[.int .i64 a, .int .i64 b], .int .i64 0]) (by simp [results, Try.results56, go_sem, *]) rfl (E.out _ ((hB1.setCell (Nat.le_refl _) _).setCell (Nat.le_refl _) _))
set_option maxRecDepth 20000 in
set_option maxHeartbeats 1000000 in
theorem rsign56_new {own : Nat → Prop} {w : World} {p : Nat} {s : List (Int × Int)} (h : RefL own w p s) (a b : Int) (ha : 0 ≤ a ∧ a < 21) (hb : 1 ≤ b) (hx : (a, b) ∉ s) (hroom : (s.length + 1) * 16 ≤ 140737488355328) : Calls Try.prog 56 #[.pointer (some ⟨p, 0, none⟩), .int .i64 a, .int .i64 b] w (RSignPost own w p a b s) := by
  have hE : sgnE a b = 0 := by unfold sgnE; rw [if_neg (by omega), if_neg (by omega)]
  have E1 := Lib.hid (show sgnV a b = (a, b) by simp [sgnV, hE])
  have E2 := Lib.hid (show sgnS a b s = s ++ [(a, b)] by simp [sgnS, hE, ins, hx])
  have E3 := Lib.hid hE
  have hB : B w ((w.alloc (.cells #[.int .i64 0, .int .i64 0] 25)).alloc (.cells #[.int .i64 a, .int .i64 b] 25)) := (B.alloc' _ _).trans (B.alloc' _ _)
  have oS : Own2 ((w.alloc (.cells #[.int .i64 0, .int .i64 0] 25)).alloc (.cells #[.int .i64 a, .int .i64 b] 25)) (w.heap.size + 1) (.int .i64 a) (.int .i64 b) := by simpa using (Own2.mk (w := w.alloc (.cells #[.int .i64 0, .int .i64 0] 25)) (x := .int .i64 a) (y := .int .i64 b) (T := 25))
  have oR : Own2 ((w.alloc (.cells #[.int .i64 0, .int .i64 0] 25)).alloc (.cells #[.int .i64 a, .int .i64 b] 25)) w.heap.size (.int .i64 0) (.int .i64 0) := Own2.mk.alloc _
  have hc := Lib.hid (rsigned57 (h.later hB) (by omega) a b)
  have hd : decide ((a, b) ∈ s) = false := decide_eq_false hx
  clear hE hx
  obtain ⟨ha1, ha2⟩ := ha
  go_enter Try.func56, Try.ntmps56
  go_wp2_with fail
  refine hc.out.mono ?_
  rintro e w1 ⟨rfl, hb1⟩
  simp only [hd]
  have oS := oS.later hb1
  have oR := oR.later hb1
  have hB1 := hB.trans hb1
  obtain ⟨v, k1, k3, k4, k6⟩ := h
  obtain ⟨A, cap, rfl⟩ := own_slice k6
  have rlt := fun g => row_lt k6 (g := g)
  have plt := k4.lt
  have k4 := k4.later hB1
  have k6 := row_later k6 hB1
  have z1 := hB1.size
  clear hb1 hB hc hd
  have c0 := k4.cell 0
  simp at c0
  obtain ⟨d1, d2, d3, d4, d5⟩ := id oS
  have hrA : Rd w1.drew (.slice A s.length cap) s.length 2 (flat s) := (Rd.of_own k6).later (Below.refl _ _).drew
  have hrB : Rd (w1.alloc (.cells #[.int .i64 a, .int .i64 b] 25)).drew (.slice A s.length cap) s.length 2 (flat s) := (Rd.of_own k6).later (B.alloc' _ _).drew
  have oSA : Own2 w1.drew (w.heap.size + 1) (.int .i64 a) (.int .i64 b) := oS.later (Below.refl _ _).drew
  have oSB : Own2 (w1.alloc (.cells #[.int .i64 a, .int .i64 b] 25)).drew (w.heap.size + 1) (.int .i64 a) (.int .i64 b) := oS.later (B.alloc' _ _).drew
  have oRA : Own2 w1.drew w.heap.size (.int .i64 0) (.int .i64 0) := oR.later (Below.refl _ _).drew
  have oRB : Own2 (w1.alloc (.cells #[.int .i64 a, .int .i64 b] 25)).drew w.heap.size (.int .i64 0) (.int .i64 0) := oR.later (B.alloc' _ _).drew
  have kA : Blk w1.drew p 63 #[.slice A s.length cap] := k4
  have kB : Blk (w1.alloc (.cells #[.int .i64 a, .int .i64 b] 25)).drew p 63 #[.slice A s.length cap] := (k4.alloc _).drew
  have hpl := k4.lt
  have hh63 : 0 + s.length ≤ maxLen := by unfold maxLen; omega
  have hhroom : (0 + s.length) * 16 ≤ 140737488355328 := by omega
  go_wp2_with fail
  have hsB : Rd (w1.alloc (.cells #[.int .i64 a, .int .i64 b] 25)).drew (.slice (some ⟨w1.heap.size, 0, none⟩) 1 1) 1 2 [.int .i64 a, .int .i64 b] := (Rd.two w1 _ _ 25).later (Below.refl _ _).drew
  have hone : ∀ x ∈ [Value.int .i64 a, Value.int .i64 b], x.oneCell' = true := by simp [Value.oneCell']
  have hk63 : s.length + 1 ≤ maxLen := by unfold maxLen; omega
  have nn : ∀ g, some g ≠ (Value.slice none 0 0).ownBlock := fun g => by simp [Value.ownBlock]
  go_region_law (first
    | (refine step_append_Rd (v := .slice none 0 0) rfl (.const (.slice none 0 0)) (.tmp 30) 22 rfl Try.underlying22 info25 rfl Nat.zero_lt_two rfl rfl (ownNil _ 0 25 2) ?_ (flat_one s) hh63 hhroom (Nat.zero_le _) ?_; (first | exact hrA | exact hrB); intro A1 c1 w2 ho2 hg2 hv2; simp only [Nat.zero_add, List.nil_append] at ho2 hv2; have hge : ∀ g, (Value.slice A1 s.length c1).ownBlock = some g → w.heap.size + 2 ≤ g := (fun g hg => by (rcases hv2 with e | e) <;> (rw [e] at hg; simp [Value.ownBlock] at hg) <;> omega); have hB2 : B w w2 := (by first | exact (hB1.trans ((Below.refl _ _).drew)).grown hg2 (fun k hk => by simp [Value.ownBlock] at hk) | exact (hB1.trans ((B.alloc' w1 (.cells #[.int .i64 a, .int .i64 b] 25)).drew)).grown hg2 (fun k hk => by simp [Value.ownBlock] at hk)); have oS2 := (by first | exact oSA.grown hg2 (nn _) | exact oSB.grown hg2 (nn _) : Own2 w2 (w.heap.size + 1) (.int .i64 a) (.int .i64 b)); have oR2 := (by first | exact oRA.grown hg2 (nn _) | exact oRB.grown hg2 (nn _) : Own2 w2 w.heap.size (.int .i64 0) (.int .i64 0)); have k2 := (by first | exact kA.grown hg2 (nn _) | exact kB.grown hg2 (nn _) : Blk w2 p 63 #[.slice A s.length cap]); obtain ⟨x1, x2, x3, x4, x5⟩ := id oS2)
    | (refine step_append_Rd (v := .slice A1 s.length c1) (base := 0) (xs := flat s) (news := [.int .i64 a, .int .i64 b]) (m := 1) (n := s.length) rfl (.tmp 31) (.tmp 33) 22 rfl Try.underlying22 info25 rfl Nat.zero_lt_two rfl rfl ?_ ?_ hone hk63 hroom (Nat.zero_le _) ?_; (first | exact ho2 | exact row_later ho2 (B.alloc' _ _)); (first | exact Rd.two _ _ _ _ | exact hsB.grown hg2 (fun g _ => nn g)); intro A2 c2 w3 ho3 hg3 hv3; have hB3 : B w w3 := (by first | exact hB2.grown hg3 (fun k hk => by have := hge k hk; omega) | exact (hB2.trans (B.alloc' _ _)).grown hg3 (fun k hk => by have := hge k hk; omega)); have oS3 := (by first | exact oS2.grown hg3 (fun e => by have := hge _ e.symm; omega) | exact (oS2.alloc _).grown hg3 (fun e => by have := hge _ e.symm; omega) : Own2 w3 (w.heap.size + 1) (.int .i64 a) (.int .i64 b)); have oR3 := (by first | exact oR2.grown hg3 (fun e => by have := hge _ e.symm; omega) | exact (oR2.alloc _).grown hg3 (fun e => by have := hge _ e.symm; omega) : Own2 w3 w.heap.size (.int .i64 0) (.int .i64 0)); have hs2 := hB2.size; have hge2 : ∀ g, (Value.slice A2 (s.length + 1) c2).ownBlock = some g → w.heap.size + 2 ≤ g := (fun g hg => by (rcases hv3 with e | e) <;> (rw [e] at hg) <;> first | exact hge g hg | (simp at hg; have := oS2.2.2.2.2; omega)); have k3' := (by first | exact k2.grown hg3 (fun e => row_ne ho2 k2 (by decide) e.symm) | exact (k2.alloc _).grown hg3 (fun e => row_ne ho2 k2 (by decide) e.symm) : Blk w3 p 63 #[.slice A s.length cap]); have y1 := k3'.cell 0; have y2 := k3'.frozen 0; simp at y1))
  all_goals
    have f3 := k3'.set_ 0 (.slice A2 (s.length + 1) c2)
    have f4 := oS3.other (b' := p) (by omega) 0 (.slice A2 (s.length + 1) c2)
    have f5 := oR3.other (b' := p) (by omega) 0 (.slice A2 (s.length + 1) c2)
    have f6 := row_ext ho3 ((Ext.refl (fun g => g = p) w3).set (p := ⟨p, 0, none⟩) (fun _ => rfl) (.slice A2 (s.length + 1) c2)) (fun g hg e => by have := hge2 g hg; omega)
    have hx := ((Ext.of_B (own := own) hB3)).set (p := ⟨p, 0, none⟩) (fun _ => k1) (.slice A2 (s.length + 1) c2)
    obtain ⟨d1, d2, d3, d4, d5⟩ := id f4
    obtain ⟨e1, e2, e3, e4, e5⟩ := id f5
    clear c0
    go_wp2
    have hE := ((Ext.refl (fun x => x = w.heap.size) (w3.setCell ⟨p, 0, none⟩ (.slice A2 (s.length + 1) c2))).set (p := ⟨w.heap.size, 0, none⟩) (fun _ => rfl) (.int .i64 a)).set (p := ⟨w.heap.size, 1, none⟩) (fun _ => rfl) (.int .i64 b)
    have hL : RefL (fun x => x ≠ w.heap.size ∧ (own x ∨ w.heap.size ≤ x)) (w3.setCell ⟨p, 0, none⟩ (.slice A2 (s.length + 1) c2)) p (s ++ [(a, b)]) :=
      ⟨.slice A2 (s.length + 1) c2, ⟨by omega, .inl k1⟩, fun g hg => by have := hge2 g hg; exact ⟨by omega, .inr (by omega)⟩, by simpa using f3, by simpa [flat_snoc] using f6⟩
    exact bodyPost_ret (v := .tuple #[.agg #[.int .i64 a, .int .i64 b], .int .i64 0]) (by simp [results, Try.results56, go_sem, *]) rfl
      ⟨by rw [E1.out, E3.out], by rw [E2.out]; exact (hL.ext hE (fun x hx e => hx.1 e)).mono (fun _ hx => hx.2), hx.trans hE (fun x hx e => by omega)⟩

theorem rsign56 {own : Nat → Prop} {w : World} {p : Nat} {s : List (Int × Int)} (h : RefL own w p s) (a b : Int) (hroom : (s.length + 1) * 16 ≤ 140737488355328) : Calls Try.prog 56 #[.pointer (some ⟨p, 0, none⟩), .int .i64 a, .int .i64 b] w (RSignPost own w p a b s) := by
  by_cases ha : a < 0 ∨ 21 ≤ a
  · exact rsign56_key h a b ha
  · by_cases hb : b < 1
    · exact rsign56_dig h a b (by omega) hb
    · by_cases hx : (a, b) ∈ s
      · exact rsign56_had h (by omega) a b (by omega) (by omega) hx
      · exact rsign56_new h a b (by omega) (by omega) hx hroom
end Go.Proofs.Ythgpkbhilkdckaa
