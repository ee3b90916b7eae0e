/- 'bullalaw02.IdealSigns': whatever is asked for, the ledger answers what the reference's answers; the law returns true. No condition. -/
import Derived.Test.YthgpkbhilkdckaaLh
import Derived.Test.YthgpkbhilkdckaaNb
namespace Go.Proofs.Ythgpkbhilkdckaa
open Go.ChangeShapes Go.WideShapes Go.ChangeAt Go.RowKit Go.Joins
set_option linter.unusedVariables false

/-- the two ledgers side by side -/
structure Two (w : World) (b0 p1 p2 : Nat) (own1 own2 : Nat → Prop) (s : List (Int × Int)) : Prop where
  l : LedgerAt own1 w p1 s
  r : RefL own2 w p2 s
  in1 : ∀ x, own1 x → b0 < x ∧ x < w.heap.size
  in2 : ∀ x, own2 x → b0 < x ∧ x < w.heap.size
  disj : ∀ x, own1 x → own2 x → False
  ok : sgnOK s
theorem Two.later {w w' : World} {b0 p1 p2 : Nat} {own1 own2 : Nat → Prop} {s : List (Int × Int)} (h : Two w b0 p1 p2 own1 own2 s) (hb : B w w') : Two w' b0 p1 p2 own1 own2 s :=
  ⟨h.l.later hb, h.r.later hb, fun x hx => ⟨(h.in1 x hx).1, Nat.lt_of_lt_of_le (h.in1 x hx).2 hb.size⟩, fun x hx => ⟨(h.in2 x hx).1, Nat.lt_of_lt_of_le (h.in2 x hx).2 hb.size⟩, h.disj, h.ok⟩
/-- the first half of a round: the ledger has signed -/
structure Mid (w : World) (b0 p1 p2 : Nat) (own1 own2 : Nat → Prop) (s t : List (Int × Int)) : Prop where
  l : LedgerAt own1 w p1 t
  r : RefL own2 w p2 s
  in1 : ∀ x, own1 x → b0 < x ∧ x < w.heap.size
  in2 : ∀ x, own2 x → b0 < x ∧ x < w.heap.size
  disj : ∀ x, own1 x → own2 x → False
theorem Mid.later {w w' : World} {b0 p1 p2 : Nat} {own1 own2 : Nat → Prop} {s t : List (Int × Int)} (h : Mid w b0 p1 p2 own1 own2 s t) (hb : B w w') : Mid w' b0 p1 p2 own1 own2 s t :=
  ⟨h.l.later hb, h.r.later hb, fun x hx => ⟨(h.in1 x hx).1, Nat.lt_of_lt_of_le (h.in1 x hx).2 hb.size⟩, fun x hx => ⟨(h.in2 x hx).1, Nat.lt_of_lt_of_le (h.in2 x hx).2 hb.size⟩, h.disj⟩
theorem Two.sign {w w' : World} {b0 p1 p2 : Nat} {own1 own2 : Nat → Prop} {s t : List (Int × Int)} (h : Two w b0 p1 p2 own1 own2 s) (hl : LedgerAt (fun x => own1 x ∨ w.heap.size ≤ x) w' p1 t) (hx : Ext own1 w w') (hb0 : b0 < w.heap.size) :
    Mid w' b0 p1 p2 (fun x => (own1 x ∨ w.heap.size ≤ x) ∧ x < w'.heap.size) own2 s t :=
  ⟨hl.bound, h.r.ext hx (fun x h2 h1 => h.disj x h1 h2), fun x hx' => ⟨by rcases hx'.1 with e | e; exact (h.in1 x e).1; omega, hx'.2⟩, fun x h2 => ⟨(h.in2 x h2).1, Nat.lt_of_lt_of_le (h.in2 x h2).2 hx.size⟩,
   fun x h1 h2 => by rcases h1.1 with e | e; exact h.disj x e h2; have := (h.in2 x h2).2; omega⟩
theorem Mid.sign {w w' : World} {b0 p1 p2 : Nat} {own1 own2 : Nat → Prop} {s t : List (Int × Int)} (h : Mid w b0 p1 p2 own1 own2 s t) (hr : RefL (fun x => own2 x ∨ w.heap.size ≤ x) w' p2 t) (hx : Ext own2 w w') (hb0 : b0 < w.heap.size) (ht : sgnOK t) :
    Two w' b0 p1 p2 own1 (fun x => (own2 x ∨ w.heap.size ≤ x) ∧ x < w'.heap.size) t :=
  ⟨h.l.ext hx (fun x h1 h2 => h.disj x h1 h2), hr.bound, fun x h1 => ⟨(h.in1 x h1).1, Nat.lt_of_lt_of_le (h.in1 x h1).2 hx.size⟩, fun x hx' => ⟨by rcases hx'.1 with e | e; exact (h.in2 x e).1; omega, hx'.2⟩,
   fun x h1 h2 => by rcases h2.1 with e | e; exact h.disj x h1 e; have := (h.in1 x h1).2; omega, ht⟩

set_option maxRecDepth 10000 in
set_option maxHeartbeats 2000000 in
theorem idealSigns_walk {w : World} {v : Value} {L : List (Int × Int)} (hv : Ss w v L) (hroom : L.length * 16 ≤ 140737488355328 - 64) (sa sb : Int) : Calls Try.prog 8 #[v, .agg #[.int .i64 sa, .int .i64 sb]] w fun e w' => e = .returned (.bool true) ∧ B w w' := by
  obtain ⟨A, cap, rfl, hr⟩ := id hv
  have HR := Lib.hid hr
  clear hr hv
  go_enter Try.func8, Try.ntmps8
  go_wp2_with fail
  refine (newLedger23 _).mono ?_
  rintro e w1 ⟨rfl, hw1⟩
  have o1 : Own2 w1 w.heap.size (.int .i64 sa) (.int .i64 sb) := by rw [hw1]; exact (Own2.mk.alloc _).alloc _
  have hl := LedgerAt.new (w.alloc (.cells #[.int .i64 sa, .int .i64 sb] 25))
  rw [← hw1] at hl
  have hB1 : B w w1 := by rw [hw1]; exact ((B.alloc' _ _).trans (B.alloc' _ _)).trans (B.alloc' _ _)
  have z1 : w1.heap.size = w.heap.size + 3 := by rw [hw1]; simp
  clear hw1
  simp only [World.size_alloc] at hl ⊢
  have bb : ∀ W, (Instr.build 63 #[]).run Try.prog W = .ok (.agg #[.slice none 0 0]) W := fun W => run_build W 63 _ _ (by kernel_rfl)
  have T0 : Two (w1.alloc (.cells #[.slice none 0 0] 63)) w.heap.size (w.heap.size + 1 + 1) w1.heap.size _ _ [] :=
    ⟨(hl.later (B.alloc' _ _)), RefL.new w1, fun x hx => by simp; omega, fun x hx => by simp; omega, fun x h1 h2 => by omega, sgnOK.nil⟩
  have o1 := o1.alloc (.cells #[.slice none 0 0] 63)
  have hB1 := hB1.trans (B.alloc' w1 (.cells #[.slice none 0 0] 63))
  have Z1 := Lib.hid z1
  clear hl z1
  go_wp2_with fail
  refine (begun24 _).mono ?_
  rintro e w2 ⟨rfl, hb2⟩
  have o2 := o1.later hb2
  have T2 := T0.later hb2
  have hB2 := hB1.trans hb2
  clear o1 T0 hB1 hb2
  go_wp2_with fail
  generalize w1.heap.size = p2 at *
  generalize w.heap.size + 1 + 1 = p1 at *
  clear Z1
  go_loopw [5, 25] (fun l i wr => ∃ (q : Nat) (s : List (Int × Int)) (p : Nat) (own1 own2 : Nat → Prop), q ≤ L.length ∧ i = .int .i64 q ∧ l = .pointer (some ⟨p, 0, none⟩) ∧ s.length ≤ q ∧ Two wr w.heap.size p p2 own1 own2 s ∧ Own2 wr w.heap.size (.int .i64 sa) (.int .i64 sb) ∧ B w wr) (fun _ i _ => L.length - (intOf i).toNat)
  case atStart => exact ⟨0, [], _, _, _, Nat.zero_le _, rfl, rfl, Nat.le_refl _, T2, o2, hB2⟩
  case round =>
    clear o2 T2 hB2
    obtain ⟨q, s, p, own1, own2, hq, rfl, rfl, hs, T, o2, hB2⟩ := hrel
    by_cases hlt : q < L.length
    · obtain ⟨b, off, rfl, hb, hc⟩ := HR.out (by omega)
      obtain ⟨k1, k2⟩ := hc q _ (List.getElem?_eq_getElem hlt)
      have k1 := hB2.cell k1
      have k2 := hB2.cell k2
      have hqi : (q : Int) < L.length := by omega
      have ob0 := o2.2.2.2.2
      generalize (L[q]).1 = a at *
      generalize (L[q]).2 = d at *
      clear hc
      have n1 : ¬ own1 wr.heap.size := fun e => by have := (T.in1 _ e).2; omega
      have n2 : ¬ own2 wr.heap.size := fun e => by have := (T.in2 _ e).2; omega
      have ox : Own2 (wr.alloc (.cells #[.int .i64 a, .int .i64 d] 25)) wr.heap.size (.int .i64 a) (.int .i64 d) := Own2.mk
      have T := T.later (B.alloc' wr (.cells #[.int .i64 a, .int .i64 d] 25))
      have o2 := o2.alloc (.cells #[.int .i64 a, .int .i64 d] 25)
      have hB2 := hB2.trans (B.alloc' wr (.cells #[.int .i64 a, .int .i64 d] 25))
      have hrs : (s.length + 1) * 16 ≤ 140737488355328 := by omega
      by_cases h5 : (q : Int) % 5 = 4
      · have g5 : ((q : Int) % 5 == 4) = true := by simpa using h5
        clear h5
        go_wp2_with fail
        refine (lclone55 T.l T.ok hrs).mono ?_
        rintro e w3 ⟨pc, oc, rfl, hlc, hoc, hb3⟩
        have T3 := T.later hb3
        go_wp2_with fail
        refine (sign25 T3.l 1 77 hrs).mono ?_
        rintro e w4 ⟨rfl, _, hx4⟩
        have hin := T.in1
        have TT : Two w4 w.heap.size pc p2 oc own2 s := ⟨hlc.ext hx4 (fun x hx h1 => by have := (hin x h1).2; have := (hoc x hx).1; omega), T3.r.ext hx4 (fun x h2 h1 => T.disj x h1 h2), fun x hx => ⟨by have := (hoc x hx).1; have := o2.2.2.2.2; omega, Nat.lt_of_lt_of_le (hoc x hx).2 hx4.size⟩, fun x hx => ⟨(T3.in2 x hx).1, Nat.lt_of_lt_of_le (T3.in2 x hx).2 hx4.size⟩, fun x hx h2 => by have := (hoc x hx).1; have := (T.in2 x h2).2; omega, T.ok⟩
        have ox := (ox.later hb3).ext hx4 n1
        have o2 := (o2.later hb3).ext hx4 (fun e => by have := (hin _ e).1; omega)
        have hB2 := (hB2.trans hb3).trans' hx4 (fun x hx e => by have := (hin x e).1; omega)
        have n1 : ¬ oc wr.heap.size := fun e => by have := (hoc _ e).1; simp at this; omega
        have T := TT
        clear TT T3 hx4 hb3 hoc hlc hin
        generalize wr.heap.size = bx at *
        obtain ⟨x1, x2, x3, x4, x5⟩ := id ox
        go_wp2_with fail
        refine (sign25 T.l a d hrs).mono ?_
        rintro e w5 ⟨rfl, hl5, hx5⟩
        have M5 := T.sign hl5 hx5 o2.2.2.2.2
        have in1 := T.in1
        have ox := ox.ext hx5 n1
        have o2 := o2.ext hx5 (fun e => by have := (in1 _ e).1; omega)
        have hB2 := hB2.trans' hx5 (fun x hx e => by have := (in1 x e).1; omega)
        have in2 := M5.in2
        have oa : Own2 (w5.alloc (.cells #[.int .i64 (sgnV a d).1, .int .i64 (sgnV a d).2] 25)) w5.heap.size _ _ := Own2.mk
        have na : ¬ own2 w5.heap.size := fun e => by have := (in2 _ e).2; omega
        have M6 := M5.later (B.alloc' w5 (.cells #[.int .i64 (sgnV a d).1, .int .i64 (sgnV a d).2] 25))
        have ox := ox.alloc (.cells #[.int .i64 (sgnV a d).1, .int .i64 (sgnV a d).2] 25)
        have o2 := o2.alloc (.cells #[.int .i64 (sgnV a d).1, .int .i64 (sgnV a d).2] 25)
        have hB2 := hB2.trans (B.alloc' w5 (.cells #[.int .i64 (sgnV a d).1, .int .i64 (sgnV a d).2] 25))
        clear hl5 hx5 M5 in1 x1 x2 x3 x4 x5 n1
        obtain ⟨x1, x2, x3, x4, x5⟩ := id ox
        go_wp2_with fail
        refine (rsign56 M6.r a d hrs).mono ?_
        rintro e w7 ⟨rfl, hr7, hx7⟩
        have T7 := M6.sign hr7 hx7 o2.2.2.2.2 (T.ok.step a d)
        have ox := ox.ext hx7 n2
        have oa := oa.ext hx7 na
        have o2 := o2.ext hx7 (fun e => by have := (in2 _ e).1; omega)
        have hB2 := hB2.trans' hx7 (fun x hx e => by have := (in2 x e).1; omega)
        clear hr7 hx7 M6 T na n2 in2 x1 x2 x3 x4 x5
        have obb : Own2 (w7.alloc (.cells #[.int .i64 (sgnV a d).1, .int .i64 (sgnV a d).2] 25)) w7.heap.size _ _ := Own2.mk
        have T8 := T7.later (B.alloc' w7 (.cells #[.int .i64 (sgnV a d).1, .int .i64 (sgnV a d).2] 25))
        have ox := ox.alloc (.cells #[.int .i64 (sgnV a d).1, .int .i64 (sgnV a d).2] 25)
        have oa := oa.alloc (.cells #[.int .i64 (sgnV a d).1, .int .i64 (sgnV a d).2] 25)
        have o2 := o2.alloc (.cells #[.int .i64 (sgnV a d).1, .int .i64 (sgnV a d).2] 25)
        have hB2 := hB2.trans (B.alloc' w7 (.cells #[.int .i64 (sgnV a d).1, .int .i64 (sgnV a d).2] 25))
        go_wp2_with fail
        clear T7
        generalize w7.heap.size = bb7 at *
        generalize w5.heap.size = ba5 at *
        generalize w7.alloc (.cells #[.int .i64 (sgnV a d).1, .int .i64 (sgnV a d).2] 25) = w8 at *
        have lx1 : ∀ w', B w8 w' → w'.cell? ⟨bx, 0, none⟩ = some (.int .i64 a) := fun w' hb => (ox.later hb).1
        have lx2 : ∀ w', B w8 w' → w'.cell? ⟨bx, 1, none⟩ = some (.int .i64 d) := fun w' hb => (ox.later hb).2.1
        have la1 : ∀ w', B w8 w' → w'.cell? ⟨ba5, 0, none⟩ = some (.int .i64 (sgnV a d).1) := fun w' hb => (oa.later hb).1
        have la2 : ∀ w', B w8 w' → w'.cell? ⟨ba5, 1, none⟩ = some (.int .i64 (sgnV a d).2) := fun w' hb => (oa.later hb).2.1
        have lb1 : ∀ w', B w8 w' → w'.cell? ⟨bb7, 0, none⟩ = some (.int .i64 (sgnV a d).1) := fun w' hb => (obb.later hb).1
        have lb2 : ∀ w', B w8 w' → w'.cell? ⟨bb7, 1, none⟩ = some (.int .i64 (sgnV a d).2) := fun w' hb => (obb.later hb).2.1
        have HL := Lib.hid (sgn_len a d s)
        have c26 := Lib.hid (fun w' (hb : B w8 w') => signed26 (T8.l.later hb) a d)
        have c57 := Lib.hid (fun w' (hb : B w8 w') => rsigned57 (T8.r.later hb) (by have := HL.out; omega) a d)
        clear ox oa obb
        go_region_held3 (fun w' => B w8 w') (first | exact B.trans (by assumption) hb | exact (Below.refl _ _).drew | assumption) (first | (go_at_call 26; refine (c26.out _ (by assumption)).mono ?_; rintro e wn ⟨rfl, hb⟩) | (go_at_call 57; refine (c57.out _ (by assumption)).mono ?_; rintro e wn ⟨rfl, hb⟩))
        have hlast := ‹B w8 _›
        have T9 := T8.later hlast
        have o9 := o2.later hlast
        have hB9 := hB2.trans hlast
        go_wp2_with fail
        go_roundw
        case rel => exact ⟨q + 1, sgnS a d s, _, _, _, by omega, by go_num, rfl, by have := HL.out; omega, T9, o9, hB9⟩
        case measure => simp [intOf]; omega
      · have g5 : ((q : Int) % 5 == 4) = false := by simpa using h5
        clear h5
        obtain ⟨x1, x2, x3, x4, x5⟩ := id ox
        go_wp2_with fail
        clear x1 x2 x3 x4 x5
        generalize wr.alloc (.cells #[.int .i64 a, .int .i64 d] 25) = wx at *
        generalize wr.heap.size = bx at *
        obtain ⟨x1, x2, x3, x4, x5⟩ := id ox
        go_wp2_with fail
        refine (sign25 T.l a d hrs).mono ?_
        rintro e w5 ⟨rfl, hl5, hx5⟩
        have M5 := T.sign hl5 hx5 o2.2.2.2.2
        have in1 := T.in1
        have ox := ox.ext hx5 n1
        have o2 := o2.ext hx5 (fun e => by have := (in1 _ e).1; omega)
        have hB2 := hB2.trans' hx5 (fun x hx e => by have := (in1 x e).1; omega)
        have in2 := M5.in2
        have oa : Own2 (w5.alloc (.cells #[.int .i64 (sgnV a d).1, .int .i64 (sgnV a d).2] 25)) w5.heap.size _ _ := Own2.mk
        have na : ¬ own2 w5.heap.size := fun e => by have := (in2 _ e).2; omega
        have M6 := M5.later (B.alloc' w5 (.cells #[.int .i64 (sgnV a d).1, .int .i64 (sgnV a d).2] 25))
        have ox := ox.alloc (.cells #[.int .i64 (sgnV a d).1, .int .i64 (sgnV a d).2] 25)
        have o2 := o2.alloc (.cells #[.int .i64 (sgnV a d).1, .int .i64 (sgnV a d).2] 25)
        have hB2 := hB2.trans (B.alloc' w5 (.cells #[.int .i64 (sgnV a d).1, .int .i64 (sgnV a d).2] 25))
        clear hl5 hx5 M5 in1 x1 x2 x3 x4 x5 n1
        obtain ⟨x1, x2, x3, x4, x5⟩ := id ox
        go_wp2_with fail
        refine (rsign56 M6.r a d hrs).mono ?_
        rintro e w7 ⟨rfl, hr7, hx7⟩
        have T7 := M6.sign hr7 hx7 o2.2.2.2.2 (T.ok.step a d)
        have ox := ox.ext hx7 n2
        have oa := oa.ext hx7 na
        have o2 := o2.ext hx7 (fun e => by have := (in2 _ e).1; omega)
        have hB2 := hB2.trans' hx7 (fun x hx e => by have := (in2 x e).1; omega)
        clear hr7 hx7 M6 T na n2 in2 x1 x2 x3 x4 x5
        have obb : Own2 (w7.alloc (.cells #[.int .i64 (sgnV a d).1, .int .i64 (sgnV a d).2] 25)) w7.heap.size _ _ := Own2.mk
        have T8 := T7.later (B.alloc' w7 (.cells #[.int .i64 (sgnV a d).1, .int .i64 (sgnV a d).2] 25))
        have ox := ox.alloc (.cells #[.int .i64 (sgnV a d).1, .int .i64 (sgnV a d).2] 25)
        have oa := oa.alloc (.cells #[.int .i64 (sgnV a d).1, .int .i64 (sgnV a d).2] 25)
        have o2 := o2.alloc (.cells #[.int .i64 (sgnV a d).1, .int .i64 (sgnV a d).2] 25)
        have hB2 := hB2.trans (B.alloc' w7 (.cells #[.int .i64 (sgnV a d).1, .int .i64 (sgnV a d).2] 25))
        go_wp2_with fail
        clear T7
        generalize w7.heap.size = bb7 at *
        generalize w5.heap.size = ba5 at *
        generalize w7.alloc (.cells #[.int .i64 (sgnV a d).1, .int .i64 (sgnV a d).2] 25) = w8 at *
        have lx1 : ∀ w', B w8 w' → w'.cell? ⟨bx, 0, none⟩ = some (.int .i64 a) := fun w' hb => (ox.later hb).1
        have lx2 : ∀ w', B w8 w' → w'.cell? ⟨bx, 1, none⟩ = some (.int .i64 d) := fun w' hb => (ox.later hb).2.1
        have la1 : ∀ w', B w8 w' → w'.cell? ⟨ba5, 0, none⟩ = some (.int .i64 (sgnV a d).1) := fun w' hb => (oa.later hb).1
        have la2 : ∀ w', B w8 w' → w'.cell? ⟨ba5, 1, none⟩ = some (.int .i64 (sgnV a d).2) := fun w' hb => (oa.later hb).2.1
        have lb1 : ∀ w', B w8 w' → w'.cell? ⟨bb7, 0, none⟩ = some (.int .i64 (sgnV a d).1) := fun w' hb => (obb.later hb).1
        have lb2 : ∀ w', B w8 w' → w'.cell? ⟨bb7, 1, none⟩ = some (.int .i64 (sgnV a d).2) := fun w' hb => (obb.later hb).2.1
        have HL := Lib.hid (sgn_len a d s)
        have c26 := Lib.hid (fun w' (hb : B w8 w') => signed26 (T8.l.later hb) a d)
        have c57 := Lib.hid (fun w' (hb : B w8 w') => rsigned57 (T8.r.later hb) (by have := HL.out; omega) a d)
        clear ox oa obb
        go_region_held3 (fun w' => B w8 w') (first | exact B.trans (by assumption) hb | exact (Below.refl _ _).drew | assumption) (first | (go_at_call 26; refine (c26.out _ (by assumption)).mono ?_; rintro e wn ⟨rfl, hb⟩) | (go_at_call 57; refine (c57.out _ (by assumption)).mono ?_; rintro e wn ⟨rfl, hb⟩))
        have hlast := ‹B w8 _›
        have T9 := T8.later hlast
        have o9 := o2.later hlast
        have hB9 := hB2.trans hlast
        go_wp2_with fail
        go_roundw
        case rel => exact ⟨q + 1, sgnS a d s, _, _, _, by omega, by go_num, rfl, by have := HL.out; omega, T9, o9, hB9⟩
        case measure => simp [intOf]; omega
    · have hqi : ¬ (q : Int) < L.length := by omega
      obtain ⟨y1, y2, y3, y4, y5⟩ := id o2
      obtain ⟨v2, r1, r2, r3, r4⟩ := id T.r
      obtain ⟨A2, cap2, rfl⟩ := own_slice r4
      have l1 : ∀ w', B wr w' → w'.cell? ⟨w.heap.size, 0, none⟩ = some (.int .i64 sa) := fun w' hb => (o2.later hb).1
      have l2 : ∀ w', B wr w' → w'.cell? ⟨w.heap.size, 1, none⟩ = some (.int .i64 sb) := fun w' hb => (o2.later hb).2.1
      have l3 : ∀ w', B wr w' → w'.cell? ⟨p2, 0, none⟩ = some (.slice A2 s.length cap2) := fun w' hb => by rw [(r3.later hb).cell 0]; rfl
      have c26 := Lib.hid (fun w' (hb : B wr w') => signed26 (T.l.later hb) sa sb)
      have c57 := Lib.hid (fun w' (hb : B wr w') => rsigned57 (T.r.later hb) (by omega) sa sb)
      have c59 := Lib.hid (fun w' (hb : B wr w') => signs59 (T.l.later hb) (by omega))
      have c60 := Lib.hid (fun w' (hb : B wr w') => llen60 (T.l.later hb))
      have c58 := Lib.hid (fun w' (hb : B wr w') {base : Nat} {vS : Value} (ho : w'.ownsRow base 25 2 vS s.length (flat s)) => equal58 (Ss.of_own ho) (Ss.of_own (row_later r4 hb)) (by omega))
      have es : decide (s = s) = true := decide_eq_true rfl
      clear r3 r4
      go_wp2_with fail
      go_region_held3 (fun w' => B wr w') (first | exact B.trans (by assumption) hb | exact (Below.refl _ _).drew | assumption) (first
        | (go_at_call 26; refine (c26.out _ (by assumption)).mono ?_; rintro e wn ⟨rfl, hb⟩)
        | (go_at_call 57; refine (c57.out _ (by assumption)).mono ?_; rintro e wn ⟨rfl, hb⟩)
        | (go_at_call 59; refine (c59.out _ (by assumption)).mono ?_; rintro e wn ⟨vS, rfl, hoS, hb⟩)
        | (go_at_call 58; refine (c58.out _ (by assumption) hoS).mono ?_; rintro e wn ⟨rfl, hb⟩)
        | (go_at_call 60; refine (c60.out _ (by assumption)).mono ?_; rintro e wn ⟨rfl, rfl⟩))
      have hlast := ‹B wr _›
      go_wp2_with fail
      go_ret
      exact ⟨by simp, hB2.trans hlast⟩

theorem idealSigns_own : ownKnob Try.prog.godebug = none := by kernel_rfl
theorem idealSigns_laid : laidOutB Try.prog = true := by kernel_rfl

set_option maxRecDepth 100000 in
theorem idealSigns_contract (H : Type) (enc : TypeId × Value → H) (W : World) (base : Nat) (args : Array Value) (ds gs : List (DataW H)) (before : List MemPlace)
    (hval : ∀ (j : Nat) t v, Try.f8.params[j]? = some t → args[j]? = some v → Value.okWide Try.prog W .any base t v)
    (hW : DataW.Whole enc Try.prog Try.f8.params.toList Rows.idealSignsSpec.vars false W args.toList ds gs before) (hsz0 : (DataW.weightsEach Try.prog (Try.f8.params.toList ++ Rows.idealSignsSpec.plain.varTypes Try.prog) (ds ++ gs)).all (· ≤ reachBytes) = true) :
    Calls Try.prog 8 args W fun e W' => ∃ v, e = .returned v ∧ Rows.idealSignsSpec.post enc Try.prog Try.f8 false true false false W args v W' := by
  have hW' := hW
  obtain ⟨p, q, hA0, hV, rfl, hfz, hnd⟩ := hW
  have hA : DataW.TrodAll enc Try.prog W 0 (fun _ => true) true Try.f8.params.toList args.toList ds p := hA0
  rw [Try.params8] at hA hval
  obtain ⟨rfl, rfl⟩ := trodVars_none hV
  have hsz : (DataW.weightsEach Try.prog (Try.f8.params.toList ++ []) (ds ++ [])).all (· ≤ reachBytes) = true := hsz0
  rw [Try.params8] at hsz
  obtain ⟨v0, vs0, d0, ds0, p0, q0, hargs, rfl, rfl, h0, r0⟩ := trodAll_cons hA
  obtain ⟨v1, vs1, d1, ds1, p1, q1, rfl, rfl, rfl, h1, r1⟩ := trodAll_cons r0
  obtain ⟨rfl, rfl, rfl⟩ := trodAll_nil r1
  obtain rfl : args = #[v0, v1] := by cases args; simp_all
  obtain ⟨L, hL, hd⟩ := open_sgs Try.underlying22 Try.underlying25 (by kernel_rfl) ⟨rfl, by kernel_rfl, Try.underlying3⟩ ⟨rfl, by kernel_rfl, Try.underlying23⟩ (hval 0 22 v0 rfl rfl) h0
  obtain ⟨c0, c1, y0, y1, m, rfl, rfl, rfl, hy0, hy1⟩ := open_agg2 Try.underlying25 (by kernel_rfl) (by kernel_rfl) (hval 1 25 v1 rfl rfl) h1
  obtain ⟨a, e0, rfl, wa⟩ := DataW.trod_int Try.underlying3 hy0
  obtain ⟨b, e1, rfl, wb⟩ := DataW.trod_int Try.underlying23 hy1
  simp at e0 e1
  subst e0 e1
  have hroom : L.length * 16 ≤ 140737488355328 - 64 := by
    rcases hd with ⟨rfl, rfl⟩ | ⟨elems, sp, rfl, hel⟩
    · obtain ⟨A, cap, hv, _⟩ := hL
      injection hv with _ h _
      omega
    · have h16 : Try.prog.bytesOf 25 = 16 := by kernel_rfl
      have := sized_slice hsz (j := 0) (t := 22) (e := 25) rfl rfl Try.underlying22
      have hrb : reachBytes = 140737488351232 := by decide
      rw [h16] at this
      omega
  refine (idealSigns_walk hL hroom a b).mono fun e W' ⟨he, hg⟩ => ?_
  subst he
  exact ⟨_, rfl, law_post idealSigns_laid (by kernel_rfl) rfl ⟨rfl, rfl, rfl⟩ (tb := 4) (by kernel_rfl) Try.underlying4 hW' hg⟩

set_option maxRecDepth 100000 in
theorem idealSigns_lifted (os : Os) (started : os.Started) (H : Type) (enc : TypeId × Value → H) :
    ReturnsInHanded {} Try.checked os 8 .any (Rows.idealSignsSpec.pre6 enc Try.prog Try.f8 Rows.idealSignsRow.domain false) (Rows.idealSignsSpec.post enc Try.prog Try.f8 false true false false) := by
  refine returnsInHanded_of_change_sized (C := Try.checked) idealSigns_own started (by kernel_rfl) Try.func8
    (ChangeSpec.witness6 (enc := enc) (C := Try.checked) false ⟨#[], #[.slice none 0 0, .agg #[.int .i64 0, .int .i64 0]], []⟩ 8 (by kernel_rfl) (by kernel_rfl) (by kernel_rfl) (by kernel_rfl)) ?_
  intro W base args ds gs before hval hW _ hsz _
  exact idealSigns_contract H enc W base args ds gs before hval hW hsz

theorem idealSigns_holds : Rows.IdealSignsSaid :=
  OpenClaim.holds_of_wide 8 Try.f8 rfl rfl rfl rfl rfl rfl rfl ⟨rfl, rfl, rfl, rfl, rfl⟩ rfl rfl rfl rfl rfl (by kernel_rfl) Try.func8 (by kernel_rfl)
    (of_decide_eq_true (by kernel_rfl)) (by unfold Func.isWrapper; first | (rw [if_pos (by decide +kernel)]; kernel_rfl) | (rw [if_neg (by decide +kernel)]; exact ⟨rfl, rfl⟩))
    (fun os started H enc _ => idealSigns_lifted os started H enc)

end Go.Proofs.Ythgpkbhilkdckaa
