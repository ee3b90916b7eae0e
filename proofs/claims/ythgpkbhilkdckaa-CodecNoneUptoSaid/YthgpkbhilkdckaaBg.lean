/- The law's 'begun' of chapter 2: it returns true. -/
import Derived.Test.YthgpkbhilkdckaaTc
import Derived.Test.YthgpkbhilkdckaaLe
import Derived.Test.YthgpkbhilkdckaaB1
namespace Go.Proofs.Ythgpkbhilkdckaa
open Go.RowKit
set_option linter.unusedVariables false

theorem TableAt.bound {own : Nat → Prop} {w : World} {p : Nat} {M : List (List UInt8)} (h : TableAt own w p M) : TableAt (fun x => own x ∧ x < w.heap.size) w p M := by
  obtain ⟨m, v, vs, h1, h2, h3, h4, h5, h6, h7⟩ := h
  exact ⟨m, v, vs, ⟨h1, h4.lt⟩, ⟨h2, h5.lt⟩, fun g hg => ⟨h3 g hg, row_lt h6 hg⟩, h4, h5, h6, h7.1, fun i v b hv hm => let ⟨r1, r2, r3⟩ := h7.2 i v b hv hm; ⟨r1, r2, fun g hg => ⟨r3 g hg, row_lt r1 hg⟩⟩⟩
theorem LedgerAt.bound {own : Nat → Prop} {w : World} {p : Nat} {s : List (Int × Int)} (h : LedgerAt own w p s) : LedgerAt (fun x => own x ∧ x < w.heap.size) w p s := by
  obtain ⟨m, v, h1, h2, h3, h4, h5, h6⟩ := h
  exact ⟨m, v, ⟨h1, h4.lt⟩, ⟨h2, h5.lt⟩, fun g hg => ⟨h3 g hg, row_lt h6 hg⟩, h4, h5, h6⟩

/-- a one-letter constant as bytes -/
theorem strArg (w : World) (c : UInt8) (i : Int) (hc : (c.toNat : Int) = i) : ∃ wc, (convert 47 47 (.slice (some ⟨w.heap.size, 0, none⟩) 1 1)).run Try.prog (w.alloc (.cells #[.int .u8 i] 5)) = .ok (.slice (some ⟨w.heap.size, 0, none⟩) 1 1) wc ∧ B w wc ∧ Bs wc (.slice (some ⟨w.heap.size, 0, none⟩) 1 1) [c] := by
  subst hc
  have hb := Blk.new w 5 #[.int .u8 c.toNat]
  unfold Blk at hb
  have hsh : (w.alloc (.cells #[.int .u8 c.toNat] 5)).shape? w.heap.size = some (5, 1) := by
    simp only [World.shape?]
    rw [hb]; rfl
  have hfr : ((w.alloc (.cells #[.int .u8 c.toNat] 5)).freeze ⟨w.heap.size, 1, none⟩ 1).heap[w.heap.size]? = some (.cells #[.int .u8 c.toNat] 5 (1, 2)) := by
    show (Array.modify _ _ _)[w.heap.size]? = _
    rw [Array.getElem?_modify, if_pos rfl, hb]; rfl
  refine ⟨(w.alloc (.cells #[.int .u8 c.toNat] 5)).freeze ⟨w.heap.size, 1, none⟩ 1, ?_, ?_, ?_⟩
  · simp [convert, run_underlying Try.underlying47, run_underlying Try.underlying5, markStringish, shape, freeze, Sem.run, hsh]
  · refine ⟨rfl, rfl, rfl, by simp [World.freeze], fun b hb => ?_⟩
    show (Array.modify _ _ _)[b]? = _
    rw [Array.getElem?_modify, if_neg (by simp; omega)]
    exact Below.heap_alloc _ _ _ hb
  · refine ⟨⟨_, 1, rfl, fun e => (by cases e), Nat.le_refl _, by unfold maxLen; omega, fun ad had => ?_⟩, by simp [big]⟩
    cases had
    refine ⟨fun _ => by simp [World.freeze], fun j u hu => ?_⟩
    match j, hu with
    | 0, hu =>
      simp [cellsB] at hu
      subst hu
      simp only [World.cell?, Addr.add, if_true]
      rw [hfr]; rfl
    | j + 1, hu => simp [cellsB] at hu

theorem B.trans' {own : Nat → Prop} {a b c : World} (h : B a b) (k : Ext own b c) (hs : ∀ x, x < a.heap.size → own x → False) : B a c :=
  (((Ext.of_B (own := own) h).trans_ k).to_B (fun x hx e => hs x hx e))

set_option maxHeartbeats 1000000 in
theorem begun24 (w : World) : Calls Try.prog 24 #[] w fun e w' => e = .returned (.bool true) ∧ B w w' := by
  go_enter Try.func24, Try.ntmps24
  go_wp2_with fail
  refine (newTable61 _).mono ?_
  rintro e w1 ⟨rfl, hw1⟩
  have ht := TableAt.new w
  rw [← hw1] at ht
  have hb1 : B w w1 := by rw [hw1]; exact (B.alloc' _ _).trans (B.alloc' _ _)
  have z1 : w1.heap.size = w.heap.size + 2 := by rw [hw1]; simp
  clear hw1
  have Z1 := Lib.hid z1
  clear z1
  go_wp2_with fail
  refine (newLedger23 _).mono ?_
  rintro e w2 ⟨rfl, hw2⟩
  have hl := LedgerAt.new w1
  rw [← hw2] at hl
  have hb2 : B w1 w2 := by rw [hw2]; exact (B.alloc' _ _).trans (B.alloc' _ _)
  have Z2 := Lib.hid (show w2.heap.size = w.heap.size + 4 by rw [hw2]; simp [Z1.out])
  clear hw2
  have ht := (ht.later hb2).bound
  obtain ⟨w3, q3, hb3, bs3⟩ := strArg w2 97 97 rfl
  go_wp2_with fail
  refine (sum52 (ht.later hb3) bs3 (fun g hg _ => (by have : w2.heap.size = g := (by simpa [Value.ownBlock] using hg); omega))).mono ?_
  rintro e w4 ⟨rfl, ht4, hx4⟩
  simp only [show sumN [] [97] = 1 from by decide]
  have ht4 := ht4.bound
  have hl4 := (hl.later hb3).ext hx4 (fun x hx e => by have := Z1.out; omega)
  have hB4 : B w w4 := (((hb1.trans hb2).trans hb3)).trans' hx4 (fun x hx e => by omega)
  obtain ⟨w5, q5, hb5, bs5⟩ := strArg w4 98 98 rfl
  have S4 := Lib.hid hx4.size
  have S3 := Lib.hid hb3.size
  clear q3 bs3 hl ht hx4
  go_wp2_with fail
  refine (sum52 (ht4.later hb5) bs5 (fun g hg _ => (by have : w4.heap.size = g := (by simpa [Value.ownBlock] using hg); omega))).mono ?_
  rintro e w6 ⟨rfl, ht6, hx6⟩
  simp only [show sumN (sumM [] [97]) [98] = 2 from by decide]
  have ht6 := ht6.bound
  have S6 := Lib.hid hx6.size
  have S5 := Lib.hid hb5.size
  have hl6 := (hl4.later hb5).ext hx6 (fun x hx e => by have := Z1.out; have := Z2.out; have := S3.out; omega)
  have hB6 : B w w6 := (hB4.trans hb5).trans' hx6 (fun x hx e => by have := Z2.out; have := S3.out; omega)
  obtain ⟨w7, q7, hb7, bs7⟩ := strArg w6 97 97 rfl
  clear q5 bs5 hl4 ht4 hx6
  go_wp2_with fail
  refine (sum52 (ht6.later hb7) bs7 (fun g hg _ => (by have : w6.heap.size = g := (by simpa [Value.ownBlock] using hg); omega))).mono ?_
  rintro e w8 ⟨rfl, ht8, hx8⟩
  simp only [show sumN (sumM (sumM [] [97]) [98]) [97] = 1 from by decide]
  have hl8 := (hl6.later hb7).ext hx8 (fun x hx e => by have := Z1.out; have := Z2.out; have := S3.out; have := S4.out; have := S5.out; omega)
  have hB8 : B w w8 := (hB6.trans hb7).trans' hx8 (fun x hx e => by have := Z2.out; have := S3.out; have := S4.out; have := S5.out; omega)
  clear q7 bs7 hl6 ht6 hx8 ht8 hB4 hB6
  go_wp2_with fail
  refine (sign25 hl8 3 1 (by simp)).mono ?_
  rintro e w9 ⟨rfl, hl9, hx9⟩
  simp only [show sgnV 3 1 = (3, 1) from by decide, show sgnE 3 1 = 0 from by decide]
  have hB9 : B w w9 := hB8.trans' hx9 (fun x hx e => by have := Z1.out; omega)
  clear hl8 hx9 hb1 hb2 hb3 hb5 hb7 S3 S4 S5 S6 Z2
  have hs1 := Lib.hid (fun w' (hb : B (w9.alloc (.cells #[.int .i64 3, .int .i64 1] 25)) w') => signed26 (hl9.later ((B.alloc' _ _).trans hb)) 3 1)
  have hs2 := Lib.hid (fun w' (hb : B (w9.alloc (.cells #[.int .i64 3, .int .i64 1] 25)) w') => signed26 (hl9.later ((B.alloc' _ _).trans hb)) 4 1)
  have l1 : ∀ w', B (w9.alloc (.cells #[.int .i64 3, .int .i64 1] 25)) w' → w'.cell? ⟨w9.heap.size, 0, none⟩ = some (.int .i64 3) := fun w' hb => (Own2.mk.later hb).1
  have l2 : ∀ w', B (w9.alloc (.cells #[.int .i64 3, .int .i64 1] 25)) w' → w'.cell? ⟨w9.heap.size, 1, none⟩ = some (.int .i64 1) := fun w' hb => (Own2.mk.later hb).2.1
  have e1 : decide ((3, 1) ∈ sgnS 3 1 []) = true := by decide
  have e2 : decide ((4, 1) ∈ sgnS 3 1 []) = false := by decide
  go_wp2_with fail
  refine (hs1.out _ (Below.refl _ _)).mono ?_
  rintro e wa ⟨rfl, hba⟩
  simp only [e1]
  have l3 := l1 _ hba
  have l4 := l2 _ hba
  go_wp2_with fail
  refine (hs2.out _ hba).mono ?_
  rintro e wb ⟨rfl, hbb⟩
  simp only [e2]
  go_wp2
  go_ret
  exact ⟨rfl, ((hB9.trans (B.alloc' _ _)).trans hba).trans hbb⟩
end Go.Proofs.Ythgpkbhilkdckaa
