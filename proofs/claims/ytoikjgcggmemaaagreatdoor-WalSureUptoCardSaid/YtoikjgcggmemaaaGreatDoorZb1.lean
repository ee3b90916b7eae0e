/- Lemmas and contracts, part 1. -/
import Derived.WalkKit
import Derived.WalkLawsBesides
import Derived.WalkSpells
import Derived.Deep.RegionHeld3
import Derived.BigQuiet
import Derived.ProofKit
import Derived.OpenShut
import Derived.Lib.Hide
/- General lemmas on worlds for the walks: what was there stays (B), own blocks, stores. No program here. -/
namespace Go.Proofs.YtoikjgcggmemaaaGreatDoor
open Go.RowKit
set_option linter.unusedVariables false

/-- what was there is as it was -/
abbrev B (w w' : World) : Prop := Below w.heap.size w w'

theorem B.cell {w w' : World} (h : B w w') {a : Addr} {v : Value} (hv : w.cell? a = some v) : w'.cell? a = some v := by
  rw [Below.cell h (World.block_lt_of_cell? w a hv)]; exact hv
theorem bcell {W w1 : World} (hb : Below W.heap.size W w1) : (∀ b o, b < W.heap.size → w1.cell? ⟨b, o, none⟩ = W.cell? ⟨b, o, none⟩) ∧ (∀ b o, b < W.heap.size → w1.frozen? ⟨b, o, none⟩ = W.frozen? ⟨b, o, none⟩) :=
  ⟨fun b o h => hb.cell (p := ⟨b, o, none⟩) h, fun b o h => hb.frozen (p := ⟨b, o, none⟩) h⟩
theorem B.trans {a b c : World} (h : B a b) (k : B b c) : B a c := Below.trans h (k.mono h.size)
theorem B.alloc' (w : World) (o : Obj) : B w (w.alloc o) := (Below.refl _ _).alloc (Nat.le_refl _) _
theorem bsize {w W w1 : World} (n : Nat) (hb : B W w1) (hn : w.heap.size + n + 1 ≤ W.heap.size) : w.heap.size < w1.heap.size ∧ ∀ i, i < n + 1 → w.heap.size + i < w1.heap.size := by
  have := hb.size
  exact ⟨by omega, fun i hi => by omega⟩

@[go_sem] theorem cell_set (w : World) (b o b' o' : Nat) (v : Value) : (w.setCell ⟨b, o, none⟩ v).cell? ⟨b', o', none⟩ = if b = b' ∧ o = o' then (w.cell? ⟨b', o', none⟩).map (fun _ => v) else w.cell? ⟨b', o', none⟩ := by
  split
  · rename_i h
    obtain ⟨rfl, rfl⟩ := h
    cases h : w.cell? ⟨b, o, none⟩ with
    | some u => rw [World.cell?_setCell_same w _ _ h]; rfl
    | none =>
      simp only [World.cell?, World.setCell, Array.getElem?_modify, if_true] at h ⊢
      cases hb : w.heap[b]? with
      | none => rfl
      | some x =>
        rw [hb] at h
        cases x <;> simp_all
  · rename_i h
    exact World.cell?_setCell_other w _ _ _ (fun e => h (by injection e with e1 e2; exact ⟨e1, e2⟩))

/-- an own block of two cells -/
def Own2 (w : World) (b : Nat) (x y : Value) : Prop := w.cell? ⟨b, 0, none⟩ = some x ∧ w.cell? ⟨b, 1, none⟩ = some y ∧ w.frozen? ⟨b, 0, none⟩ = false ∧ w.frozen? ⟨b, 1, none⟩ = false ∧ b < w.heap.size
theorem Own2.mk {w : World} {x y : Value} {T : Nat} : Own2 (w.alloc (.cells #[x, y] T)) w.heap.size x y := by
  refine ⟨?_, ?_, ?_, ?_, ?_⟩ <;> simp [go_sem]
theorem Own2.later {w w' : World} {b : Nat} {x y : Value} (h : Own2 w b x y) (hb : B w w') : Own2 w' b x y :=
  ⟨hb.cell h.1, hb.cell h.2.1, by rw [Below.frozen hb h.2.2.2.2]; exact h.2.2.1, by rw [Below.frozen hb h.2.2.2.2]; exact h.2.2.2.1, Nat.lt_of_lt_of_le h.2.2.2.2 hb.size⟩
theorem Own2.alloc {w : World} {b : Nat} {x y : Value} (h : Own2 w b x y) (o : Obj) : Own2 (w.alloc o) b x y := h.later (B.alloc' w o)
/-- both cells stored -/
theorem Own2.set {w : World} {b : Nat} {x y : Value} (h : Own2 w b x y) (u v : Value) : Own2 ((w.setCell ⟨b, 0, none⟩ u).setCell ⟨b, 1, none⟩ v) b u v := by
  obtain ⟨h1, h2, h3, h4, h5⟩ := h
  refine ⟨?_, ?_, ?_, ?_, ?_⟩ <;> simp [*, cell_set]
theorem Own2.other {w : World} {b b' : Nat} {x y : Value} (h : Own2 w b x y) (hne : b' ≠ b) (o : Nat) (u : Value) : Own2 (w.setCell ⟨b', o, none⟩ u) b x y := by
  obtain ⟨h1, h2, h3, h4, h5⟩ := h
  refine ⟨?_, ?_, ?_, ?_, ?_⟩ <;> simp [*, cell_set]
theorem retI {k : IntKind} {a b : Int} (h : a = b) : Ending.returned (.int k a) = .returned (.int k b) := by rw [h]
theorem retB {a b : Bool} (h : a = b) : Ending.returned (.bool a) = .returned (.bool b) := by rw [h]
theorem retT {a b c d : Int} (h1 : a = c) (h2 : b = d) : Ending.returned (.agg #[.int .i64 a, .int .i64 b]) = .returned (.agg #[.int .i64 c, .int .i64 d]) := by rw [h1, h2]
end Go.Proofs.YtoikjgcggmemaaaGreatDoor
