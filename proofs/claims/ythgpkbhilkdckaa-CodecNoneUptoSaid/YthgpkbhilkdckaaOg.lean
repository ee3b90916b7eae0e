/- Arguments opened: slices of two-cell structs, slices of byte slices. No program here. -/
import Derived.Test.YthgpkbhilkdckaaH1
import Derived.Test.YthgpkbhilkdckaaB1
import Derived.Deep.Slices
import Derived.Deep.Fields
import Derived.ChangeSame
import Derived.SizedLaws
namespace Go.Proofs.Ythgpkbhilkdckaa
open Go.ChangeShapes Go.WideShapes Go.ChangeAt Go.RowKit Go.Deep
set_option linter.unusedVariables false

theorem list_choose {α : Type} {P : Nat → α → Prop} (n : Nat) (h : ∀ i, i < n → ∃ x, P i x) : ∃ L : List α, L.length = n ∧ ∀ i x, L[i]? = some x → P i x := by
  induction n with
  | zero => exact ⟨[], rfl, fun i x hx => by simp at hx⟩
  | succ n ih =>
    obtain ⟨L, hl, hL⟩ := ih (fun i hi => h i (by omega))
    obtain ⟨x, hx⟩ := h n (by omega)
    refine ⟨L ++ [x], by simp [hl], fun i y hy => ?_⟩
    by_cases hi : i < L.length
    · rw [List.getElem?_append_left hi] at hy; exact hL i y hy
    · rw [List.getElem?_append_right (by omega)] at hy
      have : i - L.length = 0 := by
        rcases Nat.eq_zero_or_pos (i - L.length) with e | e
        · exact e
        · rw [List.getElem?_eq_none (by simp; omega)] at hy; cases hy
      rw [this] at hy
      simp at hy
      subst hy
      have : i = n := by omega
      rw [this]; exact hx

/-- a slice of pairs of ints, read -/
def Ss (w : World) (v : Value) (L : List (Int × Int)) : Prop := ∃ (A : Option Addr) (cap : Nat), v = .slice A L.length cap ∧ (0 < L.length → ∃ b off, A = some ⟨b, off, none⟩ ∧ b < w.heap.size ∧
  ∀ i x, L[i]? = some x → w.cell? ⟨b, off + i * 2, none⟩ = some (.int .i64 x.1) ∧ w.cell? ⟨b, off + i * 2 + 1, none⟩ = some (.int .i64 x.2))
theorem Ss.ext {own : Nat → Prop} {w w' : World} {v : Value} {L : List (Int × Int)} (h : Ss w v L) (hb : Ext own w w') (hd : ∀ g, v.ownBlock = some g → ¬ own g) : Ss w' v L := by
  obtain ⟨A, cap, rfl, hr⟩ := h
  refine ⟨A, cap, rfl, fun hn => ?_⟩
  obtain ⟨b, off, rfl, hb1, hc⟩ := hr hn
  have hno : ¬ own b := hd b rfl
  exact ⟨b, off, rfl, Nat.lt_of_lt_of_le hb1 hb.size, fun i x hx => ⟨hb.cell hno (hc i x hx).1, hb.cell hno (hc i x hx).2⟩⟩
theorem Ss.later {w w' : World} {v : Value} {L : List (Int × Int)} (h : Ss w v L) (hb : B w w') : Ss w' v L := h.ext (Ext.of_B (own := fun _ => False) hb) (fun _ _ => id)

theorem addr_add (b off k : Nat) : (⟨b, off, none⟩ : Addr).add k = ⟨b, off + k, none⟩ := by unfold Addr.add; split <;> simp_all
theorem cell_spot {w : World} {a : Addr} {v : Value} (h : w.cell? a = some v) : a = ⟨a.block, a.off, none⟩ := by
  unfold World.cell? at h
  split at h
  · split at h
    · cases h
    · rename_i hs
      cases a with
      | mk b o s => cases s with
        | none => rfl
        | some x => simp at hs
  · cases h

section
variable {H : Type} {enc : TypeId × Value → H} {P : Program} {w : World} {base : Nat} {held : Bool} {spare : Nat → Bool}
theorem open_sgs {r : Reach} {b0 : Nat} {t e : TypeId} {f0 f1 : Field} {v : Value} {d : DataW H} {p : List MemPlace} (ht : P.underlying t = some (.slice e)) (he : P.underlying e = some (.struct #[f0, f1]))
    (hC : P.cellsOf e = 2) (h0 : f0.offset = 0 ∧ P.cellsOf f0.type = 1 ∧ P.underlying f0.type = some (.int .i64)) (h1 : f1.offset = 1 ∧ P.cellsOf f1.type = 1 ∧ P.underlying f1.type = some (.int .i64))
    (hv : Value.okWide P w r b0 t v) (h : DataW.Trod enc P w base spare held t v d p) :
    ∃ L, Ss w v L ∧ ((v = .slice none 0 0 ∧ d = .nil) ∨ ∃ elems sp, d = .slice elems sp ∧ elems.length = L.length) := by
  obtain ⟨A, len, cap, rfl⟩ := okWide_slice ht hv
  obtain ⟨fuel, hf⟩ := h
  rcases open_slice ht hf with ⟨h2, h3⟩ | ⟨a, len', cap', m, n, D, Pl, hcs, hb, hl, hm, hmm, hx, hi⟩
  · simp [Value.cells] at h2
    obtain ⟨rfl, rfl, rfl⟩ := h2
    simp only [Prod.mk.injEq] at h3
    exact ⟨[], ⟨none, 0, rfl, fun h => by simp at h⟩, .inl ⟨rfl, h3.1⟩⟩
  · simp [Value.cells] at hcs
    obtain ⟨rfl, rfl, rfl⟩ := hcs
    have hlm : len ≤ m := by rw [hmm]; split <;> omega
    obtain ⟨L, hLl, hL⟩ := list_choose (P := fun i (x : Int × Int) => w.cell? ((a.add (i * 2)).add 0) = some (.int .i64 x.1) ∧ w.cell? ((a.add (i * 2)).add 1) = some (.int .i64 x.2)) len (fun i hil => by
      obtain ⟨cs', hc, htr⟩ := hi i (by omega)
      rw [hC] at hc
      obtain ⟨_, hcl, hcat⟩ := World.cells?_some hc
      obtain ⟨y0, y1, n', _, _, t0, t1⟩ := trod_struct2 he htr
      match cs', hcl with
      | [c0, c1], _ =>
        rw [h0.1, h0.2.1] at t0
        rw [h1.1, h1.2.1] at t1
        obtain ⟨x0, e0, _, _⟩ := DataW.trod_int h0.2.2 t0
        obtain ⟨x1, e1, _, _⟩ := DataW.trod_int h1.2.2 t1
        simp at e0 e1
        subst e0 e1
        exact ⟨(x0, x1), hcat 0 (by omega), hcat 1 (by omega)⟩)
    simp only [Prod.mk.injEq] at hx
    refine ⟨L, ⟨some a, cap, by rw [hLl], fun hn => ?_⟩, .inr ⟨_, _, hx.1, by simp [hLl]⟩⟩
    have z := (hL 0 _ (List.getElem?_eq_getElem hn)).1
    have za : a = ⟨a.block, a.off, none⟩ := by
      have := cell_spot z
      simp [Addr.add] at this
      exact this
    have hblt := World.block_lt_of_cell? w _ z
    rw [block_of_add, block_of_add] at hblt
    refine ⟨a.block, a.off, by rw [← za], hblt, fun i x hx => ?_⟩
    have := hL i x hx
    rw [za] at this
    rw [addr_add, addr_add, addr_add] at this
    exact this
end
end Go.Proofs.Ythgpkbhilkdckaa
