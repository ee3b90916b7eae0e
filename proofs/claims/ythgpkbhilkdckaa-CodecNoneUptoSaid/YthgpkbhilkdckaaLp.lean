/- Arguments opened, with their lengths: []byte, [][]byte. No program here. -/
import Derived.Test.YthgpkbhilkdckaaLo
namespace Go.Proofs.Ythgpkbhilkdckaa
open Go.ChangeShapes Go.WideShapes Go.ChangeAt Go.RowKit Go.Deep
set_option linter.unusedVariables false

section
variable {H : Type} {enc : TypeId × Value → H} {P : Program} {w : World} {base : Nat} {held : Bool} {spare : Nat → Bool}
theorem bs_sized {fuel : Nat} {t e : TypeId} {c : Value} {x : DataW H × List MemPlace} (ht : P.underlying t = some (.slice e)) (he : P.underlying e = some (.int .u8)) (hC : P.cellsOf e = 1) (h1 : P.bytesOf e = 1)
    (h : DataW.trod enc P w base spare held fuel t [c] = some x) (hw : ∀ n ∈ x.1.weights P t, n ≤ reachBytes) : ∃ bs, Bs w c bs ∧ bs.length ≤ reachBytes := by
  obtain ⟨bs, hb⟩ := bs_of_sized ht he hC h1 h hw
  refine ⟨bs, hb, ?_⟩
  obtain ⟨⟨A, cap0, hv, _⟩, _⟩ := hb
  rcases open_slice ht h with ⟨h2, h3⟩ | ⟨a, len, cap, m, n, D, Pl, hcs, hb, hl, hm, hmm, rfl, hi⟩
  · subst hv
    simp at h2
    omega
  · subst hv
    simp at hcs
    obtain ⟨_, rfl, _⟩ := hcs
    have := hw ((bs.length + (m - bs.length)) * P.bytesOf e) (by simp [DataW.weights, ht])
    rw [h1] at this
    omega
theorem open_bs' {r : Reach} {b0 : Nat} {t e : TypeId} {v : Value} {d : DataW H} {p : List MemPlace} (ht : P.underlying t = some (.slice e)) (he : P.underlying e = some (.int .u8)) (hC : P.cellsOf e = 1) (h1 : P.bytesOf e = 1)
    (hv : Value.okWide P w r b0 t v) (h : DataW.Trod enc P w base spare held t v d p) (hw : ∀ n ∈ d.weights P t, n ≤ reachBytes) : ∃ bs, Bs w v bs ∧ bs.length ≤ reachBytes := by
  obtain ⟨A, len, cap, rfl⟩ := okWide_slice ht hv
  obtain ⟨fuel, hf⟩ := h
  simp only [Value.cells] at hf
  exact bs_sized ht he hC h1 hf hw
theorem open_bss' {r : Reach} {b0 : Nat} {T t e : TypeId} {v : Value} {d : DataW H} {p : List MemPlace} (hT : P.underlying T = some (.slice t)) (ht : P.underlying t = some (.slice e)) (he : P.underlying e = some (.int .u8)) (hCt : P.cellsOf t = 1) (hC : P.cellsOf e = 1) (h1 : P.bytesOf e = 1)
    (hv : Value.okWide P w r b0 T v) (h : DataW.Trod enc P w base spare held T v d p) (hw : ∀ n ∈ d.weights P T, n ≤ reachBytes) : ∃ L, Lss (fun g => g < w.heap.size) w v L ∧ ∀ x ∈ L, x.length ≤ reachBytes := by
  obtain ⟨A, len, cap, rfl⟩ := okWide_slice hT hv
  obtain ⟨fuel, hf⟩ := h
  rcases open_slice1 hT hCt hf with ⟨h2, h3⟩ | ⟨a, len', cap', m, n, V, D, Pl, hcs, hb, hl, hm, hmm, hx, hi⟩
  · simp [Value.cells] at h2
    obtain ⟨rfl, rfl, rfl⟩ := h2
    exact ⟨[], ⟨none, 0, rfl, fun _ => ⟨rfl, rfl⟩, Nat.le_refl _, by unfold maxLen; omega, fun h => by simp at h⟩, by simp⟩
  · simp [Value.cells] at hcs
    obtain ⟨rfl, rfl, rfl⟩ := hcs
    have hlm : len ≤ m := by rw [hmm]; split <;> omega
    simp only [Prod.mk.injEq] at hx
    obtain ⟨L, hLl, hL⟩ := list_choose (P := fun i (x : List UInt8) => (∃ u, w.cell? (a.add i) = some u ∧ Bs w u x) ∧ x.length ≤ reachBytes) len (fun i hil => by
      obtain ⟨hc, htr⟩ := hi i (by omega)
      obtain ⟨bs, hbs, hbl⟩ := bs_sized ht he hC h1 htr (fun k hk => hw k (by
        rw [hx.1]
        simp only [DataW.weights, hT, List.mem_cons, List.mem_append]
        exact .inr (.inl (weights_all (i := i) (by simp [hil]) hk))))
      exact ⟨bs, ⟨V i, hc, hbs⟩, hbl⟩)
    refine ⟨L, ⟨some a, cap, by rw [hLl], fun h => (by cases h), by omega, hm, fun hn => ?_⟩, fun x hx => ?_⟩
    · obtain ⟨⟨u0, z, _⟩, _⟩ := hL 0 _ (List.getElem?_eq_getElem hn)
      have za : a = ⟨a.block, a.off, none⟩ := by
        have := cell_spot z
        simp [Addr.add] at this
        exact this
      have hblt := World.block_lt_of_cell? w _ z
      rw [block_of_add] at hblt
      refine ⟨a.block, a.off, by rw [← za], hblt, hblt, fun i x hx => ?_⟩
      obtain ⟨⟨u, h1, h2⟩, _⟩ := hL i x hx
      rw [za, addr_add] at h1
      exact ⟨u, h1, h2, fun g hg hne => h2.lt hne hg⟩
    · obtain ⟨i, hi, rfl⟩ := List.mem_iff_getElem.1 hx
      exact (hL i _ (List.getElem?_eq_getElem hi)).2
end
end Go.Proofs.Ythgpkbhilkdckaa
