/- CodecReads: its argument opened (a slice of five-field structs), the walk. -/
import Derived.Test.YthgpkbhilkdckaaDf
namespace Go.Proofs.Ythgpkbhilkdckaa
open Go.ChangeShapes Go.WideShapes Go.ChangeAt Go.RowKit Go.Deep
set_option linter.unusedVariables false

/-- one ask: what to do, most, n, each, the error -/
structure AskV where
  d : Int
  m : Nat
  n : Int
  k : Int
  c : Int
def AskV.cells (a : AskV) : Array Value := #[.int .i64 a.d, .int .u64 (a.m : Int), .int .i64 a.n, .int .i64 a.k, .int .i64 a.c]
def AskV.ok (a : AskV) : Prop := (-9223372036854775808 ≤ a.n ∧ a.n ≤ 9223372036854775807) ∧ a.k ≤ 9223372036854775807
def As (w : World) (v : Value) (L : List AskV) : Prop := ∃ (A : Option Addr) (cap : Nat), v = .slice A L.length cap ∧ L.length ≤ maxLen ∧ (0 < L.length → ∃ b off, A = some ⟨b, off, none⟩ ∧ b < w.heap.size ∧
  ∀ i x, L[i]? = some x → x.ok ∧ ∀ j u, x.cells[j]? = some u → w.cell? ⟨b, off + i * 5 + j, none⟩ = some u)
section
variable {H : Type} {enc : TypeId × Value → H} {P : Program} {w : World} {base : Nat} {held : Bool} {spare : Nat → Bool}
theorem open_asks {r : Reach} {b0 : Nat} {t e : TypeId} {f0 f1 f2 f3 f4 : Field} {v : Value} {d : DataW H} {p : List MemPlace} (ht : P.underlying t = some (.slice e)) (he : P.underlying e = some (.struct #[f0, f1, f2, f3, f4]))
    (hC : P.cellsOf e = 5) (h0 : f0.offset = 0 ∧ P.cellsOf f0.type = 1 ∧ P.underlying f0.type = some (.int .i64)) (h1 : f1.offset = 1 ∧ P.cellsOf f1.type = 1 ∧ P.underlying f1.type = some (.int .u64))
    (h2 : f2.offset = 2 ∧ P.cellsOf f2.type = 1 ∧ P.underlying f2.type = some (.int .i64)) (h3 : f3.offset = 3 ∧ P.cellsOf f3.type = 1 ∧ P.underlying f3.type = some (.int .i64)) (h4 : f4.offset = 4 ∧ P.cellsOf f4.type = 1 ∧ P.underlying f4.type = some (.int .i64))
    (hv : Value.okWide P w r b0 t v) (h : DataW.Trod enc P w base spare held t v d p) : ∃ L, As w v L := by
  obtain ⟨A, len, cap, rfl⟩ := okWide_slice ht hv
  obtain ⟨fuel, hf⟩ := h
  rcases open_slice ht hf with ⟨q2, q3⟩ | ⟨a, len', cap', m, n, D, Pl, hcs, hb, hl, hm, hmm, hx, hi⟩
  · simp [Value.cells] at q2
    obtain ⟨rfl, rfl, rfl⟩ := q2
    exact ⟨[], none, 0, rfl, by simp, fun h => by simp at h⟩
  · simp [Value.cells] at hcs
    obtain ⟨rfl, rfl, rfl⟩ := hcs
    have hlm : len ≤ m := by rw [hmm]; split <;> omega
    obtain ⟨L, hLl, hL⟩ := list_choose (P := fun i (x : AskV) => x.ok ∧ ∀ j u, x.cells[j]? = some u → w.cell? ((a.add (i * 5)).add j) = some u) len (fun i hil => by
      obtain ⟨cs', hc, htr⟩ := hi i (by omega)
      rw [hC] at hc
      obtain ⟨_, hcl, hcat⟩ := World.cells?_some hc
      obtain ⟨xs, n', _, _, _, hlen, hg⟩ := DataW.trod_struct he htr
      match cs', hcl, xs, hlen with
      | [c0, c1, c2, c3, c4], _, [y0, y1, y2, y3, y4], _ =>
        have t0 := hg 0 f0 rfl
        have t1 := hg 1 f1 rfl
        have t2 := hg 2 f2 rfl
        have t3 := hg 3 f3 rfl
        have t4 := hg 4 f4 rfl
        rw [h0.1, h0.2.1] at t0
        rw [h1.1, h1.2.1] at t1
        rw [h2.1, h2.2.1] at t2
        rw [h3.1, h3.2.1] at t3
        rw [h4.1, h4.2.1] at t4
        obtain ⟨x0, e0, _, _⟩ := DataW.trod_int h0.2.2 t0
        obtain ⟨x1, e1, _, w1⟩ := DataW.trod_int h1.2.2 t1
        obtain ⟨x2, e2, _, w2⟩ := DataW.trod_int h2.2.2 t2
        obtain ⟨x3, e3, _, w3⟩ := DataW.trod_int h3.2.2 t3
        obtain ⟨x4, e4, _, _⟩ := DataW.trod_int h4.2.2 t4
        simp at e0 e1 e2 e3 e4
        subst e0 e1 e2 e3 e4
        have r1 : 0 ≤ x1 ∧ x1 ≤ 18446744073709551615 := by simpa [Lit.wf, IntKind.min, IntKind.max, IntKind.signed, IntKind.bits] using w1
        have r2 : -9223372036854775808 ≤ x2 ∧ x2 ≤ 9223372036854775807 := by simpa [Lit.wf, IntKind.min, IntKind.max, IntKind.signed, IntKind.bits] using w2
        have r3 : -9223372036854775808 ≤ x3 ∧ x3 ≤ 9223372036854775807 := by simpa [Lit.wf, IntKind.min, IntKind.max, IntKind.signed, IntKind.bits] using w3
        refine ⟨⟨x0, x1.toNat, x2, x3, x4⟩, ⟨r2, r3.2⟩, fun j u hu => ?_⟩
        have en : ((x1.toNat : Nat) : Int) = x1 := Int.toNat_of_nonneg r1.1
        simp only [AskV.cells, en] at hu
        have hj : j < 5 := by
          rcases Nat.lt_or_ge j 5 with h | h
          · exact h
          · rw [Array.getElem?_eq_none (by simpa using h)] at hu; cases hu
        rw [hcat j hj]
        simpa using hu)
    refine ⟨L, some a, cap, by rw [hLl], by omega, fun hn => ?_⟩
    have z := (hL 0 _ (List.getElem?_eq_getElem hn)).2 0 _ rfl
    have za : a = ⟨a.block, a.off, none⟩ := by
      have := cell_spot z
      simp [Addr.add] at this
      exact this
    have hblt := World.block_lt_of_cell? w _ z
    rw [block_of_add, block_of_add] at hblt
    refine ⟨a.block, a.off, by rw [← za], hblt, fun i x hx => ⟨(hL i x hx).1, fun j u hu => ?_⟩⟩
    have := (hL i x hx).2 j u hu
    rw [za] at this
    rw [addr_add, addr_add] at this
    exact this
end
end Go.Proofs.Ythgpkbhilkdckaa
