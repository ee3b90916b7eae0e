/- Arguments opened where their bulk is bounded: []byte, [][]byte. -/
import Derived.Test.YthgpkbhilkdckaaLp
import Derived.Test.YthgpkbhilkdckaaRows
import Derived.JoinedCond
namespace Go.Proofs.Ythgpkbhilkdckaa
open Go.ChangeShapes Go.WideShapes Go.ChangeAt Go.RowKit Go.Deep
set_option linter.unusedVariables false

theorem bulk_one {H : Type} (d : DataW H) : 1 ≤ Rows.uptoBulk d := by
  cases d with
  | lit l => cases l <;> simp [Rows.uptoBulk]
  | nil => simp [Rows.uptoBulk]
  | ptr d => simp [Rows.uptoBulk]
  | slice elems spare => simp [Rows.uptoBulk]
  | agg parts => simp [Rows.uptoBulk]
  | iface t d => simp [Rows.uptoBulk]
  | map entries => simp [Rows.uptoBulk]
  | held h => simp [Rows.uptoBulk]
theorem bulk_len {H : Type} (l : List (DataW H)) : l.length ≤ Rows.uptoBulkAll l := by
  induction l with
  | nil => simp [Rows.uptoBulkAll]
  | cons x r ih => have := bulk_one x; simp only [Rows.uptoBulkAll, List.length_cons]; omega
theorem bulk_sum {H α : Type} (f : α → Nat) : ∀ (L : List α) (E : List (DataW H)), L.length = E.length → (∀ (i : Nat) (x : α) (d : DataW H), L[i]? = some x → E[i]? = some d → f x ≤ Rows.uptoBulk d) → (L.map f).sum ≤ Rows.uptoBulkAll E
  | [], [], _, _ => by simp
  | [], _ :: _, h, _ => by simp at h
  | _ :: _, [], h, _ => by simp at h
  | x :: L, d :: E, h, hf => by
    have h0 := hf 0 x d rfl rfl
    have := bulk_sum f L E (by simpa using h) (fun i y c h1 h2 => hf (i + 1) y c (by simpa using h1) (by simpa using h2))
    simp only [List.map_cons, List.sum_cons, Rows.uptoBulkAll]
    omega
theorem bulk_slice {H : Type} (E S : List (DataW H)) : Rows.uptoBulkAll E + Rows.uptoBulkAll S + 1 = Rows.uptoBulk (.slice E S) := by simp only [Rows.uptoBulk]
section
variable {H : Type} {enc : TypeId × Value → H} {P : Program} {w : World} {base : Nat} {held : Bool} {spare : Nat → Bool}
theorem bs_upto {fuel : Nat} {t e : TypeId} {c : Value} {x : DataW H × List MemPlace} (ht : P.underlying t = some (.slice e)) (he : P.underlying e = some (.int .u8)) (hC : P.cellsOf e = 1)
    (h : DataW.trod enc P w base spare held fuel t [c] = some x) (hB : Rows.uptoBulk x.1 ≤ 1048576) : ∃ bs, Bs w c bs ∧ bs.length + 1 ≤ Rows.uptoBulk x.1 := by
  have hlen : ∀ len cap a, c = .slice a len cap → len + 1 ≤ Rows.uptoBulk x.1 := by
    intro len cap a hc
    subst hc
    rcases open_slice ht h with ⟨h2, h3⟩ | ⟨a, len, cap, m, n, D, Pl, hcs, hb, hl, hm, hmm, rfl, hi⟩
    · simp at h2; have := bulk_one x.1; omega
    · simp at hcs
      obtain ⟨_, rfl, _⟩ := hcs
      have h1 := bulk_len ((List.range len).map D)
      rw [List.length_map, List.length_range] at h1
      simp only [Rows.uptoBulk]
      omega
  obtain ⟨bs, hb⟩ := bs_of_trod ht he hC h (fun len cap a hc => by have := hlen len cap a hc; unfold big; omega)
  obtain ⟨⟨A, cap0, hv, _⟩, _⟩ := id hb
  exact ⟨bs, hb, hlen _ _ _ hv⟩
theorem open_bsU {r : Reach} {b0 : Nat} {t e : TypeId} {v : Value} {d : DataW H} {p : List MemPlace} (ht : P.underlying t = some (.slice e)) (he : P.underlying e = some (.int .u8)) (hC : P.cellsOf e = 1)
    (hv : Value.okWide P w r b0 t v) (h : DataW.Trod enc P w base spare held t v d p) (hB : Rows.uptoBulk d ≤ 1048576) : ∃ bs, Bs w v bs ∧ bs.length + 1 ≤ Rows.uptoBulk d := by
  obtain ⟨A, len, cap, rfl⟩ := okWide_slice ht hv
  obtain ⟨fuel, hf⟩ := h
  simp only [Value.cells] at hf
  exact bs_upto ht he hC hf hB
/-- how much a list of byte strings holds -/
def bulkL (L : List (List UInt8)) : Nat := (L.map (fun x => x.length + 1)).sum
theorem open_bssU {r : Reach} {b0 : Nat} {T t e : TypeId} {v : Value} {d : DataW H} {p : List MemPlace} (hT : P.underlying T = some (.slice t)) (ht : P.underlying t = some (.slice e)) (he : P.underlying e = some (.int .u8)) (hCt : P.cellsOf t = 1) (hC : P.cellsOf e = 1)
    (hv : Value.okWide P w r b0 T v) (h : DataW.Trod enc P w base spare held T v d p) (hB : Rows.uptoBulk d ≤ 1048576) : ∃ L, Lss (fun g => g < w.heap.size) w v L ∧ bulkL L + 1 ≤ Rows.uptoBulk d := by
  obtain ⟨A, len, cap, rfl⟩ := okWide_slice hT hv
  obtain ⟨fuel, hf⟩ := h
  rcases open_slice1 hT hCt hf with ⟨h2, h3⟩ | ⟨a, len', cap', m, n, V, D, Pl, hcs, hb, hl, hm, hmm, hx, hi⟩
  · simp [Value.cells] at h2
    obtain ⟨rfl, rfl, rfl⟩ := h2
    exact ⟨[], ⟨none, 0, rfl, fun _ => ⟨rfl, rfl⟩, Nat.le_refl _, by unfold maxLen; omega, fun h => by simp at h⟩, by have := bulk_one d; simpa [bulkL] using this⟩
  · simp [Value.cells] at hcs
    obtain ⟨rfl, rfl, rfl⟩ := hcs
    have hlm : len ≤ m := by rw [hmm]; split <;> omega
    simp only [Prod.mk.injEq] at hx
    have hall : Rows.uptoBulkAll ((List.range len).map D) + 1 ≤ Rows.uptoBulk d := by rw [hx.1, ← bulk_slice]; omega
    have hat : ∀ i, i < len → Rows.uptoBulk (D i) ≤ Rows.uptoBulkAll ((List.range len).map D) := by
      intro i hil
      have : ∀ (l : List (DataW H)) (y : DataW H), y ∈ l → Rows.uptoBulk y ≤ Rows.uptoBulkAll l := by
        intro l y hy
        induction l with
        | nil => cases hy
        | cons z r ih =>
          simp only [Rows.uptoBulkAll]
          rcases List.mem_cons.1 hy with e | e
          · subst e; omega
          · have := ih e; omega
      exact this _ _ (List.mem_map.2 ⟨i, by simpa using hil, rfl⟩)
    obtain ⟨L, hLl, hL⟩ := list_choose (P := fun i (x : List UInt8) => (∃ u, w.cell? (a.add i) = some u ∧ Bs w u x) ∧ x.length + 1 ≤ Rows.uptoBulk (D i)) len (fun i hil => by
      obtain ⟨hc, htr⟩ := hi i (by omega)
      obtain ⟨bs, hbs, hbl⟩ := bs_upto ht he hC htr (by have := hat i hil; show Rows.uptoBulk (D i) ≤ _; omega)
      exact ⟨bs, ⟨V i, hc, hbs⟩, hbl⟩)
    refine ⟨L, ⟨some a, cap, by rw [hLl], fun h => (by cases h), by omega, hm, fun hn => ?_⟩, ?_⟩
    · obtain ⟨⟨u0, z, _⟩, _⟩ := hL 0 _ (List.getElem?_eq_getElem hn)
      have za : a = ⟨a.block, a.off, none⟩ := by
        have := cell_spot z
        simp [Addr.add] at this
        exact this
      have hblt := World.block_lt_of_cell? w _ z
      rw [block_of_add] at hblt
      refine ⟨a.block, a.off, by rw [← za], hblt, hblt, fun i x hx => ?_⟩
      obtain ⟨⟨u, h1, h2⟩, _⟩ := hL i x hx
      rw [za, addr_add] at h1
      exact ⟨u, h1, h2, fun g hg hne => h2.lt hne hg⟩
    · have := bulk_sum (fun x : List UInt8 => x.length + 1) L ((List.range len).map D) (by simp [hLl]) (fun i x d hx hd => by
        have hil : i < len := by
          rcases Nat.lt_or_ge i L.length with h | h
          · omega
          · rw [List.getElem?_eq_none h] at hx; cases hx
        rw [List.getElem?_map, List.getElem?_range hil] at hd
        cases hd
        exact (hL i x hx).2)
      unfold bulkL
      omega
theorem uptoBound {l : List (DataW H)} (hk : Rows.uptoSmall H l = true) : Rows.uptoBulkAll l ≤ 1048576 := of_decide_eq_true hk
end
end Go.Proofs.Ythgpkbhilkdckaa
