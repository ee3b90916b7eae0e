/- A slice that is read, whatever its elements ('Rd'), and append from it. No program here. -/
import Derived.Test.YthgpkbhilkdckaaH1
namespace Go.Proofs.Ythgpkbhilkdckaa
open Go.RowKit
set_option linter.unusedVariables false

/-- the slice value u of m elements of sz cells reads as the cells xs -/
def Rd (w : World) (u : Value) (m sz : Nat) (xs : List Value) : Prop :=
  xs.length = m * sz ∧ ∃ (A : Option Addr) (cap : Nat), u = .slice A m cap ∧ (A = none → m = 0 ∧ cap = 0) ∧ m ≤ cap ∧ ∀ ad, A = some ad → (0 < m → ad.block < w.heap.size) ∧ ∀ j x, xs[j]? = some x → w.cell? (ad.add j) = some x
theorem Rd.ext {own : Nat → Prop} {w w' : World} {u : Value} {m sz : Nat} {xs : List Value} (h : Rd w u m sz xs) (hb : Ext own w w') (hd : ∀ g, u.ownBlock = some g → ¬ own g) : Rd w' u m sz xs := by
  obtain ⟨hl, A, cap, hv, hn, hc, hr⟩ := h
  refine ⟨hl, A, cap, hv, hn, hc, fun ad had => ?_⟩
  obtain ⟨h1, h2⟩ := hr ad had
  have hno : ¬ own ad.block := hd _ (by rw [hv, had]; rfl)
  exact ⟨fun h => Nat.lt_of_lt_of_le (h1 h) hb.size, fun j x hx => hb.cell (by rw [block_of_add]; exact hno) (h2 j x hx)⟩
theorem Rd.later {w w' : World} {u : Value} {m sz : Nat} {xs : List Value} (h : Rd w u m sz xs) (hb : B w w') : Rd w' u m sz xs := h.ext (Ext.of_B (own := fun _ => False) hb) (fun _ _ => id)
theorem Rd.of_own {w : World} {base sz n : Nat} {e : TypeId} {v : Value} {xs : List Value} (h : w.ownsRow base e sz v n xs) : Rd w v n sz xs := by
  refine ⟨h.1, ?_⟩
  have hl := h.1
  rcases h.2 with ⟨rfl, rfl⟩ | ⟨g, cap, cur, rfl, hg, hh, hc, hm, hs, ht⟩
  · exact ⟨none, 0, rfl, fun _ => ⟨rfl, rfl⟩, Nat.le_refl _, fun ad h => by cases h⟩
  · refine ⟨_, cap, rfl, fun e => (by cases e), hc, fun ad had => ?_⟩
    cases had
    refine ⟨fun _ => Blk.lt (t := e) hh, fun j x hx => ?_⟩
    have hj : j < n * sz := by
      rcases Nat.lt_or_ge j xs.length with h | h
      · omega
      · rw [List.getElem?_eq_none h] at hx; cases hx
    have ea : (⟨g, 0, none⟩ : Addr).add j = ⟨g, j, none⟩ := by unfold Addr.add; split <;> simp_all
    rw [ea, Blk.cell (t := e) hh, ← hx, ← ht]
    simp [hj]
theorem Rd.slice {w : World} {u : Value} {m sz : Nat} {xs : List Value} (h : Rd w u m sz xs) : ∃ A c, u = .slice A m c := by
  obtain ⟨_, A, cap, hv, _⟩ := h; exact ⟨A, cap, hv⟩
theorem Rd.nil (w : World) (sz : Nat) : Rd w (.slice none 0 0) 0 sz [] := ⟨by simp, none, 0, rfl, fun _ => ⟨rfl, rfl⟩, Nat.le_refl _, fun ad h => by cases h⟩
section
variable {P : Program}
/-- append onto an own row, whatever is read -/
theorem append_Rd {w : World} {t ty e : TypeId} {z : Value} {sz bytes : Nat} (ht : P.underlying t = some (.slice e)) (hie : (P.info? e).map (fun i => (i.zero, i.size, i.bytes)) = some (some z, sz, bytes)) (hz : z.cells.size = sz) (hsz : 0 < sz)
    {base n m : Nat} {v u : Value} {xs news : List Value} (hown : w.ownsRow base e sz v n xs) (hu : Rd w u m sz news) (h1 : ∀ x ∈ news, x.oneCell' = true) (h63 : n + m ≤ maxLen) (hroom : (n + m) * bytes ≤ 140737488355328) (hbase : base ≤ w.heap.size) :
    ∃ v' w', (Builtin.append_ #[t, t] ty #[v, u]).run P w = .ok v' w' ∧ w'.ownsRow base e sz v' (n + m) (xs ++ news) ∧ w.grownBy w' v.ownBlock ∧ (v'.ownBlock = v.ownBlock ∨ v'.ownBlock = some w.heap.size) := by
  obtain ⟨i, hi, hz0, hs, hb⟩ := info_parts hie
  obtain ⟨hl, A, cap, rfl, hn, hc, hr⟩ := hu
  cases A with
  | none =>
    obtain ⟨rfl, rfl⟩ := hn rfl
    have hnil : news = [] := List.eq_nil_of_length_eq_zero (by simpa using hl)
    subst hnil
    refine ⟨v, w, ?_, by simpa using hown, World.grownBy.refl w _, .inl rfl⟩
    rcases hown.2 with ⟨rfl, rfl⟩ | ⟨g, c, cur, rfl, _, _, hnc, _⟩
    · simp [Builtin.append_, run_underlying ht, sizeOf, typeInfo, hi, Builtin.lenOf, Builtin.firstCells]
    · simp [Builtin.append_, run_underlying ht, sizeOf, typeInfo, hi, Builtin.lenOf, Builtin.firstCells, hnc, storeCells]
  | some ad =>
    obtain ⟨v', w', h1, h2, h3, h4, h5⟩ := run_append_own_at (P := P) w base t ty e i z sz bytes ht hi hz0 hs hb hz hsz v n xs hown ad m cap news hl (hr ad rfl).2 h1 h63 hroom hbase
    exact ⟨v', w', h1, h2, h3, h5⟩
end
section
variable {P : Program} {w : World} {ops : Array Oper} {rest : List Oper} {o : Oper} {a : Act} {K : Act → World → Prop} {Q : Exit → Act → World → Prop} {E : Prop}
/-- append onto an own row inside a region that draws -/
theorem step_append_Rd (hgd : o.guard = none) (s x : Operand) (t : TypeId) (ho : o.op = .call { callee := .builtin .append, args := #[s, x], argTypes := #[t, t] })
    {e : TypeId} {z : Value} {sz bytes : Nat} (ht : P.underlying t = some (.slice e)) (hie : (P.info? e).map (fun i => (i.zero, i.size, i.bytes)) = some (some z, sz, bytes)) (hz : z.cells.size = sz) (hsz : 0 < sz)
    {base n m : Nat} {v u : Value} {xs news : List Value} (hs : a.eval s = v) (hx : a.eval x = u) (hown : w.ownsRow base e sz v n xs) (hu : Rd w u m sz news) (h1 : ∀ x ∈ news, x.oneCell' = true) (h63 : n + m ≤ maxLen) (hroom : (n + m) * bytes ≤ 140737488355328) (hbase : base ≤ w.heap.size)
    (h : ∀ A c w', w'.ownsRow base e sz (.slice A (n + m) c) (n + m) (xs ++ news) → w.grownBy w' v.ownBlock → ((Value.slice A (n + m) c).ownBlock = v.ownBlock ∨ (Value.slice A (n + m) c).ownBlock = some w.heap.size) → K (a.put o.dst (.slice A (n + m) c)) w') :
    if Region.wanted o (yielded ops a.tmps) = true then Oper.wp P o a w K Q else E := by
  obtain ⟨v', w', hrun, h2, h3, h4⟩ := append_Rd (P := P) (t := t) (ty := o.type) ht hie hz hsz hown hu h1 h63 hroom hbase
  obtain ⟨A, c, rfl⟩ := own_slice h2
  exact step_append_run hgd s x t ho hs hx hrun (h A c w' h2 h3 h4)
theorem wpList_append_Rd (hgd : o.guard = none) (s x : Operand) (t : TypeId) (ho : o.op = .call { callee := .builtin .append, args := #[s, x], argTypes := #[t, t] })
    {e : TypeId} {z : Value} {sz bytes : Nat} (ht : P.underlying t = some (.slice e)) (hie : (P.info? e).map (fun i => (i.zero, i.size, i.bytes)) = some (some z, sz, bytes)) (hz : z.cells.size = sz) (hsz : 0 < sz)
    {base n m : Nat} {v u : Value} {xs news : List Value} (hs : a.eval s = v) (hx : a.eval x = u) (hown : w.ownsRow base e sz v n xs) (hu : Rd w u m sz news) (h1 : ∀ x ∈ news, x.oneCell' = true) (h63 : n + m ≤ maxLen) (hroom : (n + m) * bytes ≤ 140737488355328) (hbase : base ≤ w.heap.size)
    (h : ∀ A c w', w'.ownsRow base e sz (.slice A (n + m) c) (n + m) (xs ++ news) → w.grownBy w' v.ownBlock → ((Value.slice A (n + m) c).ownBlock = v.ownBlock ∨ (Value.slice A (n + m) c).ownBlock = some w.heap.size) → wpList P ops Q rest (a.put o.dst (.slice A (n + m) c)) w') :
    wpList P ops Q (o :: rest) a w := by
  obtain ⟨v', w', hrun, h2, h3, h4⟩ := append_Rd (P := P) (t := t) (ty := o.type) ht hie hz hsz hown hu h1 h63 hroom hbase
  obtain ⟨A, c, rfl⟩ := own_slice h2
  exact wpList_append_run hgd s x t ho hs hx hrun (h A c w' h2 h3 h4)
end
theorem Bs.rd {w : World} {v : Value} {bs : List UInt8} (h : Bs w v bs) : Rd w v bs.length 1 (cellsB bs) := by
  obtain ⟨⟨A, cap, rfl, hn, hc, hm, hr⟩, hl⟩ := h
  refine ⟨by rw [cellsB_len]; omega, A, cap, rfl, fun e => ?_, hc, fun ad had => ?_⟩
  · obtain ⟨rfl, rfl⟩ := hn e; exact ⟨rfl, rfl⟩
  · obtain ⟨h1, h2⟩ := hr ad had
    exact ⟨fun h0 => h1 (fun e => by subst e; simp at h0), h2⟩
theorem Rd.one (w : World) (x : Value) (t : TypeId) : Rd (w.alloc (.cells #[x] t)) (.slice (some ⟨w.heap.size, 0, none⟩) 1 1) 1 1 [x] := by
  refine ⟨rfl, _, 1, rfl, fun e => (by cases e), Nat.le_refl _, fun ad had => ?_⟩
  cases had
  exact ⟨fun _ => by simp, cell_one_new w x t⟩
theorem Rd.two (w : World) (x y : Value) (t : TypeId) : Rd (w.alloc (.cells #[x, y] t)) (.slice (some ⟨w.heap.size, 0, none⟩) 1 1) 1 2 [x, y] := by
  refine ⟨rfl, _, 1, rfl, fun e => (by cases e), Nat.le_refl _, fun ad had => ?_⟩
  cases had
  refine ⟨fun _ => by simp, fun j u hu => ?_⟩
  match j, hu with
  | 0, h => simp [Addr.add] at h ⊢; exact h
  | 1, h => simp [Addr.add] at h ⊢; exact h
  | j + 2, h => simp at h
theorem Rd.grown {w w' : World} {u : Value} {m sz : Nat} {xs : List Value} {row : Option Nat} (h : Rd w u m sz xs) (hg : w.grownBy w' row) (hn : ∀ g, u.ownBlock = some g → some g ≠ row) : Rd w' u m sz xs :=
  h.ext ((Ext.refl (fun g => some g = row) w).grown hg (fun g e _ => e.symm)) hn
theorem ownNil (w : World) (b e s : Nat) : w.ownsRow b e s (.slice none 0 0) 0 [] := ⟨by simp, .inl ⟨rfl, rfl⟩⟩
theorem ownEmpty (w : World) (e s : Nat) : (w.alloc (.cells #[] e)).ownsRow w.heap.size e s (.slice (some ⟨w.heap.size, 0, none⟩) 0 0) 0 [] :=
  ⟨by simp, .inr ⟨_, 0, #[], rfl, Nat.le_refl _, heap_alloc_new w _, Nat.le_refl _, by unfold maxLen; omega, by simp, by simp⟩⟩
theorem B.grown {w w' w'' : World} {row : Option Nat} (h : B w w') (hg : w'.grownBy w'' row) (hr : ∀ k, row = some k → w.heap.size ≤ k) : B w w'' := Below.grown h hg h.size hr
end Go.Proofs.Ythgpkbhilkdckaa
