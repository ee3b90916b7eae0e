/- Lemmas and contracts, part 4. -/
import Derived.Test.YtoikjgcggmemaaaGreatDoorZb3
import Derived.Deep.AppendSrc
/- A row that begins somewhere in its block, as an object: what is read of it, stored, cut off its front, appended to it. No program here. -/
namespace Go.Proofs.YtoikjgcggmemaaaGreatDoor
open Go.RowKit
set_option linter.unusedVariables false

def putVs : List Value → Nat → List Value → List Value
  | vs, _, [] => vs
  | vs, o, u :: us => putVs (vs.set o u) (o + 1) us
theorem putVs_len : ∀ (us vs : List Value) (o : Nat), (putVs vs o us).length = vs.length
  | [], vs, o => rfl
  | u :: us, vs, o => by rw [putVs, putVs_len us, List.length_set]
theorem putVs_get : ∀ (us vs : List Value) (o j : Nat), o + us.length ≤ vs.length → (putVs vs o us)[j]? = if o ≤ j ∧ j < o + us.length then us[j - o]? else vs[j]?
  | [], vs, o, j, h => by simp [putVs]; omega
  | u :: us, vs, o, j, h => by
    simp only [List.length_cons] at h
    rw [putVs, putVs_get us (vs.set o u) (o + 1) j (by rw [List.length_set]; omega), List.getElem?_set]
    simp only [List.length_cons]
    by_cases h1 : j = o
    · subst h1
      rw [if_neg (by omega), if_pos rfl, if_pos (by omega), if_pos (by omega), Nat.sub_self]
      rfl
    · by_cases h2 : o + 1 ≤ j ∧ j < o + 1 + us.length
      · rw [if_pos h2, if_pos (by omega), show j - o = (j - (o + 1)) + 1 by omega, List.getElem?_cons_succ]
      · rw [if_neg h2, if_neg (fun e => h1 e.symm), if_neg (by omega)]
theorem Blk.putMany {t : TypeId} {b : Nat} : ∀ (us vs : List Value) (o : Nat) {w : World}, Blk w b t vs.toArray → Blk (w.setCells b o us) b t (putVs vs o us).toArray
  | [], vs, o, w, h => h
  | u :: us, vs, o, w, h => by
    rw [World.setCells, putVs]
    refine Blk.putMany us _ (o + 1) ?_
    have := h.set_ o u
    simpa using this
theorem Ext.putMany {b : Nat} : ∀ (us : List Value) (o : Nat) {w : World}, Ext (fun x => x = b) w (w.setCells b o us)
  | [], o, w => Ext.refl _ _
  | u :: us, o, w => by
    rw [World.setCells]
    exact ((Ext.refl (fun x => x = b) w).set (p := ⟨b, o, none⟩) (fun _ => rfl) u).trans_ (Ext.putMany us (o + 1))
/-- what a block holds from a place on -/
structure Off (w : World) (e : TypeId) (sz g off n c : Nat) (xs : List Value) (cur : List Value) : Prop where
  blk : Blk w g e cur.toArray
  nc : n ≤ c
  cm : c ≤ maxLen
  size : cur.length = off + c * sz
  xl : xs.length = n * sz
  xs : (cur.drop off).take (n * sz) = xs
/-- such a row -/
def aOff (e : TypeId) (sz g off n c : Nat) (xs : List Value) : Asn where
  at_ own w := (∃ cur, Off w e sz g off n c xs cur) ∧ own g
  ext h hx hd := by
    obtain ⟨⟨cur, h1⟩, h2⟩ := h
    exact ⟨⟨cur, ⟨h1.blk.ext hx (hd _ h2), h1.nc, h1.cm, h1.size, h1.xl, h1.xs⟩⟩, h2⟩
  bound h := by
    obtain ⟨⟨cur, h1⟩, h2⟩ := h
    exact ⟨⟨cur, h1⟩, h2, h1.blk.lt⟩
section
variable {W w : World} {L : List Asn} {e : TypeId} {sz g off n c : Nat} {xs : List Value}
theorem Off.get {cur : List Value} (h : Off w e sz g off n c xs cur) {j : Nat} {x : Value} (hj : xs[j]? = some x) : cur[off + j]? = some x := by
  rw [← h.xs, List.getElem?_take] at hj
  split at hj
  · rwa [List.getElem?_drop] at hj
  · cases hj
theorem Off.cell {cur : List Value} (h : Off w e sz g off n c xs cur) {j : Nat} {x : Value} (hj : xs[j]? = some x) : w.cell? ⟨g, off + j, none⟩ = some x := by
  rw [h.blk.cell]
  simpa using h.get hj
theorem aOff.cell (h : St W w (aOff e sz g off n c xs :: L)) {j : Nat} {x : Value} (hj : xs[j]? = some x) : w.cell? ⟨g, off + j, none⟩ = some x := by
  obtain ⟨own, ⟨⟨cur, h1⟩, _⟩, _⟩ := h.get
  exact h1.cell hj
theorem aOff.frozen (h : St W w (aOff e sz g off n c xs :: L)) (j : Nat) : w.frozen? ⟨g, j, none⟩ = false := by
  obtain ⟨own, ⟨⟨cur, h1⟩, _⟩, _⟩ := h.get
  exact h1.blk.frozen j
theorem aOff.lt (h : St W w (aOff e sz g off n c xs :: L)) : g < w.heap.size ∧ W.heap.size ≤ g := by
  obtain ⟨own, ⟨⟨cur, h1⟩, h2⟩, h3⟩ := h.get
  exact ⟨(h3 g h2).2, (h3 g h2).1⟩
theorem aOff.len (h : St W w (aOff e sz g off n c xs :: L)) : xs.length = n * sz ∧ n ≤ c ∧ c ≤ maxLen := by
  obtain ⟨own, ⟨⟨cur, h1⟩, _⟩, _⟩ := h.get
  exact ⟨h1.xl, h1.nc, h1.cm⟩
/-- a row of its own is one -/
theorem aOff.of_row (h : St W w (aRow e sz (.slice (some ⟨g, 0, none⟩) n c) n xs :: L)) : St W w (aOff e sz g 0 n c xs :: L) := by
  refine h.conv fun own hr => ?_
  obtain ⟨hr, ho⟩ := hr
  refine ⟨?_, ho g rfl⟩
  rcases hr.2 with ⟨h1, h2⟩ | ⟨g', cap, cur, h1, hg, hh, hc, hm, hs, ht⟩
  · injection h1 with h1; cases h1
  · have e1 : g' = g ∧ cap = c := by injection h1 with h1 h3 h4; injection h1 with h1; injection h1 with h1; exact ⟨h1.symm, h4.symm⟩
    obtain ⟨rfl, rfl⟩ := e1
    exact ⟨cur.toList, ⟨by rw [Array.toArray_toList]; exact hh, hc, hm, by simpa using hs, hr.1, by simpa using ht⟩⟩
/-- the front is cut off -/
theorem aOff.cut (h : St W w (aOff e sz g off n c xs :: L)) (hn : 1 ≤ n) : St W w (aOff e sz g (off + sz) (n - 1) (c - 1) (xs.drop sz) :: L) := by
  refine h.conv fun own hr => ?_
  obtain ⟨⟨cur, h1⟩, ho⟩ := hr
  have hc := h1.nc
  have e1 : c * sz = (c - 1) * sz + sz := by
    have : c = (c - 1) + 1 := by omega
    conv => lhs; rw [this, Nat.add_mul, Nat.one_mul]
  have e2 : n * sz = (n - 1) * sz + sz := by
    have : n = (n - 1) + 1 := by omega
    conv => lhs; rw [this, Nat.add_mul, Nat.one_mul]
  refine ⟨⟨cur, ⟨h1.blk, by omega, by have := h1.cm; omega, by have := h1.size; omega, ?_, ?_⟩⟩, ho⟩
  · rw [List.length_drop, h1.xl]; omega
  · rw [← h1.xs, e2, List.drop_take, List.drop_drop, show (n - 1) * sz + sz - sz = (n - 1) * sz by omega]
/-- a cell is stored -/
theorem aOff.set (h : St W w (aOff e sz g off n c xs :: L)) {j : Nat} (hj : j < n * sz) (u : Value) : St W (w.setCell ⟨g, off + j, none⟩ u) (aOff e sz g off n c (xs.set j u) :: L) := by
  obtain ⟨own, ⟨⟨cur, h1⟩, ho⟩, hb, hback⟩ := h.focus
  refine hback _ (aOff e sz g off n c (xs.set j u)) ((Ext.refl own w).set (p := ⟨g, off + j, none⟩) (fun _ => ho) u) ⟨⟨cur.set (off + j) u, ⟨?_, h1.nc, h1.cm, by rw [List.length_set]; exact h1.size, by rw [List.length_set]; exact h1.xl, ?_⟩⟩, .inl ho⟩
  · have := h1.blk.set_ (off + j) u
    simpa using this
  · rw [← h1.xs]
    apply List.ext_getElem?
    intro i
    rw [List.getElem?_take, List.getElem?_set, List.getElem?_drop, List.getElem?_set, List.getElem?_take, List.getElem?_drop]
    have hsz := h1.size
    have hnc : n * sz ≤ c * sz := Nat.mul_le_mul_right _ h1.nc
    have hl : ((cur.drop off).take (n * sz)).length = n * sz := by rw [h1.xs, h1.xl]
    by_cases hi : i = j
    · subst hi
      rw [if_pos hj, if_pos rfl, if_pos (by omega), if_pos rfl, hl, if_pos hj]
    · by_cases hin : i < n * sz
      · rw [if_pos hin, if_neg (by omega), if_neg (by omega), if_pos hin]
      · rw [if_neg hin, if_neg (by omega), if_neg hin]
variable {P : Program}
/-- a row is appended: in place, or in a block of its own -/
theorem aOff.append {t ty : TypeId} {i : TypeInfo} {z : Value} (h : St W w (aOff e i.size g off n c xs :: L)) (ht : P.underlying t = some (.slice e)) (hi : P.info? e = some i) (hz : i.zero = some z) (hzs : z.cells.size = i.size) (hsz : 0 < i.size)
    {u : Value} {m : Nat} {news : List Value} (hs : Src P i.size t u m news w) (h63 : n + m ≤ maxLen) (hroom : (n + m) * i.bytes ≤ 140737488355328) :
    ∃ g' off' c' w', (Builtin.append_ #[t, t] ty #[.slice (some ⟨g, off, none⟩) n c, u]).run P w = .ok (.slice (some ⟨g', off', none⟩) (n + m) c') w' ∧ St W w' (aOff e i.size g' off' (n + m) c' (xs ++ news) :: L) := by
  obtain ⟨own, ⟨⟨cur, h1⟩, ho⟩, hb, hback⟩ := h.focus
  have hlen : (xs ++ news).length = (n + m) * i.size := by rw [List.length_append, h1.xl, hs.newsLen, Nat.add_mul]
  have hsize := h1.size
  by_cases hr : n + m ≤ c
  · have hmc : (n + m) * i.size ≤ c * i.size := Nat.mul_le_mul_right _ hr
    rw [Nat.add_mul] at hmc
    have hnl := hs.newsLen
    have hin : ∀ j, j < news.length → off + n * i.size + j < cur.length := fun j hj => by omega
    have hrun := run_append_room_src (P := P) w t t ty e i ht hi g off n c u m news hs hr (fun j hj => by rw [h1.blk.cell]; simp [hin j hj]) (fun j _ => h1.blk.frozen _)
    refine ⟨g, off, c, _, hrun, hback _ (aOff e i.size g off (n + m) c (xs ++ news)) ?_ ⟨⟨putVs cur (off + n * i.size) news, ⟨Blk.putMany news cur _ h1.blk, hr, h1.cm, by rw [putVs_len]; exact hsize, hlen, ?_⟩⟩, .inl ho⟩⟩
    · exact (Ext.putMany (b := g) news (off + n * i.size) (w := w)).mono (fun x _ e => by subst e; exact ho)
    · apply List.ext_getElem?
      intro j
      rw [List.getElem?_take, List.getElem?_drop, putVs_get news cur _ _ (by omega), List.getElem?_append, h1.xl, Nat.add_mul]
      by_cases hj : j < n * i.size
      · rw [if_pos (by omega), if_neg (by omega), if_pos hj, ← h1.xs, List.getElem?_take, if_pos hj, List.getElem?_drop]
      · by_cases hj2 : j < n * i.size + m * i.size
        · rw [if_pos hj2, if_pos (by omega), if_neg hj, show off + j - (off + n * i.size) = j - n * i.size by omega]
        · rw [if_neg hj2, if_neg hj, List.getElem?_eq_none (by omega)]
  · have hold : ∀ w1 : World, Blk w1 g e cur.toArray → (Builtin.firstCells i.size n (.slice (some ⟨g, off, none⟩) n c)).run P w1 = .ok xs.toArray w1 := fun w1 hb1 =>
      run_firstCells_some w1 i.size n ⟨g, off, none⟩ n c xs h1.xl (fun j v hv => by
        have e2 : (⟨g, off, none⟩ : Addr).add j = ⟨g, off + j, none⟩ := by unfold Addr.add; split <;> simp_all
        rw [e2, hb1.cell]
        simpa using h1.get hv)
    have hrun := run_append_grow_src (P := P) w t t ty e i z ht hi hz (some ⟨g, off, none⟩) n c xs (hold _ h1.blk.drew) u m news hs (by omega) (by unfold maxLen at h63; omega) (growslice_fits (by omega) hroom)
    have hge := grownCap_ge w (n + m) c e
    have hcm := grownCap_le_maxLen w (n + m) c e h63
    refine ⟨_, _, _, _, hrun, hback _ (aOff e i.size w.heap.size 0 (n + m) (grownCap w (n + m) c e) (xs ++ news)) ?_ ⟨⟨(xs ++ news) ++ (Builtin.zeroCells z.cells (grownCap w (n + m) c e - (n + m))).toList, ⟨?_, hge, hcm, ?_, hlen, ?_⟩⟩, .inr (Nat.le_refl _)⟩⟩
    · exact Ext.of_B (own := own) (Below.trans (show Below w.heap.size w w.drew from (Below.refl _ _).drew) (show Below w.heap.size w.drew _ from B.alloc' w.drew _))
    · have := Blk.new w.drew e ((xs ++ news).toArray ++ Builtin.zeroCells z.cells (grownCap w (n + m) c e - (n + m)))
      have e3 : ((xs ++ news) ++ (Builtin.zeroCells z.cells (grownCap w (n + m) c e - (n + m))).toList).toArray = (xs ++ news).toArray ++ Builtin.zeroCells z.cells (grownCap w (n + m) c e - (n + m)) := by
        apply Array.ext'
        simp
      rw [e3]
      exact this
    · rw [List.length_append, hlen, Array.length_toList, size_zeroCells, hzs, Nat.zero_add, ← Nat.add_mul]
      congr 1
      omega
    · rw [List.drop_zero, ← hlen, List.take_left]
end
end Go.Proofs.YtoikjgcggmemaaaGreatDoor
