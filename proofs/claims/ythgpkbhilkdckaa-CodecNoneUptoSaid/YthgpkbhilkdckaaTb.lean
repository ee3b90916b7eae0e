/- The table of package ideal: its place in memory, the map's laws at a string key, contracts of its methods. -/
import Derived.Test.YthgpkbhilkdckaaBy
namespace Go.Proofs.Ythgpkbhilkdckaa
open Go.RowKit
set_option linter.unusedVariables false

/-- the place of b among M, counted from i + 1 -/
def look (b : List UInt8) : List (List UInt8) → Nat → Option Nat
  | [], _ => none
  | x :: r, i => if x = b then some (i + 1) else look b r (i + 1)
theorem look_none {b : List UInt8} {M : List (List UInt8)} {i : Nat} : look b M i = none ↔ b ∉ M := by
  induction M generalizing i with
  | nil => simp [look]
  | cons x r ih => 
    by_cases h : x = b
    · simp [look, h]
    · simp [look, h, ih, Ne.symm h]
theorem look_some {b : List UInt8} {M : List (List UInt8)} {i d : Nat} (h : look b M i = some d) : i + 1 ≤ d ∧ d ≤ i + M.length ∧ M[d - 1 - i]? = some b := by
  induction M generalizing i with
  | nil => simp [look] at h
  | cons x r ih =>
    by_cases e : x = b
    · simp [look, e] at h; subst h; simp [e]
    · simp only [look, if_neg e] at h
      obtain ⟨h1, h2, h3⟩ := ih h
      refine ⟨by omega, by simp; omega, ?_⟩
      rw [show d - 1 - i = (d - 1 - (i + 1)) + 1 by omega]
      simpa using h3

theorem bstr_beq (a b : List UInt8) : (bstr a == bstr b) = (a == b) := by rw [beq_toListBytes, bstr_toList, bstr_toList]
/-- the map's entries -/
def entsT : List (List UInt8) → Nat → List MapEntry
  | [], _ => []
  | x :: r, i => { key := .string (bstr x), val := .int .i64 ((i + 1 : Nat) : Int), born := i } :: entsT r (i + 1)
theorem entsT_snoc (s : List (List UInt8)) (x : List UInt8) (i : Nat) : entsT (s ++ [x]) i = entsT s i ++ [{ key := .string (bstr x), val := .int .i64 ((i + s.length + 1 : Nat) : Int), born := i + s.length }] := by
  induction s generalizing i with
  | nil => simp [entsT]
  | cons y r ih =>
    simp only [List.cons_append, entsT, ih, List.length_cons]
    rw [show i + 1 + r.length = i + (r.length + 1) by omega]
theorem entsT_empty (M : List (List UInt8)) (i : Nat) : (entsT M i).length = M.length := by
  induction M generalizing i with
  | nil => rfl
  | cons x r ih => simp [entsT, ih]
theorem findNowT (b : List UInt8) (M : List (List UInt8)) (i j : Nat) : ∃ r, Instr.findNow .string (.string (bstr b)) (entsT M i) j = some r ∧
    ((∃ d q, look b M i = some d ∧ r = some (q, .int .i64 ((d : Nat) : Int))) ∨ (look b M i = none ∧ r = none)) := by
  induction M generalizing i j with
  | nil => exact ⟨none, rfl, .inr ⟨rfl, rfl⟩⟩
  | cons x M ih =>
    by_cases h : x = b
    · subst h
      refine ⟨some (j, .int .i64 ((i + 1 : Nat) : Int)), ?_, .inl ⟨i + 1, j, by simp [look], rfl⟩⟩
      simp [Instr.findNow, entsT, Instr.sameNow, bstr_beq]
    · obtain ⟨r, h1, h2⟩ := ih (i + 1) (j + 1)
      refine ⟨r, ?_, by rw [look, if_neg h]; exact h2⟩
      have hne : (bstr b == bstr x) = false := by
        rw [bstr_beq, beq_eq_false_iff_ne]; exact fun e => h e.symm
      simp only [Instr.findNow, entsT, Instr.sameNow, hne]
      exact h1
theorem checkKey9 (b : Bool) (s : ByteArray) (w : World) : (Instr.checkKey b 10000 9 (.string s)).run Try.prog w = .ok () w := by kernel_rfl
theorem run_findKey9 (b : List UInt8) (M : List (List UInt8)) (w : World) :
    ∃ r, (Instr.findKey 9 (.string (bstr b)) (entsT M 0)).run Try.prog w = .ok r w ∧ ((∃ d q, look b M 0 = some d ∧ r = some (q, .int .i64 ((d : Nat) : Int))) ∨ (look b M 0 = none ∧ r = none)) := by
  obtain ⟨r, h1, h2⟩ := findNowT b M 0 0
  refine ⟨r, ?_, h2⟩
  simp [Instr.findKey, run_underlying Try.underlying9, h1]
/-- what a look-up tells: the number, and whether there is one -/
def lkN (M : List (List UInt8)) (b : List UInt8) : Int := (((look b M 0).getD 0 : Nat) : Int)
def lkB (M : List (List UInt8)) (b : List UInt8) : Bool := (look b M 0).isSome
theorem run_lookup103 {w : World} {m c : Nat} {M : List (List UInt8)} (h : Mp w m (entsT M 0).toArray c) (b : List UInt8) :
    (Instr.lookup 103 (.map (some m)) (.string (bstr b)) true).run Try.prog w = .ok (.tuple #[.int .i64 (lkN M b), .bool (lkB M b)]) w := by
  obtain ⟨r, hr, hc⟩ := run_findKey9 b M w
  have hz : (zeroValue 23).run Try.prog w = .ok (.int .i64 0) w := by kernel_rfl
  unfold Mp at h
  simp only [Instr.lookup, Sem.run_bind, run_underlying Try.underlying103, Result.andThen_ok, run_getObj_map _ _ _ _ h, Sem.run_pure, checkKey9, hr]
  rcases hc with ⟨d, q, hd, rfl⟩ | ⟨hd, rfl⟩
  · simp [lkN, lkB, hd]
  · simp [lkN, lkB, hd, hz]
theorem update103 {w : World} {m : Nat} {M : List (List UInt8)} (h : Mp w m (entsT M 0).toArray M.length) (b : List UInt8) (hb : b ∉ M) :
    ∃ wB, (Instr.mapUpdate 103 (.map (some m)) (.string (bstr b)) (.int .i64 ((M.length + 1 : Nat) : Int))).run Try.prog w = .ok () wB ∧ Mp wB m (entsT (M ++ [b]) 0).toArray (M ++ [b]).length ∧ Ext (fun b => b = m) w wB := by
  refine ⟨_, ?_, Mp.set w m (entsT (M ++ [b]) 0).toArray (M ++ [b]).length h.lt, (Ext.refl (fun b => b = m) w).setMap (m := m) (fun _ => rfl) _⟩
  obtain ⟨r, hr, hc⟩ := run_findKey9 b M w
  unfold Mp at h
  simp only [Instr.mapUpdate, Sem.run_bind, run_underlying Try.underlying103, Result.andThen_ok, run_getObj_map _ _ _ _ h, checkKey9, hr]
  rcases hc with ⟨d, q, hd, rfl⟩ | ⟨hd, rfl⟩
  · rw [look_none.2 hb] at hd; cases hd
  · simp [setObj, Sem.run, h, entsT_snoc]

/-- a list of byte strings in rows of the table's own -/
def Els (own : Nat → Prop) (w : World) (vs : List Value) (M : List (List UInt8)) : Prop :=
  vs.length = M.length ∧ ∀ (i : Nat) (v : Value) (b : List UInt8), vs[i]? = some v → M[i]? = some b → w.ownsRow 0 5 1 v b.length (cellsB b) ∧ b.length ≤ big ∧ ∀ g, v.ownBlock = some g → own g
theorem Els.nil (own : Nat → Prop) (w : World) : Els own w [] [] := ⟨rfl, fun i v b h => by simp at h⟩
/-- only blocks that hold no bytes may have turned -/
theorem Els.ext {own own' : Nat → Prop} {w w' : World} {vs : List Value} {M : List (List UInt8)} (h : Els own w vs M) (hb : Ext own' w w') (hd : ∀ g cs, own g → Blk w g 5 cs → ¬ own' g) : Els own w' vs M := by
  refine ⟨h.1, fun i v b hv hm => ?_⟩
  obtain ⟨h1, h2, h3⟩ := h.2 i v b hv hm
  refine ⟨row_ext h1 hb (fun g hg => ?_), h2, h3⟩
  rcases h1.2 with ⟨rfl, _⟩ | ⟨g', cap, cur, rfl, _, hh, _⟩
  · simp [Value.ownBlock] at hg
  · have : g' = g := by simpa [Value.ownBlock] using hg
    subst this
    exact hd _ _ (h3 _ hg) hh
theorem Els.later {own : Nat → Prop} {w w' : World} {vs : List Value} {M : List (List UInt8)} (h : Els own w vs M) (hb : B w w') : Els own w' vs M := h.ext (Ext.of_B (own := fun _ => False) hb) (fun _ _ _ _ => id)
theorem Els.mono {own own' : Nat → Prop} {w : World} {vs : List Value} {M : List (List UInt8)} (h : Els own w vs M) (hs : ∀ b, own b → own' b) : Els own' w vs M :=
  ⟨h.1, fun i v b hv hm => let ⟨h1, h2, h3⟩ := h.2 i v b hv hm; ⟨h1, h2, fun g hg => hs _ (h3 g hg)⟩⟩
theorem Els.snoc {own : Nat → Prop} {w : World} {vs : List Value} {M : List (List UInt8)} (h : Els own w vs M) {v : Value} {b : List UInt8} (h1 : w.ownsRow 0 5 1 v b.length (cellsB b)) (h2 : b.length ≤ big) (h3 : ∀ g, v.ownBlock = some g → own g) : Els own w (vs ++ [v]) (M ++ [b]) := by
  refine ⟨by simp [h.1], fun i u c hu hc => ?_⟩
  by_cases hi : i < vs.length
  · rw [List.getElem?_append_left hi] at hu
    rw [List.getElem?_append_left (by rw [← h.1]; exact hi)] at hc
    exact h.2 i u c hu hc
  · rw [List.getElem?_append_right (by omega)] at hu
    rw [List.getElem?_append_right (by rw [← h.1]; omega)] at hc
    have : i - vs.length = 0 := by
      rcases Nat.eq_zero_or_pos (i - vs.length) with e | e
      · exact e
      · rw [List.getElem?_eq_none (by simp; omega)] at hu; cases hu
    rw [this] at hu
    rw [← h.1, this] at hc
    simp at hu hc
    subst hu hc
    exact ⟨h1, h2, h3⟩
theorem Els.bs {own : Nat → Prop} {w : World} {vs : List Value} {M : List (List UInt8)} (h : Els own w vs M) {i : Nat} {v : Value} {b : List UInt8} (hv : vs[i]? = some v) (hm : M[i]? = some b) : Bs w v b :=
  let ⟨h1, h2, _⟩ := h.2 i v b hv hm
  Bs.of_own h1 h2

theorem Els.one {own : Nat → Prop} {w : World} {vs : List Value} {M : List (List UInt8)} (h : Els own w vs M) : ∀ x ∈ vs, x.oneCell' = true := by
  intro x hx
  obtain ⟨i, hi, rfl⟩ := List.mem_iff_getElem.1 hx
  obtain ⟨r1, _⟩ := h.2 i _ _ (List.getElem?_eq_getElem hi) (List.getElem?_eq_getElem (by rw [← h.1]; exact hi))
  obtain ⟨A, c, e⟩ := own_slice r1
  rw [e]; rfl
/-- a table at block p, all of whose blocks lie in 'own': the byte strings M in the order in which they came -/
def TableAt (own : Nat → Prop) (w : World) (p : Nat) (M : List (List UInt8)) : Prop :=
  ∃ (m : Nat) (v : Value) (vs : List Value), own p ∧ own m ∧ (∀ g, v.ownBlock = some g → own g) ∧ Blk w p 105 #[v, .map (some m)] ∧ Mp w m (entsT M 0).toArray M.length ∧ w.ownsRow 0 47 1 v M.length vs ∧ Els own w vs M
theorem TableAt.ext {own own' : Nat → Prop} {w w' : World} {p : Nat} {M : List (List UInt8)} (h : TableAt own w p M) (hb : Ext own' w w') (hd : ∀ b, own b → ¬ own' b) : TableAt own w' p M := by
  obtain ⟨m, v, vs, h1, h2, h3, h4, h5, h6, h7⟩ := h
  exact ⟨m, v, vs, h1, h2, h3, h4.ext hb (hd _ h1), h5.ext hb (hd _ h2), row_ext h6 hb (fun g hg => hd _ (h3 g hg)), h7.ext hb (fun g _ hg _ => hd g hg)⟩
theorem TableAt.later {own : Nat → Prop} {w w' : World} {p : Nat} {M : List (List UInt8)} (h : TableAt own w p M) (hb : B w w') : TableAt own w' p M := h.ext (Ext.of_B (own := fun _ => False) hb) (fun _ _ => id)
theorem TableAt.mono {own own' : Nat → Prop} {w : World} {p : Nat} {M : List (List UInt8)} (h : TableAt own w p M) (hs : ∀ b, own b → own' b) : TableAt own' w p M := by
  obtain ⟨m, v, vs, h1, h2, h3, h4, h5, h6, h7⟩ := h
  exact ⟨m, v, vs, hs _ h1, hs _ h2, fun g hg => hs _ (h3 g hg), h4, h5, h6, h7.mono hs⟩
end Go.Proofs.Ythgpkbhilkdckaa
