/- Lemmas and contracts, part 1. -/
import Derived.WalkKit
import Derived.WalkLawsBesides
import Derived.WalkSpells
import Derived.Deep.RegionHeld3
import Derived.BigQuiet
import Derived.ProofKit
import Derived.OpenShut
import Derived.Lib.Hide
import Derived.Maps.AppendAt
import Derived.Deep.AppendLies
import Derived.Laws.Rows
import Derived.Deep.RegionLaw
import Derived.Laws.BytesArg
import Derived.Maps.OwnSet
import Derived.Maps.OwnOps
import Derived.Maps.Range
import Derived.Sort.KeysCollected
import Derived.Test.YtnpjfjgnhadmjaaRows
import Derived.JoinedCond
import Derived.Lib.SmallJoins
import Derived.Deep.Slices
import Derived.Deep.Fields
import Derived.ChangeSame
import Derived.SizedLaws
import Derived.StringKeys
import Derived.Maps.RangeWalk
import Derived.Lib.AppendZerosOnto
/- General lemmas on worlds for the walks: what was there stays (B), own blocks, stores. No program here. -/
namespace Go.Proofs.Ytnpjfjgnhadmjaa
open Go.RowKit
set_option linter.unusedVariables false

/-- what was there is as it was -/
abbrev B (w w' : World) : Prop := Below w.heap.size w w'

theorem B.cell {w w' : World} (h : B w w') {a : Addr} {v : Value} (hv : w.cell? a = some v) : w'.cell? a = some v := by
  rw [Below.cell h (World.block_lt_of_cell? w a hv)]; exact hv
theorem bcell {W w1 : World} (hb : Below W.heap.size W w1) : (∀ b o, b < W.heap.size → w1.cell? ⟨b, o, none⟩ = W.cell? ⟨b, o, none⟩) ∧ (∀ b o, b < W.heap.size → w1.frozen? ⟨b, o, none⟩ = W.frozen? ⟨b, o, none⟩) :=
  ⟨fun b o h => hb.cell (p := ⟨b, o, none⟩) h, fun b o h => hb.frozen (p := ⟨b, o, none⟩) h⟩
theorem B.trans {a b c : World} (h : B a b) (k : B b c) : B a c := Below.trans h (k.mono h.size)
theorem B.alloc' (w : World) (o : Obj) : B w (w.alloc o) := (Below.refl _ _).alloc (Nat.le_refl _) _
theorem bsize {w W w1 : World} (n : Nat) (hb : B W w1) (hn : w.heap.size + n + 1 ≤ W.heap.size) : w.heap.size < w1.heap.size ∧ ∀ i, i < n + 1 → w.heap.size + i < w1.heap.size := by
  have := hb.size
  exact ⟨by omega, fun i hi => by omega⟩

@[go_sem] theorem cell_set (w : World) (b o b' o' : Nat) (v : Value) : (w.setCell ⟨b, o, none⟩ v).cell? ⟨b', o', none⟩ = if b = b' ∧ o = o' then (w.cell? ⟨b', o', none⟩).map (fun _ => v) else w.cell? ⟨b', o', none⟩ := by
  split
  · rename_i h
    obtain ⟨rfl, rfl⟩ := h
    cases h : w.cell? ⟨b, o, none⟩ with
    | some u => rw [World.cell?_setCell_same w _ _ h]; rfl
    | none =>
      simp only [World.cell?, World.setCell, Array.getElem?_modify, if_true] at h ⊢
      cases hb : w.heap[b]? with
      | none => rfl
      | some x =>
        rw [hb] at h
        cases x <;> simp_all
  · rename_i h
    exact World.cell?_setCell_other w _ _ _ (fun e => h (by injection e with e1 e2; exact ⟨e1, e2⟩))

/-- an own block of two cells -/
def Own2 (w : World) (b : Nat) (x y : Value) : Prop := w.cell? ⟨b, 0, none⟩ = some x ∧ w.cell? ⟨b, 1, none⟩ = some y ∧ w.frozen? ⟨b, 0, none⟩ = false ∧ w.frozen? ⟨b, 1, none⟩ = false ∧ b < w.heap.size
theorem Own2.mk {w : World} {x y : Value} {T : Nat} : Own2 (w.alloc (.cells #[x, y] T)) w.heap.size x y := by
  refine ⟨?_, ?_, ?_, ?_, ?_⟩ <;> simp [go_sem]
theorem Own2.later {w w' : World} {b : Nat} {x y : Value} (h : Own2 w b x y) (hb : B w w') : Own2 w' b x y :=
  ⟨hb.cell h.1, hb.cell h.2.1, by rw [Below.frozen hb h.2.2.2.2]; exact h.2.2.1, by rw [Below.frozen hb h.2.2.2.2]; exact h.2.2.2.1, Nat.lt_of_lt_of_le h.2.2.2.2 hb.size⟩
theorem Own2.alloc {w : World} {b : Nat} {x y : Value} (h : Own2 w b x y) (o : Obj) : Own2 (w.alloc o) b x y := h.later (B.alloc' w o)
/-- both cells stored -/
theorem Own2.set {w : World} {b : Nat} {x y : Value} (h : Own2 w b x y) (u v : Value) : Own2 ((w.setCell ⟨b, 0, none⟩ u).setCell ⟨b, 1, none⟩ v) b u v := by
  obtain ⟨h1, h2, h3, h4, h5⟩ := h
  refine ⟨?_, ?_, ?_, ?_, ?_⟩ <;> simp [*, cell_set]
theorem Own2.other {w : World} {b b' : Nat} {x y : Value} (h : Own2 w b x y) (hne : b' ≠ b) (o : Nat) (u : Value) : Own2 (w.setCell ⟨b', o, none⟩ u) b x y := by
  obtain ⟨h1, h2, h3, h4, h5⟩ := h
  refine ⟨?_, ?_, ?_, ?_, ?_⟩ <;> simp [*, cell_set]
theorem retI {k : IntKind} {a b : Int} (h : a = b) : Ending.returned (.int k a) = .returned (.int k b) := by rw [h]
theorem retB {a b : Bool} (h : a = b) : Ending.returned (.bool a) = .returned (.bool b) := by rw [h]
theorem retT {a b c d : Int} (h1 : a = c) (h2 : b = d) : Ending.returned (.agg #[.int .i64 a, .int .i64 b]) = .returned (.agg #[.int .i64 c, .int .i64 d]) := by rw [h1, h2]
end Go.Proofs.Ytnpjfjgnhadmjaa

/- Memory words for the walks: what a call may turn (Ext), blocks known whole (Blk), slices that read as lists (Rd). No program here. -/
namespace Go.Proofs.Ytnpjfjgnhadmjaa
open Go.RowKit
set_option linter.unusedVariables false

/-- of the old blocks only those in 'own' may have turned -/
structure Ext (own : Nat → Prop) (w w' : World) : Prop where
  os : w'.os = w.os
  tape : w'.tape = w.tape
  output : w'.output = w.output
  size : w.heap.size ≤ w'.heap.size
  block : ∀ b, b < w.heap.size → ¬ own b → w'.heap[b]? = w.heap[b]?

theorem Ext.refl (own : Nat → Prop) (w : World) : Ext own w w := ⟨rfl, rfl, rfl, Nat.le_refl _, fun _ _ _ => rfl⟩
theorem Ext.of_B {own : Nat → Prop} {w w' : World} (h : B w w') : Ext own w w' := ⟨h.os, h.tape, h.output, h.size, fun b hb _ => h.block b hb⟩
theorem Ext.to_B {own : Nat → Prop} {w w' : World} (h : Ext own w w') (hn : ∀ b, b < w.heap.size → ¬ own b) : B w w' := ⟨h.os, h.tape, h.output, h.size, fun b hb => h.block b hb (hn b hb)⟩
/-- the second step may turn more, but nothing old -/
theorem Ext.trans {own own' : Nat → Prop} {a b c : World} (h : Ext own a b) (k : Ext own' b c) (hs : ∀ x, x < a.heap.size → own' x → own x) : Ext own a c :=
  ⟨k.os.trans h.os, k.tape.trans h.tape, k.output.trans h.output, Nat.le_trans h.size k.size, fun x hx hn => (k.block x (Nat.lt_of_lt_of_le hx h.size) (fun e => hn (hs x hx e))).trans (h.block x hx hn)⟩
theorem Ext.trans_ {own : Nat → Prop} {a b c : World} (h : Ext own a b) (k : Ext own b c) : Ext own a c := h.trans k fun _ _ e => e
theorem Ext.mono {own own' : Nat → Prop} {w w' : World} (h : Ext own w w') (hs : ∀ x, x < w.heap.size → own x → own' x) : Ext own' w w' :=
  ⟨h.os, h.tape, h.output, h.size, fun x hx hn => h.block x hx (fun e => hn (hs x hx e))⟩
theorem Ext.drew {own : Nat → Prop} {a w : World} (h : Ext own a w) : Ext own a w.drew := ⟨h.os, h.tape, h.output, h.size, h.block⟩
theorem Ext.drewN {own : Nat → Prop} {a w : World} (h : Ext own a w) (n : Nat) : Ext own a (w.drewN n) := ⟨h.os, h.tape, h.output, h.size, h.block⟩
theorem Ext.alloc {own : Nat → Prop} {a w : World} (h : Ext own a w) (o : Obj) : Ext own a (w.alloc o) := h.trans (Ext.of_B (B.alloc' w o)) (own' := own) fun _ _ e => e
theorem Ext.set {own : Nat → Prop} {a w : World} (h : Ext own a w) {p : Addr} (hp : p.block < a.heap.size → own p.block) (u : Value) : Ext own a (w.setCell p u) :=
  h.trans (own' := fun b => b = p.block) ⟨rfl, rfl, rfl, by simp, fun b hb hn => Below.heap_setCell _ _ _ _ hn⟩ (fun x hx e => by subst e; exact hp hx)
theorem Ext.grown {own : Nat → Prop} {a w w' : World} {row : Option Nat} (h : Ext own a w) (hg : w.grownBy w' row) (hr : ∀ g, row = some g → g < a.heap.size → own g) : Ext own a w' :=
  h.trans (own' := fun b => some b = row) ⟨hg.os, hg.tape, hg.output, hg.size, fun b hb hn => hg.block b hb hn⟩ (fun x hx e => hr x e.symm hx)
theorem Ext.setMap {own : Nat → Prop} {a w : World} (h : Ext own a w) {m : Nat} (hm : m < a.heap.size → own m) (o : Obj) : Ext own a { w with heap := w.heap.setIfInBounds m o } :=
  h.trans (own' := fun b => b = m) ⟨rfl, rfl, rfl, by simp, fun b hb hn => by simp [Ne.symm hn]⟩ (fun x hx e => by subst e; exact hm hx)
theorem Ext.cell {own : Nat → Prop} {w w' : World} (h : Ext own w w') {a : Addr} {v : Value} (hn : ¬ own a.block) (hv : w.cell? a = some v) : w'.cell? a = some v := by
  rw [World.cell?_of_block (w := w) (h.block _ (World.block_lt_of_cell? w a hv) hn)]; exact hv
theorem Ext.frozen {own : Nat → Prop} {w w' : World} (h : Ext own w w') {a : Addr} (hl : a.block < w.heap.size) (hn : ¬ own a.block) : w'.frozen? a = w.frozen? a :=
  World.frozen?_of_block (w := w) (h.block _ hl hn)
theorem Own2.ext {own : Nat → Prop} {w w' : World} {b : Nat} {x y : Value} (h : Own2 w b x y) (hb : Ext own w w') (hn : ¬ own b) : Own2 w' b x y :=
  ⟨hb.cell hn h.1, hb.cell hn h.2.1, by rw [hb.frozen h.2.2.2.2 hn]; exact h.2.2.1, by rw [hb.frozen h.2.2.2.2 hn]; exact h.2.2.2.1, Nat.lt_of_lt_of_le h.2.2.2.2 hb.size⟩

/-- block g is just these cells, none frozen -/
def Blk (w : World) (g : Nat) (t : TypeId) (cs : Array Value) : Prop := w.heap[g]? = some (.cells cs t (0, 0))
section
variable {w w' : World} {g : Nat} {t : TypeId} {cs : Array Value}
theorem Blk.lt (h : Blk w g t cs) : g < w.heap.size := by
  rcases Nat.lt_or_ge g w.heap.size with hlt | hge
  · exact hlt
  · unfold Blk at h; rw [Array.getElem?_eq_none hge] at h; cases h
theorem Blk.cell (h : Blk w g t cs) (i : Nat) : w.cell? ⟨g, i, none⟩ = cs[i]? := cell_of_row w g i cs t (0, 0) h
theorem Blk.frozen (h : Blk w g t cs) (i : Nat) : w.frozen? ⟨g, i, none⟩ = false := by
  unfold Blk at h
  simp [World.frozen?, h]
theorem Blk.new (w : World) (t : TypeId) (cs : Array Value) : Blk (w.alloc (.cells cs t)) w.heap.size t cs := heap_alloc_new w _
theorem Blk.drew (h : Blk w g t cs) : Blk w.drew g t cs := h
theorem Blk.alloc (h : Blk w g t cs) (o : Obj) : Blk (w.alloc o) g t cs := (Below.heap_alloc w o g h.lt).trans h
theorem Blk.set_ (h : Blk w g t cs) (i : Nat) (u : Value) : Blk (w.setCell ⟨g, i, none⟩ u) g t (cs.setIfInBounds i u) := by
  unfold Blk at h ⊢
  simp [World.setCell, Array.getElem?_modify, h]
theorem Blk.far (h : Blk w g t cs) {p : Addr} (hp : g ≠ p.block) (u : Value) : Blk (w.setCell p u) g t cs := (Below.heap_setCell w p u g hp).trans h
theorem Blk.ext {own : Nat → Prop} (h : Blk w g t cs) (hb : Ext own w w') (hn : ¬ own g) : Blk w' g t cs := (hb.block g h.lt hn).trans h
theorem Blk.later (h : Blk w g t cs) (hb : B w w') : Blk w' g t cs := (hb.block g h.lt).trans h
theorem Blk.grown {row : Option Nat} (h : Blk w g t cs) (hb : w.grownBy w' row) (hg : some g ≠ row) : Blk w' g t cs := (hb.block g h.lt hg).trans h
theorem Blk.own2 {x y : Value} (h : Blk w g t #[x, y]) : Own2 w g x y := ⟨by rw [h.cell]; rfl, by rw [h.cell]; rfl, h.frozen 0, h.frozen 1, h.lt⟩
end

@[go_sem] theorem heap_drew (w : World) : w.drew.heap = w.heap := rfl
/-- a map block -/
def Mp (w : World) (m : Nat) (es : Array MapEntry) (c : Nat) : Prop := w.heap[m]? = some (.map es c)
theorem Mp.lt {w : World} {m : Nat} {es : Array MapEntry} {c : Nat} (h : Mp w m es c) : m < w.heap.size := by
  rcases Nat.lt_or_ge m w.heap.size with hlt | hge
  · exact hlt
  · unfold Mp at h; rw [Array.getElem?_eq_none hge] at h; cases h
theorem Mp.ext {own : Nat → Prop} {w w' : World} {m : Nat} {es : Array MapEntry} {c : Nat} (h : Mp w m es c) (hb : Ext own w w') (hn : ¬ own m) : Mp w' m es c := (hb.block m h.lt hn).trans h
theorem Mp.later {w w' : World} {m : Nat} {es : Array MapEntry} {c : Nat} (h : Mp w m es c) (hb : B w w') : Mp w' m es c := (hb.block m h.lt).trans h
theorem Mp.new (w : World) (es : Array MapEntry) (c : Nat) : Mp (w.alloc (.map es c)) w.heap.size es c := heap_alloc_new w _
theorem Mp.set (w : World) (m : Nat) (es : Array MapEntry) (c : Nat) (h : m < w.heap.size) : Mp { w with heap := w.heap.setIfInBounds m (.map es c) } m es c := by
  unfold Mp; simp [h]
theorem Mp.ne {w : World} {m g : Nat} {es : Array MapEntry} {c : Nat} {t : TypeId} {cs : Array Value} (h : Mp w m es c) (h' : Blk w g t cs) : m ≠ g := by
  rintro rfl
  unfold Mp at h; unfold Blk at h'
  rw [h] at h'; cases h'
/-- a map block has no cells -/
theorem Mp.no {w : World} {m g : Nat} {es : Array MapEntry} {c : Nat} {o : Nat} {v : Value} (h : Mp w m es c) (h' : w.cell? ⟨g, o, none⟩ = some v) : ¬ g = m := by
  rintro rfl
  unfold Mp at h
  simp [World.cell?, h] at h'
theorem Blk.ne {w : World} {g g' : Nat} {t t' : TypeId} {cs cs' : Array Value} (h : Blk w g t cs) (h' : Blk w g' t' cs') (hne : t ≠ t') : g ≠ g' := by
  rintro rfl
  unfold Blk at h h'
  rw [h] at h'
  injection h' with h'
  injection h' with _ ht
  exact hne ht
theorem row_ext {own : Nat → Prop} {w w' : World} {e : TypeId} {base size n : Nat} {v : Value} {xs : List Value} (h : w.ownsRow base e size v n xs) (hb : Ext own w w') (hd : ∀ g, v.ownBlock = some g → ¬ own g) : w'.ownsRow base e size v n xs := by
  refine ⟨h.1, ?_⟩
  rcases h.2 with h | ⟨g, cap, cur, hv, hg, hh, r⟩
  · exact .inl h
  · exact .inr ⟨g, cap, cur, hv, hg, Blk.ext (t := e) hh hb (hd g (by rw [hv]; rfl)), r⟩
theorem row_later {w w' : World} {e : TypeId} {base size n : Nat} {v : Value} {xs : List Value} (h : w.ownsRow base e size v n xs) (hb : B w w') : w'.ownsRow base e size v n xs :=
  row_ext h (Ext.of_B (own := fun _ => False) hb) (fun _ _ => id)
theorem row_lt {w : World} {e : TypeId} {base size n : Nat} {v : Value} {xs : List Value} (h : w.ownsRow base e size v n xs) {g : Nat} (hg : v.ownBlock = some g) : g < w.heap.size := by
  rcases h.2 with ⟨rfl, _⟩ | ⟨g', cap, cur, rfl, _, hh, r⟩
  · simp [Value.ownBlock] at hg
  · have : g' = g := by simpa [Value.ownBlock] using hg
    subst this
    exact Blk.lt (t := e) hh
theorem row_ne {w : World} {e t : TypeId} {base size n g : Nat} {v : Value} {xs : List Value} {cs : Array Value} (h : w.ownsRow base e size v n xs) (hg : Blk w g t cs) (hne : e ≠ t) : v.ownBlock ≠ some g := by
  rcases h.2 with ⟨rfl, _⟩ | ⟨g', cap, cur, rfl, _, hh, _⟩
  · simp [Value.ownBlock]
  · intro he
    have : g' = g := by simpa [Value.ownBlock] using he
    subst this
    exact Blk.ne (t := e) hh hg hne rfl
theorem own_slice {w : World} {e : TypeId} {base size n : Nat} {v : Value} {xs : List Value} (h : w.ownsRow base e size v n xs) : ∃ A c, v = .slice A n c := by
  rcases h.2 with ⟨rfl, rfl⟩ | ⟨g', cap, cur, rfl, _⟩
  · exact ⟨_, _, rfl⟩
  · exact ⟨_, _, rfl⟩
theorem row_no {w : World} {e : TypeId} {base size n m c : Nat} {v : Value} {xs : List Value} {es : Array MapEntry} (h : w.ownsRow base e size v n xs) (hm : Mp w m es c) {g : Nat} (hg : v.ownBlock = some g) : ¬ g = m := by
  rintro rfl
  rcases h.2 with ⟨rfl, _⟩ | ⟨g', cap, cur, rfl, _, hh, _⟩
  · simp [Value.ownBlock] at hg
  · have : g' = g := by simpa [Value.ownBlock] using hg
    subst this
    exact hm.ne (t := e) hh rfl
/-- two rows of elements of unlike types -/
theorem row_row {w : World} {e e' : TypeId} {b b' size size' n n' : Nat} {v v' : Value} {xs xs' : List Value} (h : w.ownsRow b e size v n xs) (h' : w.ownsRow b' e' size' v' n' xs') (hne : e ≠ e') {g : Nat} (hg : v.ownBlock = some g) (hg' : v'.ownBlock = some g) : False := by
  rcases h'.2 with ⟨rfl, _⟩ | ⟨g', cap, cur, rfl, _, hh, _⟩
  · simp [Value.ownBlock] at hg'
  · have : g' = g := by simpa [Value.ownBlock] using hg'
    subst this
    exact row_ne h (t := e') hh hne hg
theorem row_base {w : World} {e : TypeId} {base base' size n : Nat} {v : Value} {xs : List Value} (h : w.ownsRow base e size v n xs) (hb : base' ≤ base) : w.ownsRow base' e size v n xs := by
  refine ⟨h.1, ?_⟩
  rcases h.2 with h | ⟨g, cap, cur, hv, hg, r⟩
  · exact .inl h
  · exact .inr ⟨g, cap, cur, hv, Nat.le_trans hb hg, r⟩
theorem row_ge {w : World} {e : TypeId} {base size n : Nat} {v : Value} {xs : List Value} (h : w.ownsRow base e size v n xs) {g : Nat} (hg : v.ownBlock = some g) : base ≤ g := by
  rcases h.2 with ⟨rfl, _⟩ | ⟨g', cap, cur, rfl, hb, _⟩
  · simp [Value.ownBlock] at hg
  · have : g' = g := by simpa [Value.ownBlock] using hg
    subst this; exact hb
theorem Own2.grown {w w' : World} {b : Nat} {x y : Value} {row : Option Nat} (h : Own2 w b x y) (hg : w.grownBy w' row) (hn : some b ≠ row) : Own2 w' b x y :=
  h.ext ((Ext.refl (fun g => some g = row) w).grown hg (fun g hg _ => hg.symm)) hn
/-! a built-in append whose run is known -/
section
variable {P : Program} {w : World} {ops : Array Oper} {rest : List Oper} {o : Oper} {a : Act} {K : Act → World → Prop} {Q : Exit → Act → World → Prop} {E : Prop}
theorem wp_append_run (s x : Operand) (t : TypeId) (ho : o.op = .call { callee := .builtin .append, args := #[s, x], argTypes := #[t, t] }) {v u v' : Value} {w' : World} (hs : a.eval s = v) (hx : a.eval x = u)
    (hrun : (Builtin.append_ #[t, t] o.type #[v, u]).run P w = .ok v' w') (h : K (a.put o.dst v') w') : o.wp P a w K Q := by
  unfold Oper.wp execOp
  simp only [ho, resolve, invoke, builtin, Sem.run_bind, Sem.run_pure, Result.andThen_ok, List.map_toArray, List.map_cons, List.map_nil, hs, hx, hrun]
  exact h
theorem wpList_append_run (hgd : o.guard = none) (s x : Operand) (t : TypeId) (ho : o.op = .call { callee := .builtin .append, args := #[s, x], argTypes := #[t, t] }) {v u v' : Value} {w' : World} (hs : a.eval s = v) (hx : a.eval x = u)
    (hrun : (Builtin.append_ #[t, t] o.type #[v, u]).run P w = .ok v' w') (h : wpList P ops Q rest (a.put o.dst v') w') : wpList P ops Q (o :: rest) a w :=
  wpList_plain hgd fun _ hK => wp_append_run s x t ho hs hx hrun (hK _ _ h)
theorem step_append_run (hgd : o.guard = none) (s x : Operand) (t : TypeId) (ho : o.op = .call { callee := .builtin .append, args := #[s, x], argTypes := #[t, t] }) {v u v' : Value} {w' : World} (hs : a.eval s = v) (hx : a.eval x = u)
    (hrun : (Builtin.append_ #[t, t] o.type #[v, u]).run P w = .ok v' w') (h : K (a.put o.dst v') w') : if Region.wanted o (yielded ops a.tmps) = true then Oper.wp P o a w K Q else E := by
  have hw : Region.wanted o (yielded ops a.tmps) = true := by simp [Region.wanted, hgd]
  rw [if_pos hw]
  exact wp_append_run s x t ho hs hx hrun h
/-- a call of a Go function, met by its contract -/
theorem step_call (hgd : o.guard = none) (f : FuncId) (args : Array Operand) (ts : Array TypeId) (ho : o.op = .call { callee := .value (.func f), args := args, argTypes := ts })
    (hf : ∀ (args : Array Value) (w : World), (callFunc f args).run P w = .ok (.enter f args) w) {vs : Array Value} {R : Ending → World → Prop} (hc : Calls P f vs w R) (hv : args.toList.map a.eval = vs.toList) (h : ∀ e w', R e w' → ∃ v, e = .returned v ∧ K (a.put o.dst v) w') :
    if Region.wanted o (yielded ops a.tmps) = true then Oper.wp P o a w K Q else E := by
  have hw : Region.wanted o (yielded ops a.tmps) = true := by simp [Region.wanted, hgd]
  have hv' : args.map a.eval = vs := by
    apply Array.toList_inj.1
    rw [Array.toList_map]; exact hv
  subst hv'
  rw [if_pos hw]
  unfold Oper.wp execOp
  simp only [ho, resolve, Act.eval, Deferred.ofValue, invoke, Sem.run_bind, Sem.run_pure, Result.andThen_ok, hf, Array.append_empty, Array.empty_append]
  exact hc.mono fun e w' hr => by
    obtain ⟨v, rfl, hk⟩ := h e w' hr
    exact hk
end
end Go.Proofs.Ytnpjfjgnhadmjaa

/- Byte slices: 'Bs w v bs': the slice value v reads as the bytes bs. No program here. -/
namespace Go.Proofs.Ytnpjfjgnhadmjaa
open Go.RowKit
set_option linter.unusedVariables false

def cellsB (bs : List UInt8) : List Value := bs.map fun b => .int .u8 b.toNat
theorem cellsB_len (bs : List UInt8) : (cellsB bs).length = bs.length := by simp [cellsB]
theorem cellsB_app (a b : List UInt8) : cellsB (a ++ b) = cellsB a ++ cellsB b := by simp [cellsB]
theorem cellsB_get (bs : List UInt8) (j : Nat) (h : j < bs.length) : (cellsB bs)[j]? = some (.int .u8 (bs[j]).toNat) := by simp [cellsB, h]
theorem cellsB_one (bs : List UInt8) : ∀ u ∈ cellsB bs, u.oneCell' = true := by
  intro u hu
  simp only [cellsB, List.mem_map] at hu
  obtain ⟨b, _, rfl⟩ := hu
  rfl
def bstr (bs : List UInt8) : ByteArray := ⟨bs.toArray⟩
theorem bstr_toList (bs : List UInt8) : (bstr bs).toList = bs := by rw [ByteArray.toList_eq]; rfl
theorem bstr_inj {a b : List UInt8} (h : bstr a = bstr b) : a = b := by rw [← bstr_toList a, h, bstr_toList]

def big : Nat := 140737488355328
structure Bs (w : World) (v : Value) (bs : List UInt8) : Prop where
  ex : ∃ (A : Option Addr) (cap : Nat), v = .slice A bs.length cap ∧ (A = none → bs = [] ∧ cap = 0) ∧ bs.length ≤ cap ∧ cap ≤ maxLen ∧
    ∀ ad, A = some ad → (bs ≠ [] → ad.block < w.heap.size) ∧ ∀ j u, (cellsB bs)[j]? = some u → w.cell? (ad.add j) = some u
  len : bs.length ≤ big

theorem block_of_add (a : Addr) (n : Nat) : (a.add n).block = a.block := by unfold Addr.add; split <;> rfl
theorem Bs.nil (w : World) : Bs w (.slice none 0 0) [] := ⟨⟨none, 0, rfl, fun _ => ⟨rfl, rfl⟩, Nat.le_refl _, by unfold maxLen; omega, fun ad h => by cases h⟩, by simp [big]⟩
theorem Bs.ext {own : Nat → Prop} {w w' : World} {v : Value} {bs : List UInt8} (h : Bs w v bs) (hb : Ext own w w') (hd : ∀ g, v.ownBlock = some g → bs ≠ [] → ¬ own g) : Bs w' v bs := by
  obtain ⟨⟨A, cap, hv, hn, hc, hm, hr⟩, hl⟩ := h
  refine ⟨⟨A, cap, hv, hn, hc, hm, fun ad had => ?_⟩, hl⟩
  obtain ⟨h1, h2⟩ := hr ad had
  exact ⟨fun hne => Nat.lt_of_lt_of_le (h1 hne) hb.size, fun j u hu => hb.cell (by
    rw [block_of_add]
    exact hd _ (by rw [hv, had]; rfl) (fun e => by subst e; simp [cellsB] at hu)) (h2 j u hu)⟩
theorem Bs.later {w w' : World} {v : Value} {bs : List UInt8} (h : Bs w v bs) (hb : B w w') : Bs w' v bs := h.ext (Ext.of_B (own := fun _ => False) hb) (fun _ _ _ => id)
theorem Bs.lt {w : World} {v : Value} {bs : List UInt8} (h : Bs w v bs) (hne : bs ≠ []) {g : Nat} (hg : v.ownBlock = some g) : g < w.heap.size := by
  obtain ⟨⟨A, cap, rfl, hn, hc, hm, hr⟩, hl⟩ := h
  cases A with
  | none => simp [Value.ownBlock] at hg
  | some ad =>
    have : ad.block = g := by simpa [Value.ownBlock] using hg
    rw [← this]; exact (hr ad rfl).1 hne
theorem Bs.of_own {w : World} {base : Nat} {e : TypeId} {v : Value} {bs : List UInt8} (h : w.ownsRow base e 1 v bs.length (cellsB bs)) (hl : bs.length ≤ big) : Bs w v bs := by
  obtain ⟨h1, h2⟩ := h
  rcases h2 with ⟨rfl, h0⟩ | ⟨g, cap, cur, rfl, hg, hh, hc, hm, hs, ht⟩
  · have : bs = [] := List.eq_nil_of_length_eq_zero h0
    subst this; exact Bs.nil w
  · refine ⟨⟨_, cap, rfl, fun e => (by cases e), hc, hm, fun ad had => ?_⟩, hl⟩
    cases had
    refine ⟨fun _ => Blk.lt (t := e) hh, fun j u hu => ?_⟩
    have hj : j < bs.length := by
      rcases Nat.lt_or_ge j bs.length with h | h
      · exact h
      · rw [List.getElem?_eq_none (by rw [cellsB_len]; exact h)] at hu; cases hu
    have ea : (⟨g, 0, none⟩ : Addr).add j = ⟨g, j, none⟩ := by unfold Addr.add; split <;> simp_all
    rw [ea, Blk.cell (t := e) hh, ← hu, ← ht]
    simp [hj]

section
variable {P : Program}
/-- 'string(b)' -/
theorem Bs.conv {w : World} {v : Value} {bs : List UInt8} (h : Bs w v bs) {src dst e : TypeId} (hs : P.underlying src = some (.slice e)) (he : P.underlying e = some (.int .u8)) (hd : P.underlying dst = some .string) :
    (convert src dst v).run P w = .ok (.string (bstr bs)) w := by
  obtain ⟨⟨A, cap, rfl, hn, hc, hm, hr⟩, hl⟩ := h
  cases A with
  | none =>
    rw [(hn rfl).1]
    exact run_convert_bytes_nil w src e hs he _ _ dst hd
  | some ad =>
    have hx : (bs.map fun b => (b.toNat : Int)).length = bs.length := by simp
    have hl : (loadCells ad bs.length).run P w = .ok ((bs.map fun b => (b.toNat : Int)).map (Value.int .u8)).toArray w := by
      have := run_loadCells_list (P := P) w ad (cellsB bs) ((hr ad rfl).2)
      simpa [cellsB, Function.comp_def] using this
    rw [run_convert_bytes_string w src dst e _ _ cap hs he hd, run_bytesToString w _ _ cap _ hl, foldl_push_bytes]
    simp [bstr, ByteArray.empty, ByteArray.emptyWithCapacity, Function.comp_def]
    rfl

/-- a slice against nil -/
theorem Bs.isNil {w : World} {v : Value} {bs : List UInt8} (h : Bs w v bs) : (v = .slice none 0 0 ∧ bs = []) ∨ ∃ ad cap, v = .slice (some ad) bs.length cap := by
  obtain ⟨⟨A, cap, rfl, hn, hc, hm, hr⟩, hl⟩ := h
  cases A with
  | none => obtain ⟨h1, h2⟩ := hn rfl; subst h1 h2; exact .inl ⟨rfl, rfl⟩
  | some ad => exact .inr ⟨ad, cap, rfl⟩

/-- append of bytes onto an own row -/
theorem append_Bs {w : World} {t ty e : TypeId} (ht : P.underlying t = some (.slice e)) (hi5 : (P.info? e).map (fun i => (i.zero, i.size, i.bytes)) = some (some (.int .u8 0), 1, 1))
    {base : Nat} {v u : Value} {xs bs : List UInt8} (hown : w.ownsRow base e 1 v xs.length (cellsB xs)) (hu : Bs w u bs) (hroom : xs.length + bs.length ≤ big) (hbase : base ≤ w.heap.size) :
    ∃ v' w', (Builtin.append_ #[t, t] ty #[v, u]).run P w = .ok v' w' ∧ w'.ownsRow base e 1 v' (xs ++ bs).length (cellsB (xs ++ bs)) ∧ w.grownBy w' v.ownBlock ∧ (v'.ownBlock = v.ownBlock ∨ v'.ownBlock = some w.heap.size) := by
  obtain ⟨i, hi, hz, hs, hb⟩ := info_parts hi5
  obtain ⟨⟨A, cap, rfl, hn, hc, hm, hr⟩, hl⟩ := hu
  unfold big at hroom hl
  cases A with
  | none =>
    obtain ⟨rfl, rfl⟩ := hn rfl
    refine ⟨v, w, ?_, by simpa using hown, World.grownBy.refl w _, .inl rfl⟩
    rcases hown.2 with ⟨rfl, _⟩ | ⟨g, c, cur, rfl, _, _, hnc, _⟩
    · simp [Builtin.append_, run_underlying ht, sizeOf, typeInfo, hi, Builtin.lenOf, Builtin.firstCells]
    · simp [Builtin.append_, run_underlying ht, sizeOf, typeInfo, hi, Builtin.lenOf, Builtin.firstCells, hnc, storeCells]
  | some ad =>
    obtain ⟨v', w', h1, h2, h3, h4, h5⟩ := run_append_own_at (P := P) w base t ty e i (.int .u8 0) 1 1 ht hi hz hs hb rfl (by omega) v xs.length (cellsB xs) hown ad bs.length cap (cellsB bs) (by rw [cellsB_len]; omega) (hr ad rfl).2 (cellsB_one bs) (by unfold maxLen; omega) (by omega) hbase
    exact ⟨v', w', h1, by rw [List.length_append, cellsB_app]; exact h2, h3, h5⟩
end
end Go.Proofs.Ytnpjfjgnhadmjaa

/- A slice that is read, whatever its elements ('Rd'), and append from it. No program here. -/
namespace Go.Proofs.Ytnpjfjgnhadmjaa
open Go.RowKit
set_option linter.unusedVariables false

/-- the slice value u of m elements of sz cells reads as the cells xs -/
def Rd (w : World) (u : Value) (m sz : Nat) (xs : List Value) : Prop :=
  xs.length = m * sz ∧ ∃ (A : Option Addr) (cap : Nat), u = .slice A m cap ∧ (A = none → m = 0 ∧ cap = 0) ∧ m ≤ cap ∧ ∀ ad, A = some ad → (0 < m → ad.block < w.heap.size) ∧ ∀ j x, xs[j]? = some x → w.cell? (ad.add j) = some x
theorem Rd.ext {own : Nat → Prop} {w w' : World} {u : Value} {m sz : Nat} {xs : List Value} (h : Rd w u m sz xs) (hb : Ext own w w') (hd : ∀ g, u.ownBlock = some g → ¬ own g) : Rd w' u m sz xs := by
  obtain ⟨hl, A, cap, hv, hn, hc, hr⟩ := h
  refine ⟨hl, A, cap, hv, hn, hc, fun ad had => ?_⟩
  obtain ⟨h1, h2⟩ := hr ad had
  have hno : ¬ own ad.block := hd _ (by rw [hv, had]; rfl)
  exact ⟨fun h => Nat.lt_of_lt_of_le (h1 h) hb.size, fun j x hx => hb.cell (by rw [block_of_add]; exact hno) (h2 j x hx)⟩
theorem Rd.later {w w' : World} {u : Value} {m sz : Nat} {xs : List Value} (h : Rd w u m sz xs) (hb : B w w') : Rd w' u m sz xs := h.ext (Ext.of_B (own := fun _ => False) hb) (fun _ _ => id)
theorem Rd.of_own {w : World} {base sz n : Nat} {e : TypeId} {v : Value} {xs : List Value} (h : w.ownsRow base e sz v n xs) : Rd w v n sz xs := by
  refine ⟨h.1, ?_⟩
  have hl := h.1
  rcases h.2 with ⟨rfl, rfl⟩ | ⟨g, cap, cur, rfl, hg, hh, hc, hm, hs, ht⟩
  · exact ⟨none, 0, rfl, fun _ => ⟨rfl, rfl⟩, Nat.le_refl _, fun ad h => by cases h⟩
  · refine ⟨_, cap, rfl, fun e => (by cases e), hc, fun ad had => ?_⟩
    cases had
    refine ⟨fun _ => Blk.lt (t := e) hh, fun j x hx => ?_⟩
    have hj : j < n * sz := by
      rcases Nat.lt_or_ge j xs.length with h | h
      · omega
      · rw [List.getElem?_eq_none h] at hx; cases hx
    have ea : (⟨g, 0, none⟩ : Addr).add j = ⟨g, j, none⟩ := by unfold Addr.add; split <;> simp_all
    rw [ea, Blk.cell (t := e) hh, ← hx, ← ht]
    simp [hj]
theorem Rd.slice {w : World} {u : Value} {m sz : Nat} {xs : List Value} (h : Rd w u m sz xs) : ∃ A c, u = .slice A m c := by
  obtain ⟨_, A, cap, hv, _⟩ := h; exact ⟨A, cap, hv⟩
theorem Rd.nil (w : World) (sz : Nat) : Rd w (.slice none 0 0) 0 sz [] := ⟨by simp, none, 0, rfl, fun _ => ⟨rfl, rfl⟩, Nat.le_refl _, fun ad h => by cases h⟩
section
variable {P : Program}
/-- append onto an own row, whatever is read -/
theorem append_Rd {w : World} {t ty e : TypeId} {z : Value} {sz bytes : Nat} (ht : P.underlying t = some (.slice e)) (hie : (P.info? e).map (fun i => (i.zero, i.size, i.bytes)) = some (some z, sz, bytes)) (hz : z.cells.size = sz) (hsz : 0 < sz)
    {base n m : Nat} {v u : Value} {xs news : List Value} (hown : w.ownsRow base e sz v n xs) (hu : Rd w u m sz news) (h1 : ∀ x ∈ news, x.oneCell' = true) (h63 : n + m ≤ maxLen) (hroom : (n + m) * bytes ≤ 140737488355328) (hbase : base ≤ w.heap.size) :
    ∃ v' w', (Builtin.append_ #[t, t] ty #[v, u]).run P w = .ok v' w' ∧ w'.ownsRow base e sz v' (n + m) (xs ++ news) ∧ w.grownBy w' v.ownBlock ∧ (v'.ownBlock = v.ownBlock ∨ v'.ownBlock = some w.heap.size) := by
  obtain ⟨i, hi, hz0, hs, hb⟩ := info_parts hie
  obtain ⟨hl, A, cap, rfl, hn, hc, hr⟩ := hu
  cases A with
  | none =>
    obtain ⟨rfl, rfl⟩ := hn rfl
    have hnil : news = [] := List.eq_nil_of_length_eq_zero (by simpa using hl)
    subst hnil
    refine ⟨v, w, ?_, by simpa using hown, World.grownBy.refl w _, .inl rfl⟩
    rcases hown.2 with ⟨rfl, rfl⟩ | ⟨g, c, cur, rfl, _, _, hnc, _⟩
    · simp [Builtin.append_, run_underlying ht, sizeOf, typeInfo, hi, Builtin.lenOf, Builtin.firstCells]
    · simp [Builtin.append_, run_underlying ht, sizeOf, typeInfo, hi, Builtin.lenOf, Builtin.firstCells, hnc, storeCells]
  | some ad =>
    obtain ⟨v', w', h1, h2, h3, h4, h5⟩ := run_append_own_at (P := P) w base t ty e i z sz bytes ht hi hz0 hs hb hz hsz v n xs hown ad m cap news hl (hr ad rfl).2 h1 h63 hroom hbase
    exact ⟨v', w', h1, h2, h3, h5⟩
end
section
variable {P : Program} {w : World} {ops : Array Oper} {rest : List Oper} {o : Oper} {a : Act} {K : Act → World → Prop} {Q : Exit → Act → World → Prop} {E : Prop}
/-- append onto an own row inside a region that draws -/
theorem step_append_Rd (hgd : o.guard = none) (s x : Operand) (t : TypeId) (ho : o.op = .call { callee := .builtin .append, args := #[s, x], argTypes := #[t, t] })
    {e : TypeId} {z : Value} {sz bytes : Nat} (ht : P.underlying t = some (.slice e)) (hie : (P.info? e).map (fun i => (i.zero, i.size, i.bytes)) = some (some z, sz, bytes)) (hz : z.cells.size = sz) (hsz : 0 < sz)
    {base n m : Nat} {v u : Value} {xs news : List Value} (hs : a.eval s = v) (hx : a.eval x = u) (hown : w.ownsRow base e sz v n xs) (hu : Rd w u m sz news) (h1 : ∀ x ∈ news, x.oneCell' = true) (h63 : n + m ≤ maxLen) (hroom : (n + m) * bytes ≤ 140737488355328) (hbase : base ≤ w.heap.size)
    (h : ∀ A c w', w'.ownsRow base e sz (.slice A (n + m) c) (n + m) (xs ++ news) → w.grownBy w' v.ownBlock → ((Value.slice A (n + m) c).ownBlock = v.ownBlock ∨ (Value.slice A (n + m) c).ownBlock = some w.heap.size) → K (a.put o.dst (.slice A (n + m) c)) w') :
    if Region.wanted o (yielded ops a.tmps) = true then Oper.wp P o a w K Q else E := by
  obtain ⟨v', w', hrun, h2, h3, h4⟩ := append_Rd (P := P) (t := t) (ty := o.type) ht hie hz hsz hown hu h1 h63 hroom hbase
  obtain ⟨A, c, rfl⟩ := own_slice h2
  exact step_append_run hgd s x t ho hs hx hrun (h A c w' h2 h3 h4)
theorem wpList_append_Rd (hgd : o.guard = none) (s x : Operand) (t : TypeId) (ho : o.op = .call { callee := .builtin .append, args := #[s, x], argTypes := #[t, t] })
    {e : TypeId} {z : Value} {sz bytes : Nat} (ht : P.underlying t = some (.slice e)) (hie : (P.info? e).map (fun i => (i.zero, i.size, i.bytes)) = some (some z, sz, bytes)) (hz : z.cells.size = sz) (hsz : 0 < sz)
    {base n m : Nat} {v u : Value} {xs news : List Value} (hs : a.eval s = v) (hx : a.eval x = u) (hown : w.ownsRow base e sz v n xs) (hu : Rd w u m sz news) (h1 : ∀ x ∈ news, x.oneCell' = true) (h63 : n + m ≤ maxLen) (hroom : (n + m) * bytes ≤ 140737488355328) (hbase : base ≤ w.heap.size)
    (h : ∀ A c w', w'.ownsRow base e sz (.slice A (n + m) c) (n + m) (xs ++ news) → w.grownBy w' v.ownBlock → ((Value.slice A (n + m) c).ownBlock = v.ownBlock ∨ (Value.slice A (n + m) c).ownBlock = some w.heap.size) → wpList P ops Q rest (a.put o.dst (.slice A (n + m) c)) w') :
    wpList P ops Q (o :: rest) a w := by
  obtain ⟨v', w', hrun, h2, h3, h4⟩ := append_Rd (P := P) (t := t) (ty := o.type) ht hie hz hsz hown hu h1 h63 hroom hbase
  obtain ⟨A, c, rfl⟩ := own_slice h2
  exact wpList_append_run hgd s x t ho hs hx hrun (h A c w' h2 h3 h4)
end
theorem Bs.rd {w : World} {v : Value} {bs : List UInt8} (h : Bs w v bs) : Rd w v bs.length 1 (cellsB bs) := by
  obtain ⟨⟨A, cap, rfl, hn, hc, hm, hr⟩, hl⟩ := h
  refine ⟨by rw [cellsB_len]; omega, A, cap, rfl, fun e => ?_, hc, fun ad had => ?_⟩
  · obtain ⟨rfl, rfl⟩ := hn e; exact ⟨rfl, rfl⟩
  · obtain ⟨h1, h2⟩ := hr ad had
    exact ⟨fun h0 => h1 (fun e => by subst e; simp at h0), h2⟩
theorem Rd.one (w : World) (x : Value) (t : TypeId) : Rd (w.alloc (.cells #[x] t)) (.slice (some ⟨w.heap.size, 0, none⟩) 1 1) 1 1 [x] := by
  refine ⟨rfl, _, 1, rfl, fun e => (by cases e), Nat.le_refl _, fun ad had => ?_⟩
  cases had
  exact ⟨fun _ => by simp, cell_one_new w x t⟩
theorem Rd.two (w : World) (x y : Value) (t : TypeId) : Rd (w.alloc (.cells #[x, y] t)) (.slice (some ⟨w.heap.size, 0, none⟩) 1 1) 1 2 [x, y] := by
  refine ⟨rfl, _, 1, rfl, fun e => (by cases e), Nat.le_refl _, fun ad had => ?_⟩
  cases had
  refine ⟨fun _ => by simp, fun j u hu => ?_⟩
  match j, hu with
  | 0, h => simp [Addr.add] at h ⊢; exact h
  | 1, h => simp [Addr.add] at h ⊢; exact h
  | j + 2, h => simp at h
theorem Rd.grown {w w' : World} {u : Value} {m sz : Nat} {xs : List Value} {row : Option Nat} (h : Rd w u m sz xs) (hg : w.grownBy w' row) (hn : ∀ g, u.ownBlock = some g → some g ≠ row) : Rd w' u m sz xs :=
  h.ext ((Ext.refl (fun g => some g = row) w).grown hg (fun g e _ => e.symm)) hn
theorem ownNil (w : World) (b e s : Nat) : w.ownsRow b e s (.slice none 0 0) 0 [] := ⟨by simp, .inl ⟨rfl, rfl⟩⟩
theorem ownEmpty (w : World) (e s : Nat) : (w.alloc (.cells #[] e)).ownsRow w.heap.size e s (.slice (some ⟨w.heap.size, 0, none⟩) 0 0) 0 [] :=
  ⟨by simp, .inr ⟨_, 0, #[], rfl, Nat.le_refl _, heap_alloc_new w _, Nat.le_refl _, by unfold maxLen; omega, by simp, by simp⟩⟩
theorem B.grown {w w' w'' : World} {row : Option Nat} (h : B w w') (hg : w'.grownBy w'' row) (hr : ∀ k, row = some k → w.heap.size ≤ k) : B w w'' := Below.grown h hg h.size hr
end Go.Proofs.Ytnpjfjgnhadmjaa

/- Objects that lie apart: 'St W w L': what was there at W is as it was, and the objects L lie in blocks made since, no block in two of them. No program here. -/
namespace Go.Proofs.Ytnpjfjgnhadmjaa
open Go.RowKit
set_option linter.unusedVariables false

/-- an object in memory: what it says of the blocks 'own' alone -/
structure Asn where
  at_ : (Nat → Prop) → World → Prop
  ext : ∀ {own own' : Nat → Prop} {w w' : World}, at_ own w → Ext own' w w' → (∀ b, own b → ¬ own' b) → at_ own w'
  bound : ∀ {own : Nat → Prop} {w : World}, at_ own w → at_ (fun x => own x ∧ x < w.heap.size) w

def Sep (w : World) : (Nat → Prop) → List Asn → Prop
  | _, [] => True
  | U, A :: L => ∃ own : Nat → Prop, (∀ b, own b → U b ∧ b < w.heap.size) ∧ A.at_ own w ∧ Sep w (fun b => U b ∧ ¬ own b) L
theorem Sep.mono {w : World} {U U' : Nat → Prop} {L : List Asn} (h : Sep w U L) (hs : ∀ b, b < w.heap.size → U b → U' b) : Sep w U' L := by
  induction L generalizing U U' with
  | nil => trivial
  | cons A L ih =>
    obtain ⟨own, h1, h2, h3⟩ := h
    exact ⟨own, fun b hb => ⟨hs b (h1 b hb).2 (h1 b hb).1, (h1 b hb).2⟩, h2, ih h3 (fun b hl hb => ⟨hs b hl hb.1, hb.2⟩)⟩
theorem Sep.ext {own : Nat → Prop} {w w' : World} {U : Nat → Prop} {L : List Asn} (h : Sep w U L) (hx : Ext own w w') (hd : ∀ b, b < w.heap.size → U b → ¬ own b) : Sep w' (fun b => U b ∧ b < w.heap.size) L := by
  induction L generalizing U with
  | nil => trivial
  | cons A L ih =>
    obtain ⟨o, h1, h2, h3⟩ := h
    refine ⟨o, fun b hb => ⟨⟨(h1 b hb).1, (h1 b hb).2⟩, Nat.lt_of_lt_of_le (h1 b hb).2 hx.size⟩, A.ext h2 hx (fun b hb => hd b (h1 b hb).2 (h1 b hb).1), ?_⟩
    exact (ih h3 (fun b hl hb => hd b hl hb.1)).mono (fun b _ hb => ⟨⟨hb.1.1, hb.2⟩, hb.1.2⟩)
theorem Sep.swap {w : World} {U : Nat → Prop} {A C : Asn} {L : List Asn} (h : Sep w U (A :: C :: L)) : Sep w U (C :: A :: L) := by
  obtain ⟨o, h1, h2, o', h3, h4, h5⟩ := h
  exact ⟨o', fun b hb => ⟨(h3 b hb).1.1, (h3 b hb).2⟩, h4, o, fun b hb => ⟨⟨(h1 b hb).1, fun e => (h3 b e).1.2 hb⟩, (h1 b hb).2⟩, h2, h5.mono (fun b _ hb => ⟨⟨hb.1.1, hb.2⟩, hb.1.2⟩)⟩

/-- the state of a call that began at W: old memory as it was, the objects L apart -/
def St (W w : World) (L : List Asn) : Prop := B W w ∧ Sep w (fun b => W.heap.size ≤ b) L
section
variable {W w w' : World} {A C D : Asn} {L : List Asn}
theorem St.nil (W : World) : St W W [] := ⟨Below.refl _ _, trivial⟩
theorem St.b (h : St W w L) : B W w := h.1
theorem St.swap (h : St W w (A :: C :: L)) : St W w (C :: A :: L) := ⟨h.1, h.2.swap⟩
theorem St.rot3 (h : St W w (A :: C :: D :: L)) : St W w (D :: A :: C :: L) := by
  obtain ⟨hb, o, h1, h2, h3⟩ := h
  exact St.swap ⟨hb, o, h1, h2, h3.swap⟩
theorem St.drop (h : St W w (A :: L)) : St W w L := by
  obtain ⟨hb, o, h1, h2, h3⟩ := h
  exact ⟨hb, h3.mono (fun b _ hb => hb.1)⟩
theorem St.drop2 (h : St W w (A :: C :: L)) : St W w (A :: L) := h.swap.drop
theorem St.later (h : St W w L) (hb : B w w') : St W w' L :=
  ⟨h.1.trans hb, (h.2.ext (Ext.of_B (own := fun _ => False) hb) (fun _ _ _ => id)).mono (fun b _ hb => hb.1)⟩
/-- a new object -/
theorem St.add (h : St W w L) (hb : B w w') {own : Nat → Prop} (ha : A.at_ own w') (ho : ∀ x, own x → w.heap.size ≤ x) : St W w' (A :: L) := by
  refine ⟨h.1.trans hb, _, fun b hb' => ⟨?_, hb'.2⟩, A.bound ha, ?_⟩
  · have := ho b hb'.1; have := h.1.size; show W.heap.size ≤ b; omega
  · exact (h.2.ext (Ext.of_B (own := fun _ => False) hb) (fun _ _ _ => id)).mono (fun b _ hb' => ⟨hb'.1, fun e => by have := ho b e.1; omega⟩)
theorem St.back {own : Nat → Prop} (hb : B W w) (h1 : ∀ b, own b → W.heap.size ≤ b ∧ b < w.heap.size) (h3 : Sep w (fun b => W.heap.size ≤ b ∧ ¬ own b) L) {w' : World} {A' : Asn} (hx : Ext own w w') (ha : A'.at_ (fun x => own x ∨ w.heap.size ≤ x) w') : St W w' (A' :: L) := by
  refine ⟨?_, _, fun b hb' => ⟨?_, hb'.2⟩, A'.bound ha, ?_⟩
  · exact (((Ext.of_B (own := own) hb).trans_ hx).to_B (fun x hx' e => by have := (h1 x e).1; omega))
  · rcases hb'.1 with e | e
    · exact (h1 b e).1
    · have := hb.size; show W.heap.size ≤ b; omega
  · exact (h3.ext hx (fun b _ hb' => hb'.2)).mono (fun b _ hb' => ⟨hb'.1.1, fun e => e.1.elim (fun e => hb'.1.2 e) (fun e => by omega)⟩)
/-- the first object by itself, and back -/
theorem St.focus (h : St W w (A :: L)) : ∃ own : Nat → Prop, A.at_ own w ∧ (∀ x, own x → W.heap.size ≤ x ∧ x < w.heap.size) ∧
    ∀ (w' : World) (A' : Asn), Ext own w w' → A'.at_ (fun x => own x ∨ w.heap.size ≤ x) w' → St W w' (A' :: L) := by
  obtain ⟨hb, own, h1, h2, h3⟩ := h
  exact ⟨own, h2, h1, fun w' A' hx ha => St.back hb h1 h3 hx ha⟩
/-- the first beside the second -/
theorem St.focus2 (h : St W w (A :: C :: L)) : ∃ own own' : Nat → Prop, A.at_ own w ∧ C.at_ own' w ∧ (∀ x, own x → W.heap.size ≤ x ∧ x < w.heap.size) ∧ (∀ x, own' x → ¬ own x) ∧
    ∀ (w' : World) (A' : Asn), Ext own w w' → A'.at_ (fun x => own x ∨ w.heap.size ≤ x) w' → St W w' (A' :: C :: L) := by
  obtain ⟨hb, own, h1, h2, h3⟩ := h
  obtain ⟨o', k1, k2, k3⟩ := id h3
  exact ⟨own, o', h2, k2, h1, fun x hx => (k1 x hx).1.2, fun w' A' hx ha => St.back hb h1 h3 hx ha⟩
/-- some blocks of its own, known whole -/
theorem St.get (h : St W w (A :: L)) : ∃ own : Nat → Prop, A.at_ own w ∧ (∀ x, own x → W.heap.size ≤ x ∧ x < w.heap.size) := by
  obtain ⟨own, h1, h2, _⟩ := h.focus
  exact ⟨own, h1, h2⟩
/-- another way to say what the first object is -/
theorem St.conv (h : St W w (A :: L)) (hc : ∀ own, A.at_ own w → C.at_ own w) : St W w (C :: L) := by
  obtain ⟨hb, own, h1, h2, h3⟩ := h
  exact ⟨hb, own, h1, hc own h2, h3⟩
end
/-- a block known whole -/
def aBlk (g : Nat) (t : TypeId) (cs : Array Value) : Asn where
  at_ own w := own g ∧ Blk w g t cs
  ext h hx hd := ⟨h.1, h.2.ext hx (hd _ h.1)⟩
  bound h := ⟨⟨h.1, h.2.lt⟩, h.2⟩
theorem aBlk.new {W w : World} {L : List Asn} (h : St W w L) (t : TypeId) (cs : Array Value) : St W (w.alloc (.cells cs t)) (aBlk w.heap.size t cs :: L) :=
  h.add (B.alloc' _ _) (A := aBlk w.heap.size t cs) (own := fun x => x = w.heap.size) ⟨rfl, Blk.new w t cs⟩ (fun x e => by omega)
theorem aBlk.set {W w : World} {L : List Asn} {g : Nat} {t : TypeId} {cs : Array Value} (h : St W w (aBlk g t cs :: L)) (i : Nat) (u : Value) : St W (w.setCell ⟨g, i, none⟩ u) (aBlk g t (cs.setIfInBounds i u) :: L) := by
  obtain ⟨own, h1, h2, h3⟩ := h.focus
  exact h3 _ (aBlk g t (cs.setIfInBounds i u)) ((Ext.refl own w).set (p := ⟨g, i, none⟩) (fun _ => h1.1) _) ⟨.inl h1.1, h1.2.set_ i u⟩
theorem aBlk.get {W w : World} {L : List Asn} {g : Nat} {t : TypeId} {cs : Array Value} (h : St W w (aBlk g t cs :: L)) : Blk w g t cs := by
  obtain ⟨own, h1, h2⟩ := h.get; exact h1.2
/-- a byte slice in blocks of its own -/
def aBs (v : Value) (b : List UInt8) : Asn where
  at_ own w := Bs w v b ∧ ∀ g, v.ownBlock = some g → b ≠ [] → own g
  ext h hx hd := ⟨h.1.ext hx (fun g hg hne => hd g (h.2 g hg hne)), h.2⟩
  bound h := ⟨h.1, fun g hg hne => ⟨h.2 g hg hne, h.1.lt hne hg⟩⟩
/-- a row of its own -/
def aRow (e : TypeId) (sz : Nat) (v : Value) (n : Nat) (xs : List Value) : Asn where
  at_ own w := w.ownsRow 0 e sz v n xs ∧ ∀ g, v.ownBlock = some g → own g
  ext h hx hd := ⟨row_ext h.1 hx (fun g hg => hd g (h.2 g hg)), h.2⟩
  bound h := ⟨h.1, fun g hg => ⟨h.2 g hg, row_lt h.1 hg⟩⟩
end Go.Proofs.Ytnpjfjgnhadmjaa

/- Objects in any order; many objects as one; a map as an object. No program here. -/
namespace Go.Proofs.Ytnpjfjgnhadmjaa
open Go.RowKit
set_option linter.unusedVariables false

theorem Sep.perm {w : World} {L L' : List Asn} (hp : L.Perm L') : ∀ {U : Nat → Prop}, Sep w U L → Sep w U L' := by
  induction hp with
  | nil => intro U h; exact h
  | cons A _ ih =>
    intro U h
    obtain ⟨own, h1, h2, h3⟩ := h
    exact ⟨own, h1, h2, ih h3⟩
  | swap A C L => intro U h; exact h.swap
  | trans _ _ ih1 ih2 => intro U h; exact ih2 (ih1 h)
theorem St.perm {W w : World} {L L' : List Asn} (h : St W w L) (hp : L.Perm L') : St W w L' := ⟨h.1, h.2.perm hp⟩
theorem Sep.append {w : World} {L' : List Asn} : ∀ {L : List Asn} {U : Nat → Prop}, Sep w U (L ++ L') → ∃ own : Nat → Prop, (∀ b, own b → U b ∧ b < w.heap.size) ∧ Sep w own L ∧ Sep w (fun b => U b ∧ ¬ own b) L'
  | [], U, h => ⟨fun _ => False, fun b hb => hb.elim, trivial, h.mono fun b _ hb => ⟨hb, id⟩⟩
  | A :: L, U, h => by
    obtain ⟨o, h1, h2, h3⟩ := h
    obtain ⟨o', k1, k2, k3⟩ := Sep.append h3
    refine ⟨fun b => o b ∨ o' b, fun b hb => hb.elim (fun e => h1 b e) (fun e => ⟨(k1 b e).1.1, (k1 b e).2⟩), ⟨o, fun b hb => ⟨.inl hb, (h1 b hb).2⟩, h2, k2.mono fun b _ hb => ⟨.inr hb, (k1 b hb).1.2⟩⟩, k3.mono fun b _ hb => ⟨hb.1.1, fun e => e.elim hb.1.2 hb.2⟩⟩
theorem Sep.join {w : World} {L' : List Asn} : ∀ {L : List Asn} {U own : Nat → Prop}, (∀ b, own b → U b) → Sep w own L → Sep w (fun b => U b ∧ ¬ own b) L' → Sep w U (L ++ L')
  | [], U, own, h0, h, h' => h'.mono fun b _ hb => hb.1
  | A :: L, U, own, h0, h, h' => by
    obtain ⟨o, h1, h2, h3⟩ := h
    refine ⟨o, fun b hb => ⟨h0 b (h1 b hb).1, (h1 b hb).2⟩, h2, Sep.join (own := fun b => own b ∧ ¬ o b) (fun b hb => ⟨h0 b hb.1, hb.2⟩) h3 (h'.mono fun b _ hb => ⟨⟨hb.1, fun e => hb.2 (h1 b e).1⟩, fun e => hb.2 e.1⟩)⟩
/-- an object that is many, for some datum -/
def aSome {α : Type} (P : α → Prop) (F : α → List Asn) : Asn where
  at_ own w := ∃ a, P a ∧ Sep w own (F a)
  ext h hx hd := by
    obtain ⟨a, ha, h⟩ := h
    exact ⟨a, ha, (h.ext hx (fun b _ hb => hd b hb)).mono fun b _ hb => hb.1⟩
  bound h := by
    obtain ⟨a, ha, h⟩ := h
    exact ⟨a, ha, h.mono fun b hl hb => ⟨hb, hl⟩⟩
theorem St.open_ {W w : World} {α : Type} {P : α → Prop} {F : α → List Asn} {L : List Asn} (h : St W w (aSome P F :: L)) : ∃ a, P a ∧ St W w (F a ++ L) := by
  obtain ⟨hb, own, h1, ⟨a, ha, h2⟩, h3⟩ := h
  exact ⟨a, ha, hb, Sep.join (fun b hb => (h1 b hb).1) h2 h3⟩
theorem St.shut {W w : World} {α : Type} {P : α → Prop} {F : α → List Asn} {L : List Asn} {a : α} (ha : P a) (h : St W w (F a ++ L)) : St W w (aSome P F :: L) := by
  obtain ⟨hb, h⟩ := h
  obtain ⟨own, h1, h2, h3⟩ := Sep.append h
  exact ⟨hb, own, h1, ⟨a, ha, h2⟩, h3⟩
theorem perm_pick {α : Type} {L : List α} {i : Nat} {a : α} (h : L[i]? = some a) : L.Perm (a :: (L.take i ++ L.drop (i + 1))) := by
  have hi : i < L.length := by
    rcases Nat.lt_or_ge i L.length with h' | h'
    · exact h'
    · rw [List.getElem?_eq_none h'] at h; cases h
  have e : L[i] = a := by rw [List.getElem?_eq_getElem hi] at h; exact Option.some.inj h
  have h2 : L = L.take i ++ (a :: L.drop (i + 1)) := by
    rw [← e, ← List.drop_eq_getElem_cons hi, List.take_append_drop]
  conv => lhs; rw [h2]
  exact List.perm_middle
/-- elements that are pointers read as their blocks' numbers -/
def ptrElem : Value → Option (DataW Unit × List MemPlace)
  | .pointer none => some (.nil, [])
  | .pointer (some ⟨g, 0, none⟩) => some (.lit (.int .i64 (g : Int)), [])
  | _ => none
theorem ptrElem_inv {v : Value} {g : Nat} {ps : List MemPlace} (h : ptrElem v = some (.lit (.int .i64 (g : Int)), ps)) : v = .pointer (some ⟨g, 0, none⟩) := by
  unfold ptrElem at h
  split at h
  · cases h
  · rename_i g'
    simp at h
    have : g' = g := by omega
    rw [this]
  · cases h
end Go.Proofs.Ytnpjfjgnhadmjaa

/- A disk in plain Lean: files in rising order of their names; what each call answers and leaves. -/
namespace Go.Proofs.Ytnpjfjgnhadmjaa
set_option linter.unusedVariables false

/-- a file: its name, its bytes, how many are synced -/
structure Fl where
  nm : List UInt8
  b : List UInt8
  sure : Nat
/-- a disk -/
structure Dk where
  R : List Fl
  room : Int
  off : Bool
def ixF (n : List UInt8) : List Fl → Option Nat
  | [] => none
  | f :: r => if f.nm = n then some 0 else (ixF n r).map (· + 1)
def posF (n : List UInt8) : List Fl → Nat
  | [] => 0
  | f :: r => if bytesBefore f.nm n then posF n r + 1 else 0
def usedF (R : List Fl) : Nat := (R.map (fun f => f.b.length)).sum
def mayF (d : Dk) (n : List UInt8) : Option Nat × Int := if d.off then (none, 32) else match ixF n d.R with | none => (none, 4) | some i => (some i, 0)
def createF (d : Dk) (n : List UInt8) : Int × Dk :=
  if d.off then (32, d) else if n = [] then (1, d) else if (ixF n d.R).isSome then (31, d) else if 64 ≤ d.R.length then (6, d) else
    (0, { d with R := d.R.take (posF n d.R) ++ ⟨n, [], 0⟩ :: d.R.drop (posF n d.R) })
/-- the i-th file turned -/
def turnF (d : Dk) (n : List UInt8) (g : Fl → Int × Fl) : Int × Dk :=
  match mayF d n with
  | (some i, _) => match d.R[i]? with
    | some f => ((g f).1, { d with R := d.R.set i (g f).2 })
    | none => (0, d)
  | (none, e) => (e, d)
def writeB (d : Dk) (at_ : Int) (b : List UInt8) (f : Fl) : Int × Fl :=
  if at_ < 0 ∨ (f.b.length : Int) < at_ then (1, f)
  else if d.room - usedF d.R < (b.length : Int) - ((f.b.length : Int) - at_) then (30, f)
  else (0, ⟨f.nm, f.b.take at_.toNat ++ b ++ f.b.drop (at_.toNat + b.length), min f.sure at_.toNat⟩)
def writeF (d : Dk) (n : List UInt8) (at_ : Int) (b : List UInt8) : Int × Dk := turnF d n (writeB d at_ b)
def appendF (d : Dk) (n b : List UInt8) : Int × Dk := turnF d n fun f => if d.room - usedF d.R < (b.length : Int) then (30, f) else (0, ⟨f.nm, f.b ++ b, f.sure⟩)
def syncF (d : Dk) (n : List UInt8) : Int × Dk := turnF d n fun f => (0, ⟨f.nm, f.b, f.b.length⟩)
def truncF (d : Dk) (n : List UInt8) (k : Int) : Int × Dk := turnF d n fun f => if k < 0 ∨ (f.b.length : Int) < k then (1, f) else (0, ⟨f.nm, f.b.take k.toNat, min f.sure k.toNat⟩)
def dropF (n : List UInt8) (R : List Fl) : List Fl := match ixF n R with | some i => R.take i ++ R.drop (i + 1) | none => R
def insF (f : Fl) (R : List Fl) : List Fl := R.take (posF f.nm R) ++ f :: R.drop (posF f.nm R)
def removeF (d : Dk) (n : List UInt8) : Int × Dk :=
  match mayF d n with
  | (some i, _) => (0, { d with R := d.R.take i ++ d.R.drop (i + 1) })
  | (none, e) => (e, d)
def renameF (d : Dk) (n to : List UInt8) : Int × Dk :=
  match mayF d n with
  | (some i, _) => match d.R[i]? with
    | some f => if to = [] then (1, d) else if to = n then (0, d) else (0, { d with R := insF ⟨to, f.b, f.sure⟩ (dropF to (dropF n d.R)) })
    | none => (0, d)
  | (none, e) => (e, d)
def getF (d : Dk) (n : List UInt8) : List UInt8 × Int :=
  match mayF d n with
  | (some i, _) => ((d.R[i]?.map Fl.b).getD [], 0)
  | (none, e) => ([], e)
def syncedF (d : Dk) (n : List UInt8) : Nat × Int :=
  match mayF d n with
  | (some i, _) => ((d.R[i]?.map Fl.sure).getD 0, 0)
  | (none, e) => (0, e)
def bareF (k : Int) : Int := if k = -9223372036854775808 then 0 else if k < 0 then -k else k
def crashB (k : Int) (f : Fl) : Fl :=
  let m := f.sure + (bareF k % ((f.b.length : Int) - f.sure + 1)).toNat
  ⟨f.nm, f.b.take m, m⟩
def crashF (d : Dk) (k : Int) : Int × Dk := if d.off then (32, d) else (0, { d with R := d.R.map (crashB k), off := true })
def restartF (d : Dk) : Int × Dk := if d.off then (0, { d with off := false }) else (1, d)

/-- what is true of every disk -/
structure Dk.ok (d : Dk) : Prop where
  rise : d.R.Pairwise (fun a b => bytesBefore a.nm b.nm = true)
  sure : ∀ f ∈ d.R, f.sure ≤ f.b.length
  used : (usedF d.R : Int) ≤ d.room
  room : 0 ≤ d.room ∧ d.room ≤ 4194304
  many : d.R.length ≤ 64

theorem ixF_some {n : List UInt8} : ∀ {R : List Fl} {i : Nat}, ixF n R = some i → ∃ f, R[i]? = some f ∧ f.nm = n ∧ ∀ j, j < i → ∀ g, R[j]? = some g → g.nm ≠ n
  | [], i, h => by simp [ixF] at h
  | f :: r, i, h => by
    unfold ixF at h
    split at h
    · rename_i e
      simp at h; subst h
      exact ⟨f, rfl, e, fun j hj => by omega⟩
    · rename_i e
      cases hr : ixF n r with
      | none => rw [hr] at h; simp at h
      | some k =>
        rw [hr] at h
        simp at h
        subst h
        obtain ⟨g, h1, h2, h3⟩ := ixF_some hr
        refine ⟨g, by simpa using h1, h2, fun j hj x hx => ?_⟩
        cases j with
        | zero => simp at hx; rw [← hx]; exact e
        | succ j => exact h3 j (by omega) x (by simpa using hx)
theorem ixF_none {n : List UInt8} : ∀ {R : List Fl}, ixF n R = none → ∀ f ∈ R, f.nm ≠ n
  | [], h, f, hf => by simp at hf
  | x :: r, h, f, hf => by
    unfold ixF at h
    split at h
    · simp at h
    · rename_i e
      simp at h
      rcases List.mem_cons.1 hf with rfl | hf
      · exact e
      · exact ixF_none h f hf
theorem bb_irr : ∀ a : List UInt8, bytesBefore a a = false
  | [] => rfl
  | a :: r => by simp [bytesBefore, bb_irr r]
theorem bb_trans : ∀ a b c : List UInt8, bytesBefore a b = true → bytesBefore b c = true → bytesBefore a c = true
  | [], [], _, h, _ => by simp [bytesBefore] at h
  | [], _ :: _, [], _, h => by simp [bytesBefore] at h
  | [], _ :: _, _ :: _, _, _ => rfl
  | _ :: _, [], _, h, _ => by simp [bytesBefore] at h
  | _ :: _, _ :: _, [], _, h => by simp [bytesBefore] at h
  | a :: r, b :: s, c :: t, h, k => by
    simp only [bytesBefore, Bool.or_eq_true, Bool.and_eq_true, decide_eq_true_eq, beq_iff_eq] at h k ⊢
    rcases h with h | ⟨rfl, h⟩
    · rcases k with k | ⟨rfl, k⟩
      · exact .inl (UInt8.lt_trans h k)
      · exact .inl h
    · rcases k with k | ⟨rfl, k⟩
      · exact .inl k
      · exact .inr ⟨rfl, bb_trans r s t h k⟩
theorem bb_tri : ∀ a b : List UInt8, bytesBefore a b = true ∨ a = b ∨ bytesBefore b a = true
  | [], [] => .inr (.inl rfl)
  | [], _ :: _ => .inl rfl
  | _ :: _, [] => .inr (.inr rfl)
  | a :: r, b :: s => by
    simp only [bytesBefore, Bool.or_eq_true, Bool.and_eq_true, decide_eq_true_eq, beq_iff_eq]
    rcases Nat.lt_trichotomy a.toNat b.toNat with h | h | h
    · exact .inl (.inl (UInt8.lt_iff_toNat_lt.2 h))
    · obtain rfl := UInt8.toNat_inj.1 h
      rcases bb_tri r s with k | k | k
      · exact .inl (.inr ⟨rfl, k⟩)
      · subst k; exact .inr (.inl rfl)
      · exact .inr (.inr (.inr ⟨rfl, k⟩))
    · exact .inr (.inr (.inl (UInt8.lt_iff_toNat_lt.2 h)))
theorem posF_le (n : List UInt8) : ∀ R : List Fl, posF n R ≤ R.length
  | [] => Nat.le_refl _
  | f :: r => by unfold posF; split <;> simp <;> have := posF_le n r <;> omega
theorem posF_lt (n : List UInt8) : ∀ (R : List Fl) (j : Nat) (f : Fl), j < posF n R → R[j]? = some f → bytesBefore f.nm n = true
  | [], j, f, h, _ => by simp [posF] at h
  | x :: r, j, f, h, hj => by
    unfold posF at h
    split at h
    · rename_i e
      cases j with
      | zero => simp at hj; rw [← hj]; exact e
      | succ j => exact posF_lt n r j f (by omega) (by simpa using hj)
    · omega
theorem posF_at (n : List UInt8) : ∀ (R : List Fl) (f : Fl), R[posF n R]? = some f → bytesBefore f.nm n = false
  | [], f, h => by simp [posF] at h
  | x :: r, f, h => by
    unfold posF at h
    split at h
    · exact posF_at n r f (by simpa using h)
    · rename_i e
      simp at h; rw [← h]; simpa using e
theorem ins_rise {R : List Fl} (h : R.Pairwise (fun a b => bytesBefore a.nm b.nm = true)) (f : Fl) (hn : ∀ g ∈ R, g.nm ≠ f.nm) : (insF f R).Pairwise (fun a b => bytesBefore a.nm b.nm = true) := by
  unfold insF
  induction R with
  | nil => simp [posF]
  | cons x r ih =>
    rw [List.pairwise_cons] at h
    unfold posF
    split
    · rename_i e
      simp only [List.take_succ_cons, List.drop_succ_cons, List.cons_append, List.pairwise_cons]
      refine ⟨fun g hg => ?_, ih h.2 (fun g hg => hn g (List.mem_cons_of_mem _ hg))⟩
      rcases List.mem_append.1 hg with hg | hg
      · exact h.1 g (List.mem_of_mem_take hg)
      · rcases List.mem_cons.1 hg with rfl | hg
        · exact e
        · exact h.1 g (List.mem_of_mem_drop hg)
    · rename_i e
      simp only [List.take_zero, List.drop_zero, List.nil_append, List.pairwise_cons]
      have hx : bytesBefore f.nm x.nm = true := by
        rcases bb_tri f.nm x.nm with k | k | k
        · exact k
        · exact absurd k.symm (hn x (by simp))
        · exact absurd k e
      refine ⟨fun g hg => ?_, h⟩
      rcases List.mem_cons.1 hg with rfl | hg
      · exact hx
      · exact bb_trans _ _ _ hx (h.1 g hg)
theorem drop_rise {R : List Fl} (h : R.Pairwise (fun a b => bytesBefore a.nm b.nm = true)) (i : Nat) : (R.take i ++ R.drop (i + 1)).Pairwise (fun a b => bytesBefore a.nm b.nm = true) := by
  refine h.sublist ?_
  conv => rhs; rw [← List.take_append_drop i R]
  refine List.Sublist.append (List.Sublist.refl _) ?_
  rw [← List.tail_drop]
  exact List.tail_sublist _
theorem set_rise {R : List Fl} (h : R.Pairwise (fun a b => bytesBefore a.nm b.nm = true)) {i : Nat} {f g : Fl} (hi : R[i]? = some f) (hn : g.nm = f.nm) : (R.set i g).Pairwise (fun a b => bytesBefore a.nm b.nm = true) := by
  have e : (R.set i g).map Fl.nm = R.map Fl.nm := by
    rw [List.map_set]
    apply List.ext_getElem?
    intro j
    rw [List.getElem?_set]
    split
    · rename_i e
      subst e
      have hl : i < R.length := by
        rcases Nat.lt_or_ge i R.length with h' | h'
        · exact h'
        · rw [List.getElem?_eq_none h'] at hi; cases hi
      rw [if_pos (by simpa using hl), List.getElem?_map, hi, hn]; rfl
    · rfl
  have h2 : (R.map Fl.nm).Pairwise (fun a b => bytesBefore a b = true) := List.pairwise_map.2 h
  rw [← e] at h2
  exact List.pairwise_map.1 h2
theorem used_set {R : List Fl} {i : Nat} {f g : Fl} (hi : R[i]? = some f) : usedF (R.set i g) + f.b.length = usedF R + g.b.length := by
  unfold usedF
  induction R generalizing i with
  | nil => simp at hi
  | cons x r ih =>
    cases i with
    | zero => simp at hi; subst hi; simp; omega
    | succ i => have := ih (by simpa using hi); simp only [List.set_cons_succ, List.map_cons, List.sum_cons]; omega
theorem used_drop {R : List Fl} {i : Nat} {f : Fl} (hi : R[i]? = some f) : usedF (R.take i ++ R.drop (i + 1)) + f.b.length = usedF R := by
  unfold usedF
  induction R generalizing i with
  | nil => simp at hi
  | cons x r ih =>
    cases i with
    | zero => simp at hi; subst hi; simp; omega
    | succ i => have := ih (by simpa using hi); simp only [List.take_succ_cons, List.drop_succ_cons, List.cons_append, List.map_cons, List.sum_cons]; omega
theorem used_ins (f : Fl) (R : List Fl) : usedF (insF f R) = usedF R + f.b.length := by
  unfold insF usedF
  have h : (R.take (posF f.nm R)).map (fun f => f.b.length) ++ (R.drop (posF f.nm R)).map (fun f => f.b.length) = R.map (fun f => f.b.length) := by rw [← List.map_append, List.take_append_drop]
  have h2 := congrArg List.sum h
  rw [List.sum_append] at h2
  rw [List.map_append, List.map_cons, List.sum_append, List.sum_cons]
  omega

theorem may_some {d : Dk} {n : List UInt8} {i : Nat} {e : Int} (h : mayF d n = (some i, e)) : e = 0 ∧ d.off = false ∧ ∃ f, d.R[i]? = some f ∧ f.nm = n := by
  unfold mayF at h
  split at h
  · simp at h
  · rename_i ho
    split at h
    · simp at h
    · rename_i k hk
      simp at h
      obtain ⟨rfl, rfl⟩ := h
      obtain ⟨f, h1, h2, _⟩ := ixF_some hk
      exact ⟨rfl, by simpa using ho, f, h1, h2⟩
theorem may_none {d : Dk} {n : List UInt8} {e : Int} (h : mayF d n = (none, e)) : e ≠ 0 := by
  unfold mayF at h
  split at h
  · simp at h; omega
  · split at h
    · simp at h; omega
    · simp at h
theorem mem_set {R : List Fl} {i : Nat} {f g : Fl} (h : g ∈ R.set i f) : g ∈ R ∨ g = f := by
  rcases List.mem_or_eq_of_mem_set h with h | h
  · exact .inl h
  · exact .inr h
theorem turn_ok {d : Dk} (h : d.ok) (n : List UInt8) (g : Fl → Int × Fl) (hg : ∀ f ∈ d.R, (g f).2.nm = f.nm ∧ (g f).2.sure ≤ (g f).2.b.length ∧ (usedF d.R : Int) + (g f).2.b.length - f.b.length ≤ d.room) : (turnF d n g).2.ok := by
  unfold turnF
  split
  · rename_i i e hm
    obtain ⟨_, _, f, hf, _⟩ := may_some hm
    rw [hf]
    simp only
    obtain ⟨h1, h2, h3⟩ := hg f (List.mem_of_getElem? hf)
    refine ⟨set_rise h.rise hf h1, fun x hx => ?_, ?_, h.room, ?_⟩
    · rcases mem_set hx with hx | rfl
      · exact h.sure x hx
      · exact h2
    · have := used_set (g := (g f).2) hf
      show (usedF (d.R.set i (g f).2) : Int) ≤ d.room
      omega
    · show (d.R.set i (g f).2).length ≤ 64
      rw [List.length_set]; exact h.many
  · exact h
theorem write_ok {d : Dk} (h : d.ok) (n : List UInt8) (k : Int) (b : List UInt8) : (writeF d n k b).2.ok := by
  refine turn_ok h n _ fun f hf => ?_
  have hs := h.sure f hf
  have hu := h.used
  unfold writeB
  split
  · exact ⟨rfl, hs, by simp only; omega⟩
  · split
    · exact ⟨rfl, hs, by simp only; omega⟩
    · rename_i h1 h2
      refine ⟨rfl, ?_, ?_⟩
      · simp only [List.length_append, List.length_take, List.length_drop]; omega
      · simp only [List.length_append, List.length_take, List.length_drop]
        by_cases hc : f.b.length ≤ k.toNat + b.length
        · omega
        · omega
theorem append_ok {d : Dk} (h : d.ok) (n b : List UInt8) : (appendF d n b).2.ok := by
  refine turn_ok h n _ fun f hf => ?_
  have hs := h.sure f hf
  have hu := h.used
  split
  · exact ⟨rfl, hs, by simp only; omega⟩
  · exact ⟨rfl, by simp only [List.length_append]; omega, by simp only [List.length_append]; omega⟩
theorem sync_ok {d : Dk} (h : d.ok) (n : List UInt8) : (syncF d n).2.ok := by
  refine turn_ok h n _ fun f hf => ?_
  have hu := h.used
  exact ⟨rfl, Nat.le_refl _, by simp only; omega⟩
theorem trunc_ok {d : Dk} (h : d.ok) (n : List UInt8) (k : Int) : (truncF d n k).2.ok := by
  refine turn_ok h n _ fun f hf => ?_
  have hs := h.sure f hf
  have hu := h.used
  split
  · exact ⟨rfl, hs, by simp only; omega⟩
  · exact ⟨rfl, by simp only [List.length_take]; omega, by simp only [List.length_take]; omega⟩
theorem ixF_isNone {n : List UInt8} {R : List Fl} (h : (ixF n R).isSome = false) : ∀ f ∈ R, f.nm ≠ n := ixF_none (by simpa using h)
theorem create_ok {d : Dk} (h : d.ok) (n : List UInt8) : (createF d n).2.ok := by
  unfold createF
  split
  · exact h
  · split
    · exact h
    · split
      · exact h
      · split
        · exact h
        · rename_i h1 h2 h3 h4
          have hi : insF ⟨n, [], 0⟩ d.R = d.R.take (posF n d.R) ++ ⟨n, [], 0⟩ :: d.R.drop (posF n d.R) := rfl
          rw [← hi]
          have hlen : (insF ⟨n, [], 0⟩ d.R).length = d.R.length + 1 := by
            have := posF_le n d.R
            rw [hi]; simp; omega
          refine ⟨ins_rise h.rise _ (ixF_isNone (by simpa using h3)), fun f hf => ?_, ?_, h.room, ?_⟩
          · rw [hi] at hf
            rcases List.mem_append.1 hf with hf | hf
            · exact h.sure f (List.mem_of_mem_take hf)
            · rcases List.mem_cons.1 hf with rfl | hf
              · exact Nat.le_refl _
              · exact h.sure f (List.mem_of_mem_drop hf)
          · show ((usedF (insF ⟨n, [], 0⟩ d.R) : Nat) : Int) ≤ d.room
            rw [used_ins]; have := h.used; simp; omega
          · show (insF ⟨n, [], 0⟩ d.R).length ≤ 64
            omega
theorem dropF_le (n : List UInt8) (R : List Fl) : (dropF n R).length ≤ R.length ∧ usedF (dropF n R) ≤ usedF R ∧ (∀ f ∈ dropF n R, f ∈ R) := by
  unfold dropF
  split
  · rename_i i hi
    obtain ⟨f, h1, _, _⟩ := ixF_some hi
    have := used_drop h1
    refine ⟨by simp; omega, by omega, fun f hf => ?_⟩
    rcases List.mem_append.1 hf with hf | hf
    · exact List.mem_of_mem_take hf
    · exact List.mem_of_mem_drop hf
  · exact ⟨Nat.le_refl _, Nat.le_refl _, fun f h => h⟩
theorem dropF_rise {R : List Fl} (h : R.Pairwise (fun a b => bytesBefore a.nm b.nm = true)) (n : List UInt8) : (dropF n R).Pairwise (fun a b => bytesBefore a.nm b.nm = true) := by
  unfold dropF
  split
  · exact drop_rise h _
  · exact h
theorem dropF_not {R : List Fl} (h : R.Pairwise (fun a b => bytesBefore a.nm b.nm = true)) (n : List UInt8) : ∀ f ∈ dropF n R, f.nm ≠ n := by
  unfold dropF
  split
  · rename_i i hi
    obtain ⟨g, h1, h2, h3⟩ := ixF_some hi
    intro f hf e
    rcases List.mem_append.1 hf with hf | hf
    · obtain ⟨j, hj, e2⟩ := List.mem_iff_getElem.1 hf
      have hj' : j < i ∧ j < R.length := by
        have : j < min i R.length := by simpa using hj
        omega
      exact h3 j hj'.1 f (by rw [List.getElem?_eq_getElem hj'.2, ← e2]; simp) e
    · obtain ⟨j, hj, e2⟩ := List.mem_iff_getElem.1 hf
      have hj' : i + 1 + j < R.length := by simp at hj; omega
      have hi' : i < R.length := by omega
      rw [List.pairwise_iff_getElem] at h
      have := h i (i + 1 + j) hi' hj' (by omega)
      rw [List.getElem_drop] at e2
      rw [List.getElem?_eq_getElem hi'] at h1
      injection h1 with h1
      rw [h1, e2, h2, e, bb_irr] at this
      cases this
  · rename_i hi
    exact ixF_none hi
theorem remove_ok {d : Dk} (h : d.ok) (n : List UInt8) : (removeF d n).2.ok := by
  unfold removeF
  split
  · rename_i i e hm
    obtain ⟨_, _, f, hf, _⟩ := may_some hm
    have hu := used_drop hf
    have := h.used
    refine ⟨drop_rise h.rise i, fun x hx => ?_, ?_, h.room, ?_⟩
    · rcases List.mem_append.1 hx with hx | hx
      · exact h.sure x (List.mem_of_mem_take hx)
      · exact h.sure x (List.mem_of_mem_drop hx)
    · show ((usedF (d.R.take i ++ d.R.drop (i + 1)) : Nat) : Int) ≤ d.room
      omega
    · show (d.R.take i ++ d.R.drop (i + 1)).length ≤ 64
      have := h.many; simp; omega
  · exact h
theorem rename_ok {d : Dk} (h : d.ok) (n to : List UInt8) : (renameF d n to).2.ok := by
  unfold renameF
  split
  · rename_i i e hm
    obtain ⟨_, _, f, hf, hfn⟩ := may_some hm
    rw [hf]
    simp only
    split
    · exact h
    · split
      · exact h
      · have hix : ixF n d.R = some i := by
          unfold mayF at hm
          split at hm
          · simp at hm
          · split at hm
            · simp at hm
            · rename_i k hk; simp at hm; rw [hk, hm.1]
        have hd1 : dropF n d.R = d.R.take i ++ d.R.drop (i + 1) := by unfold dropF; rw [hix]
        have hu1 := used_drop hf
        have hl1 : (dropF n d.R).length + 1 ≤ d.R.length := by
          have hi : i < d.R.length := by
            rcases Nat.lt_or_ge i d.R.length with h' | h'
            · exact h'
            · rw [List.getElem?_eq_none h'] at hf; cases hf
          rw [hd1]; simp; omega
        have h2 := dropF_le to (dropF n d.R)
        have h1 := dropF_le n d.R
        have hpos := posF_le to (dropF to (dropF n d.R))
        have hm' := h.many
        have hu' := h.used
        refine ⟨ins_rise (dropF_rise (dropF_rise h.rise n) to) _ (dropF_not (dropF_rise h.rise n) to), fun x hx => ?_, ?_, h.room, ?_⟩
        · unfold insF at hx
          rcases List.mem_append.1 hx with hx | hx
          · exact h.sure x (h1.2.2 x (h2.2.2 x (List.mem_of_mem_take hx)))
          · rcases List.mem_cons.1 hx with rfl | hx
            · exact h.sure f (List.mem_of_getElem? hf)
            · exact h.sure x (h1.2.2 x (h2.2.2 x (List.mem_of_mem_drop hx)))
        · show ((usedF (insF ⟨to, f.b, f.sure⟩ (dropF to (dropF n d.R))) : Nat) : Int) ≤ d.room
          rw [used_ins, hd1] at *
          simp only
          have := h2.2.1
          rw [hd1] at this
          omega
        · show (insF ⟨to, f.b, f.sure⟩ (dropF to (dropF n d.R))).length ≤ 64
          unfold insF
          simp only [List.length_append, List.length_cons, List.length_take, List.length_drop]
          omega
  · exact h
theorem crashB_ok (k : Int) {f : Fl} (h : f.sure ≤ f.b.length) : (crashB k f).nm = f.nm ∧ (crashB k f).sure = (crashB k f).b.length ∧ (crashB k f).b.length ≤ f.b.length ∧ f.sure ≤ (crashB k f).b.length := by
  have hb : 0 ≤ bareF k := by unfold bareF; split <;> (try split) <;> omega
  have h1 := Int.emod_nonneg (bareF k) (b := (f.b.length : Int) - f.sure + 1) (by omega)
  have h2 := Int.emod_lt_of_pos (bareF k) (b := (f.b.length : Int) - f.sure + 1) (by omega)
  unfold crashB
  simp only [List.length_take]
  refine ⟨trivial, ?_, ?_, ?_⟩ <;> omega
theorem crash_ok {d : Dk} (h : d.ok) (k : Int) : (crashF d k).2.ok := by
  unfold crashF
  split
  · exact h
  · have hu : ∀ R : List Fl, (∀ f ∈ R, f.sure ≤ f.b.length) → usedF (R.map (crashB k)) ≤ usedF R := by
      intro R
      induction R with
      | nil => intro _; exact Nat.le_refl _
      | cons x r ih =>
        intro hs
        have h1 := (crashB_ok k (hs x (by simp))).2.2.1
        have h2 := ih (fun f hf => hs f (List.mem_cons_of_mem _ hf))
        unfold usedF at h2 ⊢
        simp only [List.map_cons, List.sum_cons]
        omega
    refine ⟨?_, fun f hf => ?_, ?_, h.room, ?_⟩
    · refine List.pairwise_map.2 (h.rise.imp_of_mem fun {a b} ha hb hab => ?_)
      rw [(crashB_ok k (h.sure a ha)).1, (crashB_ok k (h.sure b hb)).1]; exact hab
    · obtain ⟨g, hg, rfl⟩ := List.mem_map.1 hf
      have := (crashB_ok k (h.sure g hg)).2.1; omega
    · have := hu d.R h.sure; have := h.used; show ((usedF (d.R.map (crashB k)) : Nat) : Int) ≤ d.room; omega
    · show (d.R.map (crashB k)).length ≤ 64
      rw [List.length_map]; exact h.many
theorem restart_ok {d : Dk} (h : d.ok) : (restartF d).2.ok := by
  unfold restartF
  split
  · exact ⟨h.rise, h.sure, h.used, h.room, h.many⟩
  · exact h
end Go.Proofs.Ytnpjfjgnhadmjaa

/- A map of pointers as an object; the loop over it. No program here. -/
namespace Go.Proofs.Ytnpjfjgnhadmjaa
open Go.RowKit Go.Maps
set_option linter.unusedVariables false

/-- what a map of files reads as -/
def dOf (E : List (Fl × Nat)) : DataW Unit := .map (E.map fun x => (.string x.1.nm, .lit (.int .i64 (x.2 : Int))))
def aMap (P : Program) (k : TypeId) (m : Nat) (D : DataW Unit) : Asn where
  at_ own w := own m ∧ ∃ n, w.ownsMap P k ptrElem m n D
  ext h hx hd := by
    obtain ⟨h1, n, es, clock, hb, r⟩ := h
    exact ⟨h1, n, es, clock, (hx.block m (Array.getElem?_eq_some_iff.1 hb).1 (hd _ h1)).trans hb, r⟩
  bound h := by
    obtain ⟨h1, n, h2⟩ := h
    exact ⟨⟨h1, h2.lt⟩, n, h2⟩
/-- a loop over it under way -/
def aRange (P : Program) (k : TypeId) (m r : Nat) (D : DataW Unit) (left : Lit → Bool) (cnt : Nat) : Asn where
  at_ own w := own m ∧ own r ∧ ∃ n, w.ranges P k ptrElem m r n D left cnt
  ext h hx hd := by
    obtain ⟨h1, h2, n, es, clock, since, seen, c0, hb, F, hs, hD, hr, rest⟩ := h
    exact ⟨h1, h2, n, es, clock, since, seen, c0, (hx.block m (Array.getElem?_eq_some_iff.1 hb).1 (hd _ h1)).trans hb, F, hs, hD, (hx.block r (Array.getElem?_eq_some_iff.1 hr).1 (hd _ h2)).trans hr, rest⟩
  bound h := by
    obtain ⟨h1, h2, n, h3⟩ := h
    exact ⟨⟨h1, h3.owns.lt⟩, ⟨h2, h3.lt⟩, n, h3⟩
theorem Ext.of_grown {w w' : World} {row : Option Nat} {own : Nat → Prop} (h : w.grownBy w' row) (hr : ∀ g, row = some g → own g) : Ext own w w' :=
  (Ext.refl own w).grown h (fun g hg _ => hr g hg)
/-- the tightest bound -/
theorem ownsMap_tight {H : Type} {w : World} {P : Program} {k : TypeId} {R : Value → Option (DataW H × List MemPlace)} {m n : Nat} {L : List (Lit × DataW H)} (h : w.ownsMap P k R m n (.map L)) : w.ownsMap P k R m L.length (.map L) := by
  obtain ⟨es, clock, hb, F, hs, hD⟩ := h
  refine ⟨es, clock, hb, F, ?_, hD⟩
  injection hD with hD
  rw [hD, length_sorted]; simp
section
variable {W w : World} {P : Program} {k e T : TypeId} {m : Nat} {D : DataW Unit} {L : List Asn}
theorem aMap.new (h : St W w L) : St W (w.alloc (.map #[] 0)) (aMap P k w.heap.size (.map []) :: L) :=
  h.add (B.alloc' _ _) (A := aMap P k w.heap.size (.map [])) (own := fun x => x = w.heap.size) ⟨rfl, 0, World.ownsMap_made w P k ptrElem⟩ (fun x e => by omega)
theorem aMap.get (h : St W w (aMap P k m D :: L)) : ∃ n, w.ownsMap P k ptrElem m n D := by
  obtain ⟨own, h1, h2⟩ := h.get
  exact h1.2
theorem aMap.look (h : St W w (aMap P k m D :: L)) (K : Keyed P k) (ht : P.underlying T = some (.map k e)) (hz : (zeroValue e).run P w = .ok (.pointer none) w) {key : Value} {kl : Lit} (hkey : keyOf P k key = some kl) :
    ∃ v ps, (Instr.lookup T (.map (some m)) key false).run P w = .ok v w ∧ ptrElem v = some (D.atKey kl .nil, ps) := by
  obtain ⟨n, hn⟩ := aMap.get h
  exact hn.lookup K ht hz (zp := []) rfl hkey
theorem aMap.len (h : St W w (aMap P k m D :: L)) (ht : P.underlying T = some (.map k e)) (ty : TypeId) : (Builtin.len_ #[T] ty #[.map (some m)]).run P w = .ok (.int .i64 (size D)) w := by
  obtain ⟨n, hn⟩ := aMap.get h
  exact hn.len ht ty
theorem aMap.store (h : St W w (aMap P k m D :: L)) (hD : ∃ E, D = .map E ∧ E.length < maxLen) (K : Keyed P k) (ht : P.underlying T = some (.map k e)) {key : Value} {kl : Lit} (hkey : keyOf P k key = some kl) (g : Nat) :
    ∃ w', (Instr.mapUpdate T (.map (some m)) key (.pointer (some ⟨g, 0, none⟩))).run P w = .ok () w' ∧ St W w' (aMap P k m (D.put kl (.lit (.int .i64 (g : Int)))) :: L) ∧ w.mapTurned w' m := by
  obtain ⟨own, ⟨h1, n, h2⟩, ho, hback⟩ := h.focus
  obtain ⟨E, rfl, hE⟩ := hD
  obtain ⟨w', r1, r2, r3⟩ := (ownsMap_tight h2).store K ht hE hkey (val := .pointer (some ⟨g, 0, none⟩)) (d := .lit (.int .i64 (g : Int))) (ps := []) rfl
  exact ⟨w', r1, hback w' (aMap P k m _) (Ext.of_grown r3.grown (fun x hx => by injection hx with hx; rw [← hx]; exact h1)) ⟨.inl h1, _, r2⟩, r3⟩
theorem aMap.drop (h : St W w (aMap P k m D :: L)) (K : Keyed P k) (ht : P.underlying T = some (.map k e)) {key : Value} {kl : Lit} (hkey : keyOf P k key = some kl) (ty : TypeId) :
    ∃ w', (Builtin.delete_ #[T, k] ty #[.map (some m), key]).run P w = .ok (.tuple #[]) w' ∧ St W w' (aMap P k m (D.del kl) :: L) ∧ w.mapTurned w' m := by
  obtain ⟨own, ⟨h1, n, h2⟩, ho, hback⟩ := h.focus
  obtain ⟨w', r1, r2, r3⟩ := h2.drop K ht hkey ty
  exact ⟨w', r1, hback w' (aMap P k m _) (Ext.of_grown r3.grown (fun x hx => by injection hx with hx; rw [← hx]; exact h1)) ⟨.inl h1, _, r2⟩, r3⟩
theorem aMap.range (h : St W w (aMap P k m D :: L)) (K : Keyed P k) (ht : P.underlying T = some (.map k e)) :
    ∃ w', (Instr.range T (.map (some m))).run P w = .ok (.pointer (some ⟨w.heap.size, 0, none⟩)) w' ∧ St W w' (aRange P k m w.heap.size D (has D) (size D) :: L) := by
  obtain ⟨own, ⟨h1, n, h2⟩, ho, hback⟩ := h.focus
  obtain ⟨w', r1, r2, r3, r4⟩ := h2.range K ht
  exact ⟨w', r1, hback w' (aRange P k m w.heap.size D (has D) (size D)) (Ext.of_grown r3 (fun x hx => by cases hx)) ⟨.inl h1, .inr (Nat.le_refl _), n, r2⟩⟩
theorem aRange.done {r cnt : Nat} {left : Lit → Bool} (h : St W w (aRange P k m r D left cnt :: L)) : St W w (aMap P k m D :: L) :=
  h.conv fun own ⟨h1, h2, n, h3⟩ => ⟨h1, n, h3.owns⟩
theorem aRange.next {r cnt : Nat} {left : Lit → Bool} (h : St W w (aRange P k m r D left cnt :: L)) (K : Keyed P k) (ty : TypeId) :
    (cnt = 0 ∧ (∀ kl, left kl = false) ∧ (Instr.next (.pointer (some ⟨r, 0, none⟩)) false ty).run P w = .ok (.tuple #[.bool false]) w) ∨
    ∃ key v kl y w' cnt', keyOf P k key = some kl ∧ left kl = true ∧ ptrElem v = some y ∧ (∀ zd, D.atKey kl zd = y.1) ∧ (Instr.next (.pointer (some ⟨r, 0, none⟩)) false ty).run P w = .ok (.tuple #[.bool true, key, v]) w' ∧
      St W w' (aRange P k m r D (fun x => left x && !x.sameKey kl) cnt' :: L) ∧ cnt' < cnt ∧ (Instr.entry (.pointer (some ⟨r, 0, none⟩))).run P w' = .ok (.tuple #[key, v]) w' := by
  obtain ⟨own, ⟨h1, h2, n, h3⟩, ho, hback⟩ := h.focus
  rcases h3.next K ty with ⟨a, b, c⟩ | ⟨key, v, kl, y, w', cnt', k1, k2, k3, k4, k5, k6, k7, k8, k9, k10⟩
  · exact .inl ⟨a, b, c⟩
  · exact .inr ⟨key, v, kl, y, w', cnt', k1, k2, k3, k4, k5, hback w' (aRange P k m r D _ cnt') (Ext.of_grown k8 (fun x hx => by injection hx with hx; rw [← hx]; exact h2)) ⟨.inl h1, .inl h2, n, k6⟩, k7, k10⟩
theorem aRange.left {r cnt : Nat} {left : Lit → Bool} (h : St W w (aRange P k m r D left cnt :: L)) : w.rangeLeft m r = cnt := by
  obtain ⟨own, ⟨h1, h2, n, h3⟩, _⟩ := h.get
  exact h3.left_eq
end
end Go.Proofs.Ytnpjfjgnhadmjaa

/- What a map of files reads as, and the list of files. No program here. -/
namespace Go.Proofs.Ytnpjfjgnhadmjaa
open Go.RowKit Go.Maps
set_option linter.unusedVariables false

abbrev flsOf (E : List (Fl × Nat)) : List Fl := E.map Prod.fst
def entOf (x : Fl × Nat) : Lit × DataW Unit := (.string x.1.nm, .lit (.int .i64 (x.2 : Int)))
theorem dOf_eq (E : List (Fl × Nat)) : dOf E = .map (E.map entOf) := rfl
def dropE (n : List UInt8) (E : List (Fl × Nat)) : List (Fl × Nat) := match ixF n (flsOf E) with | some i => E.take i ++ E.drop (i + 1) | none => E
def insE (x : Fl × Nat) (E : List (Fl × Nat)) : List (Fl × Nat) := E.take (posF x.1.nm (flsOf E)) ++ x :: E.drop (posF x.1.nm (flsOf E))
theorem dropE_fls (n : List UInt8) (E : List (Fl × Nat)) : flsOf (dropE n E) = dropF n (flsOf E) := by
  unfold dropE dropF flsOf
  cases ixF n (E.map Prod.fst) <;> simp [List.map_take, List.map_drop]
theorem insE_fls (x : Fl × Nat) (E : List (Fl × Nat)) : flsOf (insE x E) = insF x.1 (flsOf E) := by
  unfold insE insF flsOf
  simp [List.map_take, List.map_drop]
theorem same_str (a b : List UInt8) : (Lit.string a).sameKey (.string b) = (a == b) := rfl
theorem dOf_at {E : List (Fl × Nat)} {n : List UInt8} {i : Nat} (h : ixF n (flsOf E) = some i) : ∃ x, E[i]? = some x ∧ x.1.nm = n ∧ ∀ z, (dOf E).atKey (.string n) z = .lit (.int .i64 (x.2 : Int)) := by
  induction E generalizing i with
  | nil => simp [ixF, flsOf] at h
  | cons x r ih =>
    simp only [flsOf, List.map_cons, ixF] at h
    split at h
    · rename_i e
      simp at h; subst h
      exact ⟨x, rfl, e, fun z => by simp [dOf, DataW.atKey, same_str, e]⟩
    · rename_i e
      cases hr : ixF n (r.map Prod.fst) with
      | none => rw [hr] at h; simp at h
      | some k =>
        rw [hr] at h; simp at h; subst h
        obtain ⟨y, h1, h2, h3⟩ := ih (i := k) hr
        refine ⟨y, by simpa using h1, h2, fun z => ?_⟩
        have := h3 z
        have e' : (x.1.nm == n) = false := by simpa using e
        simp only [dOf, DataW.atKey, List.map_cons, List.find?_cons, same_str, e'] at this ⊢
        exact this
theorem dOf_no {E : List (Fl × Nat)} {n : List UInt8} (h : ixF n (flsOf E) = none) (z : DataW Unit) : (dOf E).atKey (.string n) z = z := by
  have hf : (E.map entOf).find? (fun p => p.1.sameKey (.string n)) = none := by
    rw [List.find?_eq_none]
    intro p hp
    obtain ⟨x, hx, rfl⟩ := List.mem_map.1 hp
    have := ixF_none h x.1 (List.mem_map.2 ⟨x, hx, rfl⟩)
    simpa [entOf, same_str] using this
  rw [dOf_eq]
  simp only [DataW.atKey, hf]
theorem dOf_size (E : List (Fl × Nat)) : size (dOf E) = E.length := by simp [size, dOf]
theorem dOf_keys (E : List (Fl × Nat)) : strKeys (dOf E) = (flsOf E).map Fl.nm := by
  simp [strKeys, dOf, strOf, flsOf, Function.comp_def]
theorem filter_not {E : List (Fl × Nat)} {n : List UInt8} (h : ∀ f ∈ flsOf E, f.nm ≠ n) : (E.map entOf).filter (fun p => !p.1.sameKey (.string n)) = E.map entOf := by
  rw [List.filter_eq_self]
  intro p hp
  obtain ⟨x, hx, rfl⟩ := List.mem_map.1 hp
  have := h x.1 (List.mem_map.2 ⟨x, hx, rfl⟩)
  simpa [entOf, same_str] using this
theorem filter_drop {E : List (Fl × Nat)} (hs : (flsOf E).Pairwise (fun a b => bytesBefore a.nm b.nm = true)) (n : List UInt8) : (E.map entOf).filter (fun p => !p.1.sameKey (.string n)) = (dropE n E).map entOf := by
  cases hi : ixF n (flsOf E) with
  | none => rw [filter_not (ixF_none hi)]; unfold dropE; rw [hi]
  | some i =>
    have hd : dropE n E = E.take i ++ E.drop (i + 1) := by unfold dropE; rw [hi]
    have hn := dropF_not hs n
    rw [← dropE_fls] at hn
    obtain ⟨x, h1, h2, _⟩ := dOf_at hi
    have hil : i < E.length := by
      rcases Nat.lt_or_ge i E.length with h' | h'
      · exact h'
      · rw [List.getElem?_eq_none h'] at h1; cases h1
    have e : E = E.take i ++ x :: E.drop (i + 1) := by
      have : E[i] = x := by rw [List.getElem?_eq_getElem hil] at h1; exact Option.some.inj h1
      rw [← this, ← List.drop_eq_getElem_cons hil, List.take_append_drop]
    have k1 := filter_not (E := E.take i) (n := n) (fun f hf => hn f (by rw [hd]; simp only [flsOf, List.map_append] at hf ⊢; exact List.mem_append.2 (.inl hf)))
    have k2 := filter_not (E := E.drop (i + 1)) (n := n) (fun f hf => hn f (by rw [hd]; simp only [flsOf, List.map_append] at hf ⊢; exact List.mem_append.2 (.inr hf)))
    conv => lhs; rw [e]
    rw [List.map_append, List.map_cons, List.filter_append, List.filter_cons, k1, k2, hd, List.map_append]
    have : (entOf x).1.sameKey (.string n) = true := by simp [entOf, same_str, h2]
    simp [this]
theorem dOf_del {E : List (Fl × Nat)} (hs : (flsOf E).Pairwise (fun a b => bytesBefore a.nm b.nm = true)) (n : List UInt8) : (dOf E).del (.string n) = dOf (dropE n E) := by
  rw [dOf_eq, dOf_eq]
  simp only [DataW.del]
  rw [filter_drop hs]
theorem insert_ins (x : Fl × Nat) : ∀ (E : List (Fl × Nat)), (∀ f ∈ flsOf E, f.nm ≠ x.1.nm) → DataW.insert (entOf x) (E.map entOf) = (insE x E).map entOf
  | [], _ => by simp [DataW.insert, insE, flsOf, posF]
  | y :: r, h => by
    have hy := h y.1 (by simp [flsOf])
    have hb : (entOf x).1.before (entOf y).1 = bytesBefore x.1.nm y.1.nm := rfl
    simp only [List.map_cons, DataW.insert, hb]
    unfold insE
    simp only [flsOf, List.map_cons, posF]
    rcases bb_tri x.1.nm y.1.nm with k | k | k
    · have k2 : bytesBefore y.1.nm x.1.nm = false := by
        cases hk : bytesBefore y.1.nm x.1.nm with
        | false => rfl
        | true => have := bb_trans _ _ _ k hk; rw [bb_irr] at this; cases this
      rw [if_pos k, k2]
      simp
    · exact absurd k.symm hy
    · have k2 : bytesBefore x.1.nm y.1.nm = false := by
        cases hk : bytesBefore x.1.nm y.1.nm with
        | false => rfl
        | true => have := bb_trans _ _ _ k hk; rw [bb_irr] at this; cases this
      rw [if_neg (by rw [k2]; simp), k, insert_ins x r (fun f hf => h f (by simp only [flsOf, List.map_cons]; exact List.mem_cons_of_mem _ hf))]
      simp [insE, flsOf]
theorem dOf_put {E : List (Fl × Nat)} (hs : (flsOf E).Pairwise (fun a b => bytesBefore a.nm b.nm = true)) (f : Fl) (g : Nat) : (dOf E).put (.string f.nm) (.lit (.int .i64 (g : Int))) = dOf (insE (f, g) (dropE f.nm E)) := by
  rw [dOf_eq, dOf_eq]
  simp only [DataW.put]
  rw [filter_drop hs, ← insert_ins (f, g) (dropE f.nm E) (fun x hx => by rw [dropE_fls] at hx; exact dropF_not hs f.nm x hx)]
  rfl
theorem dropE_none {E : List (Fl × Nat)} {n : List UInt8} (h : ixF n (flsOf E) = none) : dropE n E = E := by unfold dropE; rw [h]
/-- an object for each file, by whatever -/
theorem insE_perm (x : Fl × Nat) (E : List (Fl × Nat)) : (insE x E).Perm (x :: E) := by
  unfold insE
  refine List.perm_middle.trans ?_
  rw [List.take_append_drop]
end Go.Proofs.Ytnpjfjgnhadmjaa

/- A disk as an object. -/
namespace Go.Proofs.Ytnpjfjgnhadmjaa
open Go.RowKit Go.Maps
set_option linter.unusedVariables false

/-- a file: its struct, its bytes in a row of their own -/
def aFile (x : Fl × Nat) : Asn where
  at_ own w := own x.2 ∧ ∃ v, Blk w x.2 73 #[v, .int .i64 (x.1.sure : Int)] ∧ w.ownsRow 0 5 1 v x.1.b.length (cellsB x.1.b) ∧ ∀ g, v.ownBlock = some g → own g
  ext h hx hd := by
    obtain ⟨h1, v, h2, h3, h4⟩ := h
    exact ⟨h1, v, h2.ext hx (hd _ h1), row_ext h3 hx (fun g hg => hd g (h4 g hg)), h4⟩
  bound h := by
    obtain ⟨h1, v, h2, h3, h4⟩ := h
    exact ⟨⟨h1, h2.lt⟩, v, h2, h3, fun g hg => ⟨h4 g hg, row_lt h3 hg⟩⟩
/-- a disk's parts: its struct, its map, its files -/
def dkL (p m : Nat) (d : Dk) (E : List (Fl × Nat)) : List Asn :=
  aBlk p 58 #[.int .i64 d.room, .map (some m), .bool d.off] :: aMap Try.prog 9 m (dOf E) :: E.map aFile
def DkE (d : Dk) (x : Nat × List (Fl × Nat)) : Prop := d.ok ∧ flsOf x.2 = d.R
/-- a disk -/
def aDisk (p : Nat) (d : Dk) : Asn := aSome (DkE d) (fun x => dkL p x.1 d x.2)
section
variable {W w : World} {p m : Nat} {d : Dk} {E : List (Fl × Nat)} {X : List Asn}
theorem aDisk.open_ (h : St W w (aDisk p d :: X)) : ∃ m E, DkE d (m, E) ∧ St W w (dkL p m d E ++ X) := by
  obtain ⟨x, h1, h2⟩ := h.open_
  exact ⟨x.1, x.2, h1, h2⟩
theorem aDisk.shut (hE : DkE d (m, E)) (h : St W w (dkL p m d E ++ X)) : St W w (aDisk p d :: X) := St.shut (a := (m, E)) hE h
/-- the i-th file ahead -/
theorem dkL.pick {i : Nat} {x : Fl × Nat} (h : St W w (dkL p m d E ++ X)) (hi : E[i]? = some x) :
    St W w (aFile x :: aBlk p 58 #[.int .i64 d.room, .map (some m), .bool d.off] :: aMap Try.prog 9 m (dOf E) :: ((E.take i ++ E.drop (i + 1)).map aFile ++ X)) := by
  refine h.perm ?_
  have h1 := (perm_pick (L := E.map aFile) (i := i) (a := aFile x) (by rw [List.getElem?_map, hi]; rfl)).append_right X
  rw [← List.map_take, ← List.map_drop, ← List.map_append] at h1
  unfold dkL
  simp only [List.cons_append] at h1 ⊢
  refine ((h1.cons _).cons _).trans ?_
  exact (List.Perm.cons _ (List.Perm.swap _ _ _)).trans (List.Perm.swap _ _ _)
theorem dkL.unpick {d' : Dk} {i : Nat} {x y : Fl × Nat} (hi : E[i]? = some x) (hd : d'.room = d.room ∧ d'.off = d.off) (hn : y.1.nm = x.1.nm) (hg : y.2 = x.2)
    (h : St W w (aFile y :: aBlk p 58 #[.int .i64 d.room, .map (some m), .bool d.off] :: aMap Try.prog 9 m (dOf E) :: ((E.take i ++ E.drop (i + 1)).map aFile ++ X))) :
    St W w (dkL p m d' (E.set i y) ++ X) := by
  have hil : i < E.length := by
    rcases Nat.lt_or_ge i E.length with h' | h'
    · exact h'
    · rw [List.getElem?_eq_none h'] at hi; cases hi
  have hdo : dOf (E.set i y) = dOf E := by
    unfold dOf
    rw [List.map_set]
    congr 1
    apply List.ext_getElem?
    intro j
    rw [List.getElem?_set]
    split
    · rename_i e
      subst e
      rw [if_pos (by simpa using hil), List.getElem?_map, hi]
      simp [hn, hg]
    · rfl
  have h2 := dkL.pick (p := p) (m := m) (d := d') (E := E.set i y) (X := X) (W := W) (w := w) (i := i) (x := y)
  have e1 : (E.set i y).take i = E.take i := List.take_set_of_le (Nat.le_refl _)
  have e2 : (E.set i y).drop (i + 1) = E.drop (i + 1) := by rw [List.drop_set_of_lt (by omega)]
  unfold dkL
  rw [hdo, hd.1, hd.2]
  refine h.perm ?_
  have h1 := (perm_pick (L := (E.set i y).map aFile) (i := i) (a := aFile y) (by rw [List.getElem?_map, List.getElem?_set_self hil]; rfl)).append_right X
  rw [← List.map_take, ← List.map_drop, ← List.map_append, e1, e2] at h1
  simp only [List.cons_append] at h1 ⊢
  refine (List.Perm.trans ?_ ((h1.symm.cons _).cons _))
  exact (List.Perm.swap _ _ _).trans (List.Perm.cons _ (List.Perm.swap _ _ _))
theorem dkL.blk (h : St W w (dkL p m d E ++ X)) : Blk w p 58 #[.int .i64 d.room, .map (some m), .bool d.off] := aBlk.get h
theorem dkL.map (h : St W w (dkL p m d E ++ X)) : St W w (aMap Try.prog 9 m (dOf E) :: aBlk p 58 #[.int .i64 d.room, .map (some m), .bool d.off] :: (E.map aFile ++ X)) := St.swap h
theorem aFile.get {x : Fl × Nat} (h : St W w (aFile x :: X)) : ∃ v, Blk w x.2 73 #[v, .int .i64 (x.1.sure : Int)] ∧ w.ownsRow 0 5 1 v x.1.b.length (cellsB x.1.b) := by
  obtain ⟨own, ⟨h1, v, h2, h3, h4⟩, _⟩ := h.get
  exact ⟨v, h2, h3⟩
/-- a file is a struct and a row, apart -/
theorem aFile.open_ {x : Fl × Nat} (h : St W w (aFile x :: X)) : ∃ v, St W w (aBlk x.2 73 #[v, .int .i64 (x.1.sure : Int)] :: aRow 5 1 v x.1.b.length (cellsB x.1.b) :: X) := by
  obtain ⟨hb, own, h1, ⟨k1, v, k2, k3, k4⟩, h3⟩ := h
  refine ⟨v, hb, fun b => b = x.2, fun b hb => by rw [hb]; exact h1 _ k1, ⟨rfl, k2⟩, fun b => own b ∧ b ≠ x.2, fun b hb => ⟨⟨(h1 b hb.1).1, hb.2⟩, (h1 b hb.1).2⟩, ⟨k3, fun g hg => ⟨k4 g hg, fun e => row_ne k3 k2 (by decide) (by rw [hg, e])⟩⟩, h3.mono fun b _ hb => ⟨⟨hb.1, fun e => hb.2 (by rw [e]; exact k1)⟩, fun e => hb.2 e.1⟩⟩
theorem aFile.shut {x : Fl × Nat} {v : Value} (h : St W w (aBlk x.2 73 #[v, .int .i64 (x.1.sure : Int)] :: aRow 5 1 v x.1.b.length (cellsB x.1.b) :: X)) : St W w (aFile x :: X) := by
  obtain ⟨hb, o1, h1, ⟨k1, k2⟩, o2, h2, ⟨k3, k4⟩, h3⟩ := h
  refine ⟨hb, fun b => o1 b ∨ o2 b, fun b hb => hb.elim (fun e => h1 b e) (fun e => ⟨(h2 b e).1.1, (h2 b e).2⟩), ⟨.inl k1, v, k2, k3, fun g hg => .inr (k4 g hg)⟩, h3.mono fun b _ hb => ⟨hb.1.1, fun e => e.elim hb.1.2 hb.2⟩⟩
end
end Go.Proofs.Ytnpjfjgnhadmjaa

/- From a call that returns true and leaves old memory alone to a law's row: one lemma for every law. -/
namespace Go.Proofs.Ytnpjfjgnhadmjaa
open Go.ChangeShapes Go.WideShapes Go.ChangeAt Go.RowKit
set_option linter.unusedVariables false

section
variable {H : Type} {enc : TypeId × Value → H} {P : Program}

/-- all arguments read as they did -/
theorem trodAll_later (hl : laidOutB P = true) {W W' : World} (hb : B W W') : ∀ (ts : List TypeId) (vs : List Value) (ds : List (DataW H)) (ps : List MemPlace),
    (ts.all fun t => P.readableRec t && decide (t < P.types.size)) = true →
    DataW.TrodAll enc P W 0 (fun _ => true) true ts vs ds ps → (∀ x ∈ ps, x.block < W.heap.size) →
    DataW.TrodAll enc P W' 0 (fun b => decide (b < W.heap.size)) true ts vs ds ps
  | [], [], [], ps, _, h, _ => h
  | t :: ts, v :: vs, d :: ds, ps, hr, h, hlt => by
    obtain ⟨p, q, h1, h2, rfl⟩ := h
    simp only [List.all_cons, Bool.and_eq_true, decide_eq_true_eq] at hr
    exact ⟨p, q, hb.trod hl hr.1.1 hr.1.2 h1 (fun x hx => hlt x (List.mem_append.2 (.inl hx))), trodAll_later hl hb ts vs ds q hr.2 h2 (fun x hx => hlt x (List.mem_append.2 (.inr hx))), rfl⟩
  | [], [], _ :: _, _, _, h, _ => h.elim
  | [], _ :: _, _, _, _, h, _ => by cases h
  | _ :: _, [], _, _, _, h, _ => by cases h
  | _ :: _, _ :: _, [], _, _, h, _ => by cases h

/-- the law's post: it returned true, old memory is as it was -/
theorem law_post {f : Func} {s : ChangeSpec} {apart : Bool} {W W' : World} {args : Array Value} {ds gs : List (DataW H)} {before : List MemPlace} {tb : TypeId}
    (hl : laidOutB P = true) (hr : (f.params.toList.all fun t => P.readableRec t && decide (t < P.types.size)) = true)
    (hv : s.vars = []) (hfn : (s.fn H ds).results = [.lit (.bool true)] ∧ (s.fn H ds).args = ds ∧ (s.fn H ds).vars = [])
    (hres : f.resultTypes = #[tb]) (ub : P.underlying tb = some .bool)
    (hW : DataW.Whole enc P f.params.toList s.vars apart W args.toList ds gs before) (hb : B W W') :
    s.post enc P f apart true false false W args (.bool true) W' := by
  have hlt := hW.lt
  have hW' := hW
  obtain ⟨p, q, hA, hV, rfl, hfz, hnd⟩ := hW'
  rw [hv] at hV
  obtain ⟨rfl, rfl⟩ := trodVars_none hV
  have hA' := trodAll_later hl hb _ _ _ _ hr hA (fun x hx => hlt x (List.mem_append.2 (.inl hx)))
  refine ⟨ds, [], p ++ [], [], p, [], hW, ?_, ?_, ?_, ?_, fun h => by cases h⟩
  · rw [List.append_nil, hfn.1, hres]
    exact ⟨[], [], shut_bool ub _, rfl, rfl⟩
  · rw [List.append_nil, hfn.2.1]; exact hA'
  · rw [List.append_nil, hfn.2.2, hv]; rfl
  · exact World.keptBut_mono (fun _ h => h) (hb.frame _)
end
end Go.Proofs.Ytnpjfjgnhadmjaa

/- Clones, comparisons of bytes. -/
namespace Go.Proofs.Ytnpjfjgnhadmjaa
open Go.ChangeShapes Go.WideShapes Go.ChangeAt Go.RowKit Go.Deep
set_option linter.unusedVariables false
theorem info5 : (Try.prog.info? 5).map (fun i => (i.zero, i.size, i.bytes)) = some (some (.int .u8 0), 1, 1) := by kernel_rfl
/-- a fresh copy -/
def ClonePost (w : World) (bs : List UInt8) (e : Ending) (w' : World) : Prop := ∃ v', e = .returned v' ∧ w'.ownsRow w.heap.size 5 1 v' bs.length (cellsB bs) ∧ B w w'
set_option maxHeartbeats 400000 in
theorem clone89 {w : World} {v : Value} {bs : List UInt8} (h : Bs w v bs) : Calls Try.prog 32 #[v] w (ClonePost w bs) := by
  rcases h.isNil with ⟨rfl, rfl⟩ | ⟨ad, cap, rfl⟩
  · have q : ∀ w, (binOp .eql 31 (.slice none 0 0) (.slice none 0 0)).run Try.prog w = .ok (.bool true) w := fun w => by kernel_rfl
    have E := Lib.hid (show ClonePost w [] (.returned (.slice none 0 0)) w from ⟨_, rfl, ownNil w _ _ _, Below.refl _ _⟩)
    clear h
    go_enter Try.func32, Try.ntmps32
    go_wp2
    go_ret
    exact E.out
  · have q : ∀ w, (binOp .eql 31 (.slice (some ad) bs.length cap) (.slice none 0 0)).run Try.prog w = .ok (.bool false) w := fun w => by kernel_rfl
    have hb : B w (w.alloc (.cells #[] 5)) := B.alloc' _ _
    have ho : (w.alloc (.cells #[] 5)).ownsRow w.heap.size 5 1 (.slice (some ⟨w.heap.size, 0, none⟩) 0 0) ([] : List UInt8).length (cellsB []) := ⟨rfl, .inr ⟨_, 0, #[], rfl, Nat.le_refl _, heap_alloc_new w _, Nat.le_refl _, by unfold maxLen; omega, rfl, rfl⟩⟩
    obtain ⟨v', w', hrun, h2, h3, h4⟩ := append_Bs (P := Try.prog) (t := 31) (ty := 47) Try.underlying31 info5 ho (h.later hb) (by have := h.len; simpa using this) (by simp)
    have E := Lib.hid (show ClonePost w bs (.returned v') w' from ⟨_, rfl, h2, hb.grown h3 (fun k hk => by simp [Value.ownBlock] at hk; omega)⟩)
    clear h ho h2 h3 h4 hb
    go_enter Try.func32, Try.ntmps32
    go_wp2_with (at_builtin; refine wpList_append_run rfl (.tmp 5) (.tmp 6) 31 rfl rfl rfl hrun ?_)
    go_ret
    exact E.out
set_option maxHeartbeats 400000 in
theorem equal68 {w : World} {v u : Value} {a b : List UInt8} (h : Bs w v a) (k : Bs w u b) : Calls Try.prog 33 #[v, u] w fun e w' => e = .returned (.bool (a == b)) ∧ w = w' := by
  have h1 := h.conv (P := Try.prog) (src := 31) (dst := 9) Try.underlying31 Try.underlying5 Try.underlying9
  have h2 := k.conv (P := Try.prog) (src := 31) (dst := 9) Try.underlying31 Try.underlying5 Try.underlying9
  clear h k
  go_enter Try.func33, Try.ntmps33
  go_wp2
  go_ret
  exact ⟨by simp [bstr_toList], rfl⟩
/-- what is put: fresh bytes -/
def Fresh (w : World) (bs : List UInt8) (e : Ending) (w' : World) : Prop := ∃ v', e = .returned v' ∧ w'.ownsRow w.heap.size 5 1 v' bs.length (cellsB bs) ∧ B w w'
theorem size5 (w : World) : (sizeOf 5).run Try.prog w = .ok 1 w := by kernel_rfl
theorem elem47 : Try.prog.elem 31 = 5 := by kernel_rfl
theorem add_of_add (a : Addr) (i j : Nat) : (a.add i).add j = a.add (i + j) := by
  unfold Addr.add
  by_cases hi : i = 0 <;> by_cases hj : j = 0 <;> simp [hi, hj, Nat.add_assoc]
theorem cellsB_drop (bs : List UInt8) (k j : Nat) : (cellsB (bs.drop k))[j]? = (cellsB bs)[k + j]? := by
  simp [cellsB, List.getElem?_drop]
theorem cellsB_take (bs : List UInt8) (k j : Nat) (u : Value) (h : (cellsB (bs.take k))[j]? = some u) : (cellsB bs)[j]? = some u := by
  simp only [cellsB, List.getElem?_map, List.getElem?_take] at h ⊢
  split at h
  · exact h
  · simp at h
/-- 'v[k:]' -/
theorem Bs.cut {w : World} {v : Value} {bs : List UInt8} (h : Bs w v bs) (k : Nat) (hk : k ≤ bs.length) : ∃ A c, (∀ w' : World, (Instr.slice 31 v (some (.int .i64 (k : Int))) none none).run Try.prog w' = .ok (.slice A (bs.length - k) c) w') ∧ (∀ w' : World, (Instr.sliceAt 31 v (some (.int .i64 (k : Int))) none none).run Try.prog w' = .ok (.slice A (bs.length - k) c) w') ∧
    Bs w (.slice A (bs.length - k) c) (bs.drop k) ∧ ∀ g, (Value.slice A (bs.length - k) c).ownBlock = some g → v.ownBlock = some g := by
  obtain ⟨⟨A, cap, rfl, hn, hc, hm, hr⟩, hl⟩ := h
  have hs : ∀ w' : World, (Instr.slice 31 (.slice A bs.length cap) (some (.int .i64 (k : Int))) none none).run Try.prog w' = .ok (.slice (if cap = k then A else A.map (·.add k)) (bs.length - k) (cap - k)) w' := fun w' => by
    rw [run_slice_l (P := Try.prog) (w := w') (t := 31) (a := A) (len := bs.length) (cap := cap) (by rw [elem47]; exact Try.underlying31) .i64 (k : Int) (by omega) (by omega), elem47, size5]
    simp [Result.andThen, sliced]
  refine ⟨_, _, hs, fun w' => ?_, ⟨⟨_, _, by rw [List.length_drop], fun e => ?_, by simp; omega, by omega, fun ad had => ?_⟩, by simp; omega⟩, fun g hg => ?_⟩
  · rw [run_sliceAt_slice (P := Try.prog) (w := w') (t := 31) (h := by rw [elem47]; exact Try.underlying31)]
    exact hs w'
  · by_cases e1 : cap = k
    · rw [if_pos e1] at e
      obtain ⟨rfl, rfl⟩ := hn e
      exact ⟨by simp, by omega⟩
    · rw [if_neg e1] at e
      cases A with
      | none => obtain ⟨rfl, rfl⟩ := hn rfl; exact ⟨by simp, by omega⟩
      | some a => simp at e
  · by_cases e1 : cap = k
    · have : bs.drop k = [] := List.drop_eq_nil_of_le (by omega)
      rw [this]
      exact ⟨fun h => absurd rfl h, fun j u hu => by simp [cellsB] at hu⟩
    · rw [if_neg e1] at had
      cases A with
      | none => simp at had
      | some a =>
        simp at had
        subst had
        obtain ⟨h1, h2⟩ := hr a rfl
        refine ⟨fun hne => by rw [block_of_add]; exact h1 (fun e => hne (by rw [e]; simp)), fun j u hu => ?_⟩
        rw [add_of_add]
        rw [cellsB_drop] at hu
        exact h2 _ u hu
  · by_cases e1 : cap = k
    · rw [if_pos e1] at hg
      cases A with
      | none => simp [Value.ownBlock] at hg
      | some a => simpa [Value.ownBlock] using hg
    · rw [if_neg e1] at hg
      cases A with
      | none => simp [Value.ownBlock] at hg
      | some a => simpa [Value.ownBlock, block_of_add] using hg
/-- 'v[:k]' -/
theorem Bs.cutTo {w : World} {v : Value} {bs : List UInt8} (h : Bs w v bs) (k : Nat) (hk : k ≤ bs.length) : ∃ A c, (∀ w' : World, (Instr.slice 31 v none (some (.int .i64 (k : Int))) none).run Try.prog w' = .ok (.slice A k c) w') ∧ (∀ w' : World, (Instr.sliceAt 31 v none (some (.int .i64 (k : Int))) none).run Try.prog w' = .ok (.slice A k c) w') ∧
    Bs w (.slice A k c) (bs.take k) ∧ ∀ g, (Value.slice A k c).ownBlock = some g → v.ownBlock = some g := by
  obtain ⟨⟨A, cap, rfl, hn, hc, hm, hr⟩, hl⟩ := h
  have hs : ∀ w' : World, (Instr.slice 31 (.slice A bs.length cap) none (some (.int .i64 (k : Int))) none).run Try.prog w' = .ok (.slice A k cap) w' := fun w' => by
    rw [run_slice_h (P := Try.prog) (w := w') (t := 31) (a := A) (len := bs.length) (cap := cap) (by rw [elem47]; exact Try.underlying31) .i64 (k : Int) (by omega) (by omega), elem47, size5]
    simp [Result.andThen, sliced, Addr.add]
  refine ⟨_, _, hs, fun w' => ?_, ⟨⟨_, _, by rw [List.length_take, Nat.min_eq_left hk], fun e => ?_, by simp; omega, hm, fun ad had => ?_⟩, by simp; omega⟩, fun g hg => by
    cases A with
    | none => simp [Value.ownBlock] at hg
    | some a => simpa [Value.ownBlock] using hg⟩
  · rw [run_sliceAt_slice (P := Try.prog) (w := w') (t := 31) (h := by rw [elem47]; exact Try.underlying31)]
    exact hs w'
  · obtain ⟨rfl, rfl⟩ := hn e; exact ⟨by simp, rfl⟩
  · obtain ⟨h1, h2⟩ := hr ad had
    exact ⟨fun hne => h1 (fun e => hne (by rw [e]; simp)), fun j u hu => h2 j u (cellsB_take bs k j u hu)⟩
theorem B.drewN' {w : World} (n : Nat) : B w (w.drewN n) := ⟨rfl, rfl, rfl, Nat.le_refl _, fun _ _ => rfl⟩
section
variable {P : Program} {W w : World} {ops : Array Oper} {rest : List Oper} {o : Oper} {a : Act} {Q : Exit → Act → World → Prop} {L : List Asn}
/-- append onto a row that is an object of its own -/
theorem wpList_append_St (hgd : o.guard = none) (s x : Operand) (t : TypeId) (ho : o.op = .call { callee := .builtin .append, args := #[s, x], argTypes := #[t, t] })
    {e : TypeId} {z : Value} {sz bytes : Nat} (ht : P.underlying t = some (.slice e)) (hie : (P.info? e).map (fun i => (i.zero, i.size, i.bytes)) = some (some z, sz, bytes)) (hz : z.cells.size = sz) (hsz : 0 < sz)
    {n m : Nat} {v u : Value} {xs news : List Value} (hs : a.eval s = v) (hx : a.eval x = u) (hown : St W w (aRow e sz v n xs :: L)) (hu : Rd w u m sz news) (h1 : ∀ x ∈ news, x.oneCell' = true) (h63 : n + m ≤ maxLen) (hroom : (n + m) * bytes ≤ 140737488355328)
    (h : ∀ A c w', St W w' (aRow e sz (.slice A (n + m) c) (n + m) (xs ++ news) :: L) → wpList P ops Q rest (a.put o.dst (.slice A (n + m) c)) w') :
    wpList P ops Q (o :: rest) a w := by
  obtain ⟨own, hr, ho', hback⟩ := hown.focus
  refine wpList_append_Rd hgd s x t ho ht hie hz hsz hs hx hr.1 hu h1 h63 hroom (Nat.zero_le _) fun A c w' r1 x1 y1 => ?_
  refine h A c w' (hback w' (aRow e sz (.slice A (n + m) c) (n + m) (xs ++ news)) ((Ext.refl own w).grown x1 (fun g e' _ => hr.2 g e')) ⟨r1, fun g hg => ?_⟩)
  rcases y1 with e' | e'
  · exact .inl (hr.2 g (by rw [← e', hg]))
  · right; rw [e'] at hg; injection hg with hg; omega
end
section
variable {P : Program} {W w : World} {ops : Array Oper} {rest : List Oper} {o : Oper} {a : Act} {Q : Exit → Act → World → Prop} {L : List Asn}
theorem Rd.lit (w : World) (cs : Array Value) (t : TypeId) (n : Nat) (hn : cs.size = n) : Rd (w.alloc (.cells cs t)) (.slice (some ⟨w.heap.size, 0, none⟩) n n) n 1 cs.toList := by
  refine ⟨by simp [hn], _, n, rfl, fun e => (by cases e), Nat.le_refl _, fun ad had => ?_⟩
  cases had
  refine ⟨fun _ => by simp, fun j x hx => ?_⟩
  have ea : (⟨w.heap.size, 0, none⟩ : Addr).add j = ⟨w.heap.size, j, none⟩ := by unfold Addr.add; split <;> simp_all
  rw [ea, (Blk.new w t cs).cell]
  simpa using hx
end
section
variable {P : Program} {W w : World} {ops : Array Oper} {rest : List Oper} {o : Oper} {a : Act} {Q : Exit → Act → World → Prop} {L : List Asn}
theorem St.addRow (h : St W w L) {w' : World} (hb : B w w') {v : Value} {e : TypeId} {sz n : Nat} {xs : List Value} (hr : w'.ownsRow w.heap.size e sz v n xs) : St W w' (aRow e sz v n xs :: L) :=
  h.add hb (A := aRow e sz v n xs) (own := fun x => w.heap.size ≤ x) ⟨row_base hr (Nat.zero_le _), fun g hg => row_ge hr hg⟩ (fun x e => e)
end
theorem St.rowBs {W w : World} {X : List Asn} {v : Value} {x : List UInt8} {n : Nat} (h : St W w (aRow 5 1 v n (cellsB x) :: X)) (hn : n = x.length) (hl : x.length ≤ big) : Bs w v x := by
  subst hn
  obtain ⟨own, hr, _⟩ := h.get
  exact Bs.of_own hr.1 hl
theorem St.rowSlice {W w : World} {X : List Asn} {e : TypeId} {sz n : Nat} {v : Value} {xs : List Value} (h : St W w (aRow e sz v n xs :: X)) : ∃ A c, v = .slice A n c := by
  obtain ⟨own, hr, _⟩ := h.get
  exact own_slice hr.1
def aBy (v : Value) (bs : List UInt8) : Asn := aRow 5 1 v bs.length (cellsB bs)
theorem aBy.nil {W w : World} {L : List Asn} (h : St W w L) : St W w (aBy (.slice none 0 0) [] :: L) :=
  h.add (Below.refl _ _) (A := aBy (.slice none 0 0) []) (own := fun _ => False) ⟨ownNil _ _ _ _, fun g hg => by simp [Value.ownBlock] at hg⟩ (fun x e => e.elim)
section
variable {W w : World} {L : List Asn} {v : Value} {bs : List UInt8}
theorem St.fresh {P : Program} {f : FuncId} {args : Array Value} (h : St W w L) (hc : Calls P f args w (Fresh w bs)) : Calls P f args w fun e w' => ∃ v, e = .returned v ∧ St W w' (aBy v bs :: L) :=
  hc.mono fun e w' ⟨v, he, hr, hb⟩ => ⟨v, he, h.addRow hb hr⟩
end
section
variable {W w : World} {L : List Asn} {v : Value} {bs : List UInt8}
theorem St.byBs (h : St W w (aBy v bs :: L)) (hl : bs.length ≤ big) : Bs w v bs := h.rowBs rfl hl
end
section
variable {W w : World} {L : List Asn} {v : Value} {bs : List UInt8}
theorem St.bySlice (h : St W w (aBy v bs :: L)) : ∃ A c, v = .slice A bs.length c := h.rowSlice
end
section
variable {W w : World} {L : List Asn} {v : Value} {bs : List UInt8}
/-- bytes written out -/
theorem Bs.lit (w : World) (cs : Array Value) (bs : List UInt8) (n : Nat) (h : cs = (cellsB bs).toArray) (hn : n = bs.length) (hl : bs.length ≤ big) : Bs (w.alloc (.cells cs 5)) (.slice (some ⟨w.heap.size, 0, none⟩) n n) bs := by
  subst h hn
  refine ⟨⟨_, _, rfl, fun e => (by cases e), Nat.le_refl _, by unfold big at hl; unfold maxLen; omega, fun ad had => ?_⟩, hl⟩
  cases had
  refine ⟨fun _ => by simp, fun j u hu => ?_⟩
  have ea : (⟨w.heap.size, 0, none⟩ : Addr).add j = ⟨w.heap.size, j, none⟩ := by unfold Addr.add; split <;> simp_all
  rw [ea, (Blk.new w 5 _).cell]
  simpa using hu
end
section
variable {W w : World} {L : List Asn}
theorem Sep.mem {A : Asn} : ∀ {U : Nat → Prop} {L : List Asn}, Sep w U L → A ∈ L → ∃ own, A.at_ own w
  | _, [], _, h => by cases h
  | U, C :: L, ⟨o, h1, h2, h3⟩, h => by
    rcases List.mem_cons.1 h with e | e
    · subst e; exact ⟨o, h2⟩
    · exact Sep.mem h3 e
end
section
variable {W w : World} {L : List Asn}
theorem St.cellOf {g : Nat} {t : TypeId} {cs : Array Value} (h : St W w L) (hm : aBlk g t cs ∈ L) (i : Nat) : w.cell? ⟨g, i, none⟩ = cs[i]? := by
  obtain ⟨own, h1, h2⟩ := h.2.mem hm
  exact h2.cell i
end
section
variable {P : Program} {W w : World} {ops : Array Oper} {rest : List Oper} {o : Oper} {a : Act} {K : Act → World → Prop} {Q : Exit → Act → World → Prop} {E : Prop} {L : List Asn}
theorem step_append_St (hgd : o.guard = none) (s x : Operand) (t : TypeId) (ho : o.op = .call { callee := .builtin .append, args := #[s, x], argTypes := #[t, t] })
    {e : TypeId} {z : Value} {sz bytes : Nat} (ht : P.underlying t = some (.slice e)) (hie : (P.info? e).map (fun i => (i.zero, i.size, i.bytes)) = some (some z, sz, bytes)) (hz : z.cells.size = sz) (hsz : 0 < sz)
    {n m : Nat} {v u : Value} {xs news : List Value} (hs : a.eval s = v) (hx : a.eval x = u) (hown : St W w (aRow e sz v n xs :: L)) (hu : Rd w u m sz news) (h1 : ∀ x ∈ news, x.oneCell' = true) (h63 : n + m ≤ maxLen) (hroom : (n + m) * bytes ≤ 140737488355328)
    (h : ∀ A c w', St W w' (aRow e sz (.slice A (n + m) c) (n + m) (xs ++ news) :: L) → K (a.put o.dst (.slice A (n + m) c)) w') :
    if Region.wanted o (yielded ops a.tmps) = true then Oper.wp P o a w K Q else E := by
  obtain ⟨own, hr, ho', hback⟩ := hown.focus
  refine step_append_Rd hgd s x t ho ht hie hz hsz hs hx hr.1 hu h1 h63 hroom (Nat.zero_le _) fun A c w' r1 x1 y1 => ?_
  refine h A c w' (hback w' (aRow e sz (.slice A (n + m) c) (n + m) (xs ++ news)) ((Ext.refl own w).grown x1 (fun g e' _ => hr.2 g e')) ⟨r1, fun g hg => ?_⟩)
  rcases y1 with e' | e'
  · exact .inl (hr.2 g (by rw [← e', hg]))
  · right; rw [e'] at hg; injection hg with hg; omega
end
theorem St.frozenOf {W w : World} {L : List Asn} {g : Nat} {t : TypeId} {cs : Array Value} (h : St W w L) (hm : aBlk g t cs ∈ L) (i : Nat) : w.frozen? ⟨g, i, none⟩ = false := by
  obtain ⟨own, h1, h2⟩ := h.2.mem hm
  exact h2.frozen i
theorem addr_at (g o j : Nat) : (⟨g, o, none⟩ : Addr).add j = ⟨g, o + j, none⟩ := by unfold Addr.add; split <;> simp_all
theorem St.rowSome {W w : World} {e : TypeId} {A : Option Addr} {n c : Nat} {xs : List Value} {X : List Asn} (h : St W w (aRow e 1 (.slice A n c) n xs :: X)) (hn : 0 < n) : ∃ g, A = some ⟨g, 0, none⟩ := by
  obtain ⟨own, hr, _⟩ := h.get
  rcases hr.1.2 with ⟨h1, h2⟩ | ⟨g, cap, cur, h1, _⟩
  · injection h1 with h1 h3 h4; omega
  · injection h1 with h1 h3 h4; exact ⟨g, h1⟩
theorem St.rowAt {W w : World} {e : TypeId} {g n c : Nat} {xs : List Value} {X : List Asn} (h : St W w (aRow e 1 (.slice (some ⟨g, 0, none⟩) n c) n xs :: X)) {j : Nat} {x : Value} (hj : xs[j]? = some x) : w.cell? ⟨g, j, none⟩ = some x := by
  obtain ⟨own, hr, _⟩ := h.get
  obtain ⟨hl, A, cap, hv, _, _, hx⟩ := Rd.of_own hr.1
  injection hv with h1 _ _
  have := (hx _ h1.symm).2 j x hj
  rw [addr_at, Nat.zero_add] at this
  exact this
theorem St.drewN {W w : World} {L : List Asn} (h : St W w L) (n : Nat) : St W (w.drewN n) L := h.later (show B w (w.drewN n) from ⟨rfl, rfl, rfl, Nat.le_refl _, fun _ _ => rfl⟩)
end Go.Proofs.Ytnpjfjgnhadmjaa

/- The disk's methods that only read. -/
namespace Go.Proofs.Ytnpjfjgnhadmjaa
open Go.RowKit Go.Maps Go.Deep
set_option linter.unusedVariables false

theorem strLaw : Keyed Try.prog 9 := string_keyed Try.underlying9
theorem keyN {n : List UInt8} (hn : n.length ≤ maxLen) : keyOf Try.prog 9 (.string (bstr n)) = some (.string n) := by
  have := Go.WideMaps.keyOf_string_mk (P := Try.prog) (k := 9) Try.underlying9 (s := bstr n) (by simpa [bstr, ByteArray.size] using hn)
  simpa [bstr] using this
theorem zeroPF (w : World) : (zeroValue 71).run Try.prog w = .ok (.pointer none) w := by kernel_rfl
section
variable {W w : World} {p m : Nat} {d : Dk} {E : List (Fl × Nat)} {X : List Asn} {n : List UInt8}
theorem none_c {r o : Value} (h : Blk w p 58 #[r, .map (some m), o]) : Calls Try.prog 43 #[.pointer (some ⟨p, 0, none⟩)] w fun e w' => e = .returned (.bool false) ∧ w = w' := by
  have c1 := h.cell 1
  simp at c1
  have q1 : ∀ w, (binOp .eql 56 (.map (some m)) (.map none)).run Try.prog w = .ok (.bool false) w := fun w => by kernel_rfl
  clear h
  go_enter Try.func43, Try.ntmps43
  go_wp2
  go_ret
  exact ⟨rfl, rfl⟩
theorem can_c {r : Value} {o : Bool} (h : Blk w p 58 #[r, .map (some m), .bool o]) : Calls Try.prog 52 #[.pointer (some ⟨p, 0, none⟩)] w fun e w' => e = .returned (.int .i64 (if o then 32 else 0)) ∧ w = w' := by
  have c2 := h.cell 2
  simp at c2
  have HN := Lib.hid (none_c h)
  clear h
  cases o
  all_goals
    go_enter Try.func52, Try.ntmps52
    go_wp2_with (first | (go_at_call 43; (with_reducible refine HN.out.mono ?_); rintro e w1 ⟨rfl, rfl⟩))
    go_ret
    exact ⟨rfl, rfl⟩
theorem off_c {r : Value} {o : Bool} (h : Blk w p 58 #[r, .map (some m), .bool o]) : Calls Try.prog 15 #[.pointer (some ⟨p, 0, none⟩)] w fun e w' => e = .returned (.bool o) ∧ w = w' := by
  have c2 := h.cell 2
  simp at c2
  have HN := Lib.hid (none_c h)
  clear h
  go_enter Try.func15, Try.ntmps15
  go_wp2_with (first | (go_at_call 43; (with_reducible refine HN.out.mono ?_); rintro e w1 ⟨rfl, rfl⟩))
  go_ret
  exact ⟨rfl, rfl⟩
theorem look_no (h : St W w (dkL p m d E ++ X)) (hn : n.length ≤ maxLen) (hi : ixF n (flsOf E) = none) : (Instr.lookup 56 (.map (some m)) (.string (bstr n)) false).run Try.prog w = .ok (.pointer none) w := by
  obtain ⟨v, ps, h1, h2⟩ := aMap.look h.swap strLaw Try.underlying56 (zeroPF w) (keyN hn)
  rw [dOf_no hi] at h2
  rw [h1]
  unfold ptrElem at h2
  split at h2
  · rfl
  · cases h2
  · cases h2
theorem look_yes (h : St W w (dkL p m d E ++ X)) (hn : n.length ≤ maxLen) {i : Nat} {x : Fl × Nat} (hi : ixF n (flsOf E) = some i) (hx : E[i]? = some x) : (Instr.lookup 56 (.map (some m)) (.string (bstr n)) false).run Try.prog w = .ok (.pointer (some ⟨x.2, 0, none⟩)) w := by
  obtain ⟨v, ps, h1, h2⟩ := aMap.look h.swap strLaw Try.underlying56 (zeroPF w) (keyN hn)
  obtain ⟨y, k1, k2, k3⟩ := dOf_at hi
  rw [hx] at k1
  have k1 := Option.some.inj k1
  rw [k3, ← k1] at h2
  have e := ptrElem_inv (g := x.2) h2
  rw [h1, e]
theorem may_off (hE : DkE d (m, E)) {er : Int} (hm : mayF d n = (none, er)) (ho : d.off = false) : ixF n (flsOf E) = none ∧ er = 4 := by
  unfold mayF at hm
  rw [if_neg (by rw [ho]; simp)] at hm
  rw [hE.2]
  cases hi : ixF n d.R with
  | none => rw [hi] at hm; simp at hm; exact ⟨rfl, hm.symm⟩
  | some k => rw [hi] at hm; simp at hm
theorem may_on (hE : DkE d (m, E)) {i : Nat} {er : Int} (hm : mayF d n = (some i, er)) : ixF n (flsOf E) = some i ∧ ∃ x, E[i]? = some x ∧ x.1.nm = n ∧ d.R[i]? = some x.1 := by
  unfold mayF at hm
  split at hm
  · simp at hm
  · cases hi : ixF n d.R with
    | none => rw [hi] at hm; simp at hm
    | some k =>
      rw [hi] at hm
      simp at hm
      obtain ⟨rfl, _⟩ := hm
      have hi' : ixF n (flsOf E) = some k := by rw [hE.2]; exact hi
      obtain ⟨x, h1, h2, _⟩ := dOf_at hi'
      refine ⟨hi', x, h1, h2, ?_⟩
      rw [← hE.2]
      simp [flsOf, h1]
theorem find_no (h : St W w (dkL p m d E ++ X)) (hE : DkE d (m, E)) (hn : n.length ≤ maxLen) {er : Int} (hm : mayF d n = (none, er)) :
    Calls Try.prog 50 #[.pointer (some ⟨p, 0, none⟩), .string (bstr n)] w fun e w' => e = .returned (.tuple #[.pointer none, .int .i64 er]) ∧ w = w' := by
  have hb := dkL.blk h
  have c1 := hb.cell 1
  simp at c1
  have HC := Lib.hid (can_c hb)
  cases ho : d.off with
  | true =>
    rw [ho] at HC
    have he : er = 32 := by unfold mayF at hm; rw [ho] at hm; simp at hm; exact hm.symm
    subst he
    clear h hE hn hm hb ho
    go_enter Try.func50, Try.ntmps50
    go_wp2_with (first | (go_at_call 52; (with_reducible refine HC.out.mono ?_); rintro e w1 ⟨rfl, rfl⟩))
    go_ret2
    exact ⟨rfl, rfl⟩
  | false =>
    rw [ho] at HC
    obtain ⟨hi, rfl⟩ := may_off hE hm ho
    have hl := look_no h hn hi
    clear h hE hn hm hb ho hi
    go_enter Try.func50, Try.ntmps50
    go_wp2_with (first | (go_at_call 52; (with_reducible refine HC.out.mono ?_); rintro e w1 ⟨rfl, rfl⟩))
    go_ret2
    exact ⟨rfl, rfl⟩
theorem find_yes (h : St W w (dkL p m d E ++ X)) (hE : DkE d (m, E)) (hn : n.length ≤ maxLen) {i : Nat} {er : Int} {x : Fl × Nat} (hm : mayF d n = (some i, er)) (hx : E[i]? = some x) :
    Calls Try.prog 50 #[.pointer (some ⟨p, 0, none⟩), .string (bstr n)] w fun e w' => e = .returned (.tuple #[.pointer (some ⟨x.2, 0, none⟩), .int .i64 0]) ∧ w = w' := by
  have hb := dkL.blk h
  have c1 := hb.cell 1
  simp at c1
  have HC := Lib.hid (can_c hb)
  rw [(may_some hm).2.1] at HC
  have hl := look_yes h hn (may_on hE hm).1 hx
  generalize x.2 = g at *
  clear h hE hn hm hb hx
  go_enter Try.func50, Try.ntmps50
  go_wp2_with (first | (go_at_call 52; (with_reducible refine HC.out.mono ?_); rintro e w1 ⟨rfl, rfl⟩))
  go_ret2
  exact ⟨rfl, rfl⟩
theorem bare_c (w : World) (k : Int) (hk : -9223372036854775808 ≤ k ∧ k ≤ 9223372036854775807) : Calls Try.prog 53 #[.int .i64 k] w fun e w' => e = .returned (.int .i64 (bareF k)) ∧ w = w' := by
  by_cases h1 : k = -9223372036854775808
  · subst h1
    go_enter Try.func53, Try.ntmps53
    go_wp2
    go_ret
    exact ⟨rfl, rfl⟩
  · have q1 : (k == -9223372036854775808) = false := by simpa using h1
    by_cases h2 : k < 0
    · have E := Lib.hid (show -k = bareF k by unfold bareF; rw [if_neg h1, if_pos h2])
      have hk2 : 0 ≤ -k ∧ -k ≤ 9223372036854775807 := by omega
      obtain ⟨k2, k3⟩ := hk2
      have q2 : IntKind.i64.wrap (-k) = -k := by simp [IntKind.wrap, IntKind.signed, IntKind.bits]; omega
      clear hk h1
      go_enter Try.func53, Try.ntmps53
      go_wp2
      go_ret
      exact ⟨retI E.out, rfl⟩
    · have E := Lib.hid (show k = bareF k by unfold bareF; rw [if_neg h1, if_neg h2])
      clear hk h1
      go_enter Try.func53, Try.ntmps53
      go_wp2
      go_ret
      exact ⟨retI E.out, rfl⟩
end
end Go.Proofs.Ytnpjfjgnhadmjaa

/- The loop over a disk's files; how many bytes there are; a file's bytes. -/
namespace Go.Proofs.Ytnpjfjgnhadmjaa
open Go.RowKit Go.Maps Go.Deep
set_option linter.unusedVariables false

set_option maxHeartbeats 400000 in
theorem sclone_c {w : World} {v : Value} {bs : List UInt8} (h : Bs w v bs) : Calls Try.prog 51 #[v] w (ClonePost w bs) := by
  rcases h.isNil with ⟨rfl, rfl⟩ | ⟨ad, cap, rfl⟩
  · have q : ∀ w, (binOp .eql 31 (.slice none 0 0) (.slice none 0 0)).run Try.prog w = .ok (.bool true) w := fun w => by kernel_rfl
    have E := Lib.hid (show ClonePost w [] (.returned (.slice none 0 0)) w from ⟨_, rfl, ownNil w _ _ _, Below.refl _ _⟩)
    clear h
    go_enter Try.func51, Try.ntmps51
    go_wp2
    go_ret
    exact E.out
  · have q : ∀ w, (binOp .eql 31 (.slice (some ad) bs.length cap) (.slice none 0 0)).run Try.prog w = .ok (.bool false) w := fun w => by kernel_rfl
    have hb : B w (w.alloc (.cells #[] 5)) := B.alloc' _ _
    have ho : (w.alloc (.cells #[] 5)).ownsRow w.heap.size 5 1 (.slice (some ⟨w.heap.size, 0, none⟩) 0 0) ([] : List UInt8).length (cellsB []) := ⟨rfl, .inr ⟨_, 0, #[], rfl, Nat.le_refl _, heap_alloc_new w _, Nat.le_refl _, by unfold maxLen; omega, rfl, rfl⟩⟩
    obtain ⟨v', w', hrun, h2, h3, h4⟩ := append_Bs (P := Try.prog) (t := 31) (ty := 47) Try.underlying31 info5 ho (h.later hb) (by have := h.len; simpa using this) (by simp)
    have E := Lib.hid (show ClonePost w bs (.returned v') w' from ⟨_, rfl, h2, hb.grown h3 (fun k hk => by simp [Value.ownBlock] at hk; omega)⟩)
    clear h ho h2 h3 h4 hb
    go_enter Try.func51, Try.ntmps51
    go_wp2_with (at_builtin; refine wpList_append_run rfl (.tmp 5) (.tmp 6) 31 rfl rfl rfl hrun ?_)
    go_ret
    exact E.out

theorem has_dOf {E : List (Fl × Nat)} {kl : Lit} (h : has (dOf E) kl = true) : ∃ (i : Nat) (x : Fl × Nat), E[i]? = some x ∧ kl = .string x.1.nm := by
  obtain ⟨p, hp, hk⟩ := List.any_eq_true.1 (show (E.map entOf).any (fun p => p.1.sameKey kl) = true from h)
  obtain ⟨x, hx, rfl⟩ := List.mem_map.1 hp
  obtain ⟨i, hi, e⟩ := List.mem_iff_getElem.1 hx
  exact ⟨i, x, by rw [List.getElem?_eq_getElem hi, e], (WideAt.sameKey_eq hk).symm⟩
theorem has_mem {E : List (Fl × Nat)} {x : Fl × Nat} (h : x ∈ E) : has (dOf E) (.string x.1.nm) = true :=
  List.any_eq_true.2 ⟨entOf x, List.mem_map.2 ⟨x, h, rfl⟩, by simp [entOf, same_str]⟩
theorem ix_self {E : List (Fl × Nat)} (hs : (flsOf E).Pairwise (fun a b => bytesBefore a.nm b.nm = true)) {i : Nat} {x : Fl × Nat} (h : E[i]? = some x) : ixF x.1.nm (flsOf E) = some i := by
  cases hi : ixF x.1.nm (flsOf E) with
  | none => exact absurd rfl (ixF_none hi x.1 (List.mem_map.2 ⟨x, List.mem_of_getElem? h, rfl⟩))
  | some k =>
    obtain ⟨f, h1, h2, h3⟩ := ixF_some hi
    have hf : (flsOf E)[i]? = some x.1 := by simp [flsOf, h]
    rcases Nat.lt_trichotomy i k with hk | hk | hk
    · exact absurd rfl (h3 i hk x.1 hf)
    · rw [hk]
    · have hl1 : k < (flsOf E).length := by
        rcases Nat.lt_or_ge k (flsOf E).length with h' | h'
        · exact h'
        · rw [List.getElem?_eq_none h'] at h1; cases h1
      have hl2 : i < (flsOf E).length := by
        rcases Nat.lt_or_ge i (flsOf E).length with h' | h'
        · exact h'
        · rw [List.getElem?_eq_none h'] at hf; cases hf
      have := (List.pairwise_iff_getElem.1 hs) k i hl1 hl2 hk
      rw [List.getElem?_eq_getElem hl1] at h1
      rw [List.getElem?_eq_getElem hl2] at hf
      rw [Option.some.inj h1, Option.some.inj hf, h2, bb_irr] at this
      cases this
/-- a block known as an object -/
def aObj (r : Nat) (o : Obj) : Asn where
  at_ own w := own r ∧ w.heap[r]? = some o
  ext h hx hd := ⟨h.1, (hx.block r (Array.getElem?_eq_some_iff.1 h.2).1 (hd _ h.1)).trans h.2⟩
  bound h := ⟨⟨h.1, (Array.getElem?_eq_some_iff.1 h.2).1⟩, h.2⟩
/-- what an iterator over an old map says -/
def Rng (W : World) (m r : Nat) (E : List (Fl × Nat)) (left : Lit → Bool) (cnt : Nat) (it : Obj) : Prop :=
  ∀ w' : World, w'.heap[m]? = W.heap[m]? → w'.heap[r]? = some it → ∃ n, w'.ranges Try.prog 9 ptrElem m r n (dOf E) left cnt
section
variable {W w : World} {ops : Array Oper} {rest : List Oper} {o : Oper} {a : Act} {Q : Exit → Act → World → Prop} {L : List Asn} {m r cnt : Nat} {E : List (Fl × Nat)} {left : Lit → Bool} {it : Obj}
theorem aObj.get (h : St W w (aObj r it :: L)) : w.heap[r]? = some it := by
  obtain ⟨own, h1, _⟩ := h.get
  exact h1.2
theorem Rng.of {w1 : World} {n : Nat} (h : w1.ranges Try.prog 9 ptrElem m r n (dOf E) left cnt) (hm : w1.heap[m]? = W.heap[m]?) : ∃ it, w1.heap[r]? = some it ∧ Rng W m r E left cnt it := by
  obtain ⟨es, clock, since, seen, c0, hb, F, hs, hD, hr, rest⟩ := h
  exact ⟨_, hr, fun w' h1 h2 => ⟨n, es, clock, since, seen, c0, by rw [h1, ← hm]; exact hb, F, hs, hD, h2, rest⟩⟩
theorem Rng.left_ (hR : Rng W m r E left cnt it) (hm : m < W.heap.size) (h : St W w (aObj r it :: L)) : w.rangeLeft m r = cnt := by
  obtain ⟨n, hn⟩ := hR w (h.b.block m hm) (aObj.get h)
  exact hn.left_eq
theorem wpList_range_R (hg : o.guard = none) (x : Operand) (hop : o.op = Op.range 56 x) {n : Nat} (hmap : W.ownsMap Try.prog 9 ptrElem m n (dOf E)) (hx : a.eval x = .map (some m)) (h : St W w L)
    (hK : ∀ w' it, Rng W m w.heap.size E (has (dOf E)) (size (dOf E)) it → St W w' (aObj w.heap.size it :: L) → wpList Try.prog ops Q rest (a.put o.dst (.pointer (some ⟨w.heap.size, 0, none⟩))) w') :
    wpList Try.prog ops Q (o :: rest) a w := by
  refine wpList_plain hg fun K' hK' => ?_
  have hm := hmap.lt
  have hmap' : w.ownsMap Try.prog 9 ptrElem m n (dOf E) := by
    obtain ⟨es, clock, hb, r⟩ := hmap
    exact ⟨es, clock, (h.b.block m hm).trans hb, r⟩
  obtain ⟨w', hrun, r1, r2, r3⟩ := hmap'.range strLaw Try.underlying56
  have hB : B w w' := (Ext.of_grown (own := fun _ => False) r2 (fun g hg => by cases hg)).to_B (fun _ _ => id)
  obtain ⟨it, k1, k2⟩ := Rng.of (W := W) r1 ((hB.block m (Nat.lt_of_lt_of_le hm h.b.size)).trans (h.b.block m hm))
  unfold Oper.wp
  simp [execOp, hop, hx, hrun, Result.andThen]
  exact hK' _ _ (hK w' it k2 (h.add hB (A := aObj w.heap.size it) (own := fun b => b = w.heap.size) ⟨rfl, k1⟩ (fun x e => by omega)))
/-- the loop's step over a disk's map -/
theorem wpList_next_R (hg : o.guard = none) (x0 : Operand) (hop : o.op = Op.next x0 false) (hs : (flsOf E).Pairwise (fun a b => bytesBefore a.nm b.nm = true)) (hle : ∀ kl, left kl = true → has (dOf E) kl = true) (hm : m < W.heap.size)
    (hit : a.eval x0 = .pointer (some ⟨r, 0, none⟩)) (hR : Rng W m r E left cnt it) (h : St W w (aObj r it :: L))
    (hDone : (∀ kl, left kl = false) → wpList Try.prog ops Q rest (a.put o.dst (.tuple #[.bool false])) w)
    (hMore : ∀ (i : Nat) (x : Fl × Nat) (w' : World) (cnt' : Nat) (it' : Obj), E[i]? = some x → left (.string x.1.nm) = true → Rng W m r E (fun z => left z && !z.sameKey (.string x.1.nm)) cnt' it' → St W w' (aObj r it' :: L) → cnt' < cnt →
      (Instr.entry (.pointer (some ⟨r, 0, none⟩))).run Try.prog w' = .ok (.tuple #[.string (bstr x.1.nm), .pointer (some ⟨x.2, 0, none⟩)]) w' →
      wpList Try.prog ops Q rest (a.put o.dst (.tuple #[.bool true, .string (bstr x.1.nm), .pointer (some ⟨x.2, 0, none⟩)])) w') :
    wpList Try.prog ops Q (o :: rest) a w := by
  refine wpList_plain hg fun K' hK' => ?_
  unfold Oper.wp
  obtain ⟨n, hn⟩ := hR w (h.b.block m hm) (aObj.get h)
  rcases hn.next strLaw o.type with ⟨h0, hl, hrun⟩ | ⟨key, v, kl, y, w', cnt', hkey, hlk, hv, hat, hrun, hrg, hlt, hgr, hsz, hen⟩
  · simp [execOp, hop, hit, hrun, Result.andThen]
    exact hK' _ _ (hDone hl)
  · obtain ⟨i, x, hx, rfl⟩ := has_dOf (hle kl hlk)
    obtain ⟨k, e1, e2, _⟩ := Maps.keyOf_str Try.underlying9 hkey
    have e2 := (Lit.string.inj e2).symm
    subst e2
    obtain ⟨z, k1, _, k3⟩ := dOf_at (ix_self hs hx)
    rw [hx] at k1
    have k1 := Option.some.inj k1
    have e3 : y.1 = .lit (.int .i64 (x.2 : Int)) := by rw [← hat .nil, k3, ← k1]
    have e4 : v = .pointer (some ⟨x.2, 0, none⟩) := ptrElem_inv (g := x.2) (ps := y.2) (by rw [hv, ← e3])
    subst e4
    have e5 : key = .string (bstr x.1.nm) := e1
    subst e5
    obtain ⟨own, ⟨h1, h2⟩, ho, hback⟩ := h.focus
    have hne : m ≠ r := by have := (ho r h1).1; omega
    obtain ⟨it', k4, k5⟩ := Rng.of (W := W) hrg ((hgr.block m (Nat.lt_of_lt_of_le hm h.b.size) (fun e => hne (by injection e))).trans (h.b.block m hm))
    have hS := hback w' (aObj r it') (Ext.of_grown hgr (fun g hg => by injection hg with hg; rw [← hg]; exact h1)) ⟨.inl h1, k4⟩
    simp [execOp, hop, hit, hrun, Result.andThen]
    exact hK' _ _ (hMore i x w' cnt' it' hx hlk k5 hS hlt hen)
end
/-- how many bytes the files have that came -/
def goneF (left : Lit → Bool) (E : List (Fl × Nat)) : Nat := (E.map (fun x => cond (left (.string x.1.nm)) 0 x.1.b.length)).sum
theorem gone_start (E : List (Fl × Nat)) : goneF (has (dOf E)) E = 0 := by
  have h : ∀ E' : List (Fl × Nat), (∀ x ∈ E', x ∈ E) → (E'.map (fun x => cond (has (dOf E) (.string x.1.nm)) 0 x.1.b.length)).sum = 0 := by
    intro E'
    induction E' with
    | nil => intro _; rfl
    | cons x r ih =>
      intro hx
      rw [List.map_cons, List.sum_cons, ih (fun y hy => hx y (List.mem_cons_of_mem _ hy)), has_mem (hx x (by simp))]; rfl
  exact h E (fun x hx => hx)
theorem gone_end {left : Lit → Bool} (h : ∀ kl, left kl = false) (E : List (Fl × Nat)) : goneF left E = usedF (flsOf E) := by
  unfold goneF usedF flsOf
  rw [List.map_map]
  congr 1
  apply List.map_congr_left
  intro x _
  simp [h]
theorem gone_step {left : Lit → Bool} : ∀ {E : List (Fl × Nat)} {i : Nat} {x : Fl × Nat}, (flsOf E).Pairwise (fun a b => bytesBefore a.nm b.nm = true) → E[i]? = some x → left (.string x.1.nm) = true → goneF (fun z => left z && !z.sameKey (.string x.1.nm)) E = goneF left E + x.1.b.length
  | [], i, x, _, h, _ => by simp at h
  | y :: r, i, x, hs, h, hl => by
    unfold goneF
    simp only [List.map_cons, List.sum_cons, same_str]
    simp only [flsOf, List.map_cons, List.pairwise_cons] at hs
    cases i with
    | zero =>
      simp at h
      subst h
      have e : r.map (fun z => cond (left (.string z.1.nm) && !(z.1.nm == y.1.nm)) 0 z.1.b.length) = r.map (fun z => cond (left (.string z.1.nm)) 0 z.1.b.length) := by
        apply List.map_congr_left
        intro z hz
        have : (z.1.nm == y.1.nm) = false := by
          rw [beq_eq_false_iff_ne]
          intro e
          have := hs.1 z.1 (List.mem_map.2 ⟨z, hz, rfl⟩)
          rw [e, bb_irr] at this; cases this
        rw [this]; simp
      rw [e]
      simp [hl]; omega
    | succ i =>
      have hx : r[i]? = some x := by simpa using h
      have ih := gone_step (left := left) hs.2 hx hl
      unfold goneF at ih
      simp only [same_str] at ih
      rw [ih]
      have : (y.1.nm == x.1.nm) = false := by
        rw [beq_eq_false_iff_ne]
        intro e
        have := hs.1 x.1 (List.mem_map.2 ⟨x, List.mem_of_getElem? hx, rfl⟩)
        rw [e, bb_irr] at this; cases this
      rw [this]; simp; omega
theorem gone_le {left : Lit → Bool} : ∀ E : List (Fl × Nat), goneF left E ≤ usedF (flsOf E)
  | [] => Nat.le_refl _
  | x :: r => by
    have := gone_le (left := left) r
    unfold goneF usedF flsOf at this ⊢
    simp only [List.map_cons, List.sum_cons]
    cases left (.string x.1.nm) <;> simp only [cond_true, cond_false] <;> omega
section
variable {W w : World} {p m : Nat} {d : Dk} {E : List (Fl × Nat)} {X : List Asn} {n : List UInt8}
theorem aFile.cells {x : Fl × Nat} (h : St W w (aFile x :: X)) : ∃ A c, w.cell? ⟨x.2, 0, none⟩ = some (.slice A x.1.b.length c) ∧ w.cell? ⟨x.2, 1, none⟩ = some (.int .i64 (x.1.sure : Int)) := by
  obtain ⟨v, h1, h2⟩ := aFile.get h
  obtain ⟨A, c, rfl⟩ := own_slice h2
  have c0 := h1.cell 0
  have c1 := h1.cell 1
  simp at c0 c1
  exact ⟨A, c, c0, c1⟩
theorem rest.pick {L : List Asn} {i : Nat} {x : Fl × Nat} (h : St W w (L ++ (E.map aFile ++ X))) (hx : E[i]? = some x) : ∃ Y, St W w (aFile x :: Y) := by
  refine ⟨L ++ ((E.take i ++ E.drop (i + 1)).map aFile ++ X), h.perm ?_⟩
  have h1 := (perm_pick (L := E.map aFile) (i := i) (a := aFile x) (by rw [List.getElem?_map, hx]; rfl)).append_right X
  rw [← List.map_take, ← List.map_drop, ← List.map_append] at h1
  simp only [List.cons_append] at h1
  exact (h1.append_left L).trans List.perm_middle
set_option maxRecDepth 20000 in
set_option maxHeartbeats 2000000 in
theorem used_c (h : St W w (dkL p m d E ++ X)) (hE : DkE d (m, E)) : Calls Try.prog 12 #[.pointer (some ⟨p, 0, none⟩)] w fun e w' => e = .returned (.int .i64 (usedF d.R : Int)) ∧ B w w' := by
  have hb := dkL.blk h
  have c1 := hb.cell 1
  simp at c1
  have HN := Lib.hid (none_c hb)
  have hs := hE.1.rise
  rw [← hE.2] at hs
  have HS := Lib.hid hs
  have hu : usedF (flsOf E) ≤ 4194304 := by rw [hE.2]; have := hE.1.used; have := hE.1.room; omega
  have HU := Lib.hid hu
  rw [← hE.2]
  obtain ⟨n0, hmap⟩ := aMap.get h.swap
  have HM := Lib.hid hmap
  have HML := Lib.hid hmap.lt
  have HF := Lib.hid (show ∀ (w' : World) (i : Nat) (x : Fl × Nat), B w w' → E[i]? = some x → ∃ A c, w'.cell? ⟨x.2, 0, none⟩ = some (.slice A x.1.b.length c) from fun w' i x hb hx => by
    obtain ⟨Y, hY⟩ := rest.pick (L := [_, _]) h hx
    obtain ⟨A, c, k1, _⟩ := aFile.cells hY
    exact ⟨A, c, hb.cell k1⟩)
  clear h hE hb hmap hs
  go_enter Try.func12, Try.ntmps12
  go_wp2_with (first
    | (go_at_call 43; (with_reducible refine HN.out.mono ?_); rintro e w1 ⟨rfl, rfl⟩)
    | (at_range; refine wpList_range_R rfl (.tmp 11) rfl HM.out rfl (St.nil _) ?_; intro w1 it1 hR hS; have HR1 := Lib.hid hR; have HS1 := Lib.hid hS; clear hR hS))
  go_frame
  go_loopw [3] (fun s wr => ∃ (left : Lit → Bool) (cnt : Nat) (it : Obj), s = .int .i64 (goneF left E : Int) ∧ Hid (∀ kl, left kl = true → has (dOf E) kl = true) ∧ Hid (Rng w m w.heap.size E left cnt it) ∧ Hid (St w wr [aObj w.heap.size it])) (fun _ wr => wr.rangeLeft m w.heap.size)
  case atStart => exact ⟨_, _, it1, by rw [gone_start]; rfl, fun kl h => h, HR1.out, HS1.out⟩
  case round =>
    obtain ⟨left, cnt, it, rfl, HL, HR, HW⟩ := hrel
    have HG := Lib.hid (gone_le (left := left) E)
    have hg : (goneF left E : Int) ≤ 4194304 := by have := HG.out; omega
    have HLe := Lib.hid (HR.out.left_ HML.out HW.out)
    clear HR1 HS1
    go_wp2_with (first
      | (at_next; refine wpList_next_R rfl (.tmp 12) rfl HS.out HL.out HML.out rfl HR.out HW.out ?_ ?_))
    · intro hl
      have E1 := Lib.hid (gone_end hl E)
      go_wp2
      go_ret
      exact ⟨retI (by rw [E1.out]), HW.out.b⟩
    · intro i y g w2 cnt2 it2 hx hlx hR2 hS2 hlt hen
      have HX := Lib.hid hx
      obtain ⟨A, c, hc⟩ := HF.out w2 i (y, g) hS2.b hx
      have E1 := Lib.hid (gone_step HS.out hx hlx)
      have HR2 := Lib.hid hR2
      have HS2 := Lib.hid hS2
      have HLT := Lib.hid hlt
      have HG2 := Lib.hid (gone_le (left := fun z => left z && !z.sameKey (.string y.nm)) E)
      have hg2 : (goneF left E : Int) + (y.b.length : Int) ≤ 4194304 := by have := HG2.out; rw [E1.out] at this; simp only at this; omega
      simp only at hc hg2 hen
      clear hx hlx hR2 hS2 hlt
      go_wp2
      go_roundw
      case rel => exact ⟨_, cnt2, it2, by rw [E1.out]; go_num, fun kl hk => HL.out kl (by simp at hk; exact hk.1), HR2.out, HS2.out⟩
      case measure => rw [HR2.out.left_ HML.out HS2.out, HLe.out]; exact HLT.out
end
end Go.Proofs.Ytnpjfjgnhadmjaa

/- Room, Synced, Get, Sync, Restart, Append of a disk. -/
namespace Go.Proofs.Ytnpjfjgnhadmjaa
open Go.RowKit Go.Maps Go.Deep
set_option linter.unusedVariables false

section
variable {W w : World} {p m : Nat} {d : Dk} {E : List (Fl × Nat)} {X : List Asn} {n : List UInt8}
theorem turn_open {i : Nat} {x : Fl × Nat} (h : St W w (dkL p m d E ++ X)) (hi : E[i]? = some x) : ∃ A c,
    St W w (aBlk x.2 73 #[.slice A x.1.b.length c, .int .i64 (x.1.sure : Int)] :: aRow 5 1 (.slice A x.1.b.length c) x.1.b.length (cellsB x.1.b) :: aBlk p 58 #[.int .i64 d.room, .map (some m), .bool d.off] :: aMap Try.prog 9 m (dOf E) :: ((E.take i ++ E.drop (i + 1)).map aFile ++ X)) := by
  obtain ⟨v, hv⟩ := aFile.open_ (dkL.pick h hi)
  obtain ⟨A, c, rfl⟩ := St.rowSlice hv.swap
  exact ⟨A, c, hv⟩
theorem set_fls {i : Nat} (y : Fl × Nat) : flsOf (E.set i y) = (flsOf E).set i y.1 := by simp [flsOf, List.map_set]
theorem turn_back {i : Nat} {x : Fl × Nat} {v : Value} {f' : Fl} (hE : DkE d (m, E)) (hi : E[i]? = some x) (hn : f'.nm = x.1.nm) (hok : ({ d with R := d.R.set i f' } : Dk).ok)
    (h : St W w (aBlk x.2 73 #[v, .int .i64 (f'.sure : Int)] :: aRow 5 1 v f'.b.length (cellsB f'.b) :: aBlk p 58 #[.int .i64 d.room, .map (some m), .bool d.off] :: aMap Try.prog 9 m (dOf E) :: ((E.take i ++ E.drop (i + 1)).map aFile ++ X))) :
    St W w (aDisk p { d with R := d.R.set i f' } :: X) := by
  have h1 := aFile.shut (x := (f', x.2)) h
  have h2 := dkL.unpick (d := d) (d' := { d with R := d.R.set i f' }) (y := (f', x.2)) hi ⟨rfl, rfl⟩ hn rfl h1
  exact aDisk.shut (E := E.set i (f', x.2)) ⟨hok, by rw [set_fls, hE.2]⟩ h2
theorem turn_some {i : Nat} {e : Int} {f : Fl} {g : Fl → Int × Fl} (hm : mayF d n = (some i, e)) (hf : d.R[i]? = some f) : turnF d n g = ((g f).1, { d with R := d.R.set i (g f).2 }) := by
  unfold turnF; rw [hm]; simp only; rw [hf]
theorem turn_none {e : Int} {g : Fl → Int × Fl} (hm : mayF d n = (none, e)) : turnF d n g = (e, d) := by
  unfold turnF; rw [hm]
theorem room_c (h : St W w (dkL p m d E ++ X)) (hE : DkE d (m, E)) : Calls Try.prog 30 #[.pointer (some ⟨p, 0, none⟩)] w fun e w' => e = .returned (.int .i64 (d.room - (usedF d.R : Int))) ∧ B w w' := by
  have hb := dkL.blk h
  have HN := Lib.hid (none_c hb)
  have l0 : ∀ w', B w w' → w'.cell? ⟨p, 0, none⟩ = some (.int .i64 d.room) := fun w' h => h.cell (by have := hb.cell 0; simpa using this)
  have HU := Lib.hid (fun w' (hw : B w w') => used_c (h.later hw) hE)
  have hr := hE.1.room
  have hu := hE.1.used
  obtain ⟨hr1, hr2⟩ := hr
  have hu0 : (0 : Int) ≤ (usedF d.R : Int) := by omega
  have hq : IntKind.i64.wrap (d.room - (usedF d.R : Int)) = d.room - (usedF d.R : Int) := by simp [IntKind.wrap, IntKind.signed, IntKind.bits]; omega
  clear h hE hb
  go_enter Try.func30, Try.ntmps30
  go_wp2_with (first | (go_at_call 43; (with_reducible refine HN.out.mono ?_); rintro e w1 ⟨rfl, rfl⟩))
  go_region_held3 (fun w' => B w w') (first | assumption | exact (Below.refl _ _).drew | exact B.trans (by assumption) hb2 | exact B.trans (by assumption) (Below.refl _ _).drew) (first
    | (go_at_call 12; (with_reducible refine (HU.out _ (by assumption)).mono ?_); rintro e w2 ⟨rfl, hb2⟩))
  all_goals
    have hlast := ‹B w _›
    go_wp2_with fail
    go_ret
    exact ⟨rfl, hlast⟩
theorem synced_c (h : St W w (aDisk p d :: X)) (hn : n.length ≤ maxLen) : Calls Try.prog 18 #[.pointer (some ⟨p, 0, none⟩), .string (bstr n)] w fun e w' => e = .returned (.tuple #[.int .i64 ((syncedF d n).1 : Int), .int .i64 (syncedF d n).2]) ∧ w = w' := by
  obtain ⟨m, E, hE, h⟩ := aDisk.open_ h
  cases hm : mayF d n with
  | mk o er =>
  cases o with
  | none =>
    have hf : syncedF d n = (0, er) := by unfold syncedF; rw [hm]
    have HF := Lib.hid (find_no h hE hn hm)
    have q1 : (er != 0) = true := by simpa using may_none hm
    rw [hf]
    clear h hE hn hm hf
    go_enter Try.func18, Try.ntmps18
    go_wp2_with (first | (go_at_call 50; (with_reducible refine HF.out.mono ?_); rintro e w1 ⟨rfl, rfl⟩))
    go_ret2
    exact ⟨rfl, rfl⟩
  | some i =>
    obtain ⟨_, x, hx, _, hd⟩ := may_on hE hm
    have hf : syncedF d n = (x.1.sure, 0) := by unfold syncedF; rw [hm]; simp only; rw [hd]; rfl
    have HF := Lib.hid (find_yes h hE hn hm hx)
    obtain ⟨A, c, c0, c1⟩ := aFile.cells (dkL.pick h hx)
    rw [hf]
    obtain ⟨y, g⟩ := x
    simp only at c0 c1
    clear h hE hn hm hf hx hd
    go_enter Try.func18, Try.ntmps18
    go_wp2_with (first | (go_at_call 50; (with_reducible refine HF.out.mono ?_); rintro e w1 ⟨rfl, rfl⟩))
    go_ret2
    exact ⟨rfl, rfl⟩
theorem small_file (hE : DkE d (m, E)) {i : Nat} {x : Fl × Nat} (hx : E[i]? = some x) : x.1.b.length ≤ 4194304 := by
  have h1 : x.1 ∈ d.R := by rw [← hE.2]; exact List.mem_map.2 ⟨x, List.mem_of_getElem? hx, rfl⟩
  obtain ⟨j, hj, e⟩ := List.mem_iff_getElem.1 h1
  have h2 := used_drop (R := d.R) (i := j) (f := x.1) (by rw [List.getElem?_eq_getElem hj, e])
  have := hE.1.used
  have := hE.1.room
  omega
theorem file_bs (hE : DkE d (m, E)) {i : Nat} {x : Fl × Nat} (hx : E[i]? = some x) (h : St W w (dkL p m d E ++ X)) : ∃ A c, w.cell? ⟨x.2, 0, none⟩ = some (.slice A x.1.b.length c) ∧ Bs w (.slice A x.1.b.length c) x.1.b := by
  obtain ⟨A, c, hv⟩ := turn_open h hx
  refine ⟨A, c, ?_, St.rowBs hv.swap rfl (by have := small_file hE hx; unfold big; omega)⟩
  have := (aBlk.get hv).cell 0
  simpa using this
theorem get_c (h : St W w (aDisk p d :: X)) (hn : n.length ≤ maxLen) : Calls Try.prog 17 #[.pointer (some ⟨p, 0, none⟩), .string (bstr n)] w fun e w' => ∃ v, e = .returned (.tuple #[v, .int .i64 (getF d n).2]) ∧ St W w' (aBy v (getF d n).1 :: aDisk p d :: X) := by
  have H0 := Lib.hid h
  obtain ⟨m, E, hE, h⟩ := aDisk.open_ h
  cases hm : mayF d n with
  | mk o er =>
  cases o with
  | none =>
    have hf : getF d n = ([], er) := by unfold getF; rw [hm]
    have HF := Lib.hid (find_no h hE hn hm)
    have q1 : (er != 0) = true := by simpa using may_none hm
    rw [hf]
    clear h hE hn hm hf
    go_enter Try.func17, Try.ntmps17
    go_wp2_with (first | (go_at_call 50; (with_reducible refine HF.out.mono ?_); rintro e w1 ⟨rfl, rfl⟩))
    go_ret2
    exact ⟨_, rfl, aBy.nil H0.out⟩
  | some i =>
    obtain ⟨_, x, hx, _, hd⟩ := may_on hE hm
    have hf : getF d n = (x.1.b, 0) := by unfold getF; rw [hm]; simp only; rw [hd]; rfl
    have HF := Lib.hid (find_yes h hE hn hm hx)
    obtain ⟨A, c, c0, hbs⟩ := file_bs hE hx h
    have HC := Lib.hid (sclone_c hbs)
    rw [hf]
    obtain ⟨y, g⟩ := x
    simp only at c0 HC
    clear h hE hn hm hf hx hd hbs
    go_enter Try.func17, Try.ntmps17
    go_wp2_with (first
      | (go_at_call 50; (with_reducible refine HF.out.mono ?_); rintro e w1 ⟨rfl, rfl⟩)
      | (go_at_call 51; (with_reducible refine HC.out.mono ?_); rintro e w2 ⟨v2, rfl, r2, hb2⟩; have HS := Lib.hid (H0.out.addRow hb2 r2); clear r2 hb2))
    go_ret2
    exact ⟨_, rfl, HS.out⟩
theorem sync_c (h : St W w (aDisk p d :: X)) (hn : n.length ≤ maxLen) : Calls Try.prog 26 #[.pointer (some ⟨p, 0, none⟩), .string (bstr n)] w fun e w' => e = .returned (.int .i64 (syncF d n).1) ∧ St W w' (aDisk p (syncF d n).2 :: X) := by
  have H0 := Lib.hid h
  obtain ⟨m, E, hE, h⟩ := aDisk.open_ h
  cases hm : mayF d n with
  | mk o er =>
  cases o with
  | none =>
    have hf : syncF d n = (er, d) := turn_none hm
    have HF := Lib.hid (find_no h hE hn hm)
    have q1 : (er == 0) = false := by simpa using may_none hm
    rw [hf]
    clear h hE hn hm hf
    go_enter Try.func26, Try.ntmps26
    go_wp2_with (first | (go_at_call 50; (with_reducible refine HF.out.mono ?_); rintro e w1 ⟨rfl, rfl⟩))
    go_ret
    exact ⟨rfl, H0.out⟩
  | some i =>
    obtain ⟨_, x, hx, _, hd⟩ := may_on hE hm
    have hf : syncF d n = (0, { d with R := d.R.set i ⟨x.1.nm, x.1.b, x.1.b.length⟩ }) := turn_some hm hd
    have hok := sync_ok hE.1 n
    rw [hf] at hok ⊢
    have HF := Lib.hid (find_yes h hE hn hm hx)
    obtain ⟨A, c, hv⟩ := turn_open h hx
    have hb := aBlk.get hv
    have c0 := hb.cell 0
    have c1 := hb.cell 1
    have f1 := hb.frozen 1
    simp at c0 c1
    have HB := Lib.hid (turn_back (f' := ⟨x.1.nm, x.1.b, x.1.b.length⟩) hE hx rfl hok (aBlk.set hv 1 (.int .i64 (x.1.b.length : Int))))
    obtain ⟨y, g⟩ := x
    simp only at c0 c1 f1 HF
    clear h hE hn hm hf hx hd hv hb hok
    go_enter Try.func26, Try.ntmps26
    go_wp2_with (first | (go_at_call 50; (with_reducible refine HF.out.mono ?_); rintro e w1 ⟨rfl, rfl⟩))
    go_ret
    exact ⟨rfl, HB.out⟩
theorem dk_off (h : St W w (dkL p m d E ++ X)) (hE : DkE d (m, E)) (o : Bool) : St W (w.setCell ⟨p, 2, none⟩ (.bool o)) (aDisk p { d with off := o } :: X) := by
  have h1 := aBlk.set h 2 (.bool o)
  exact aDisk.shut (m := m) (E := E) ⟨⟨hE.1.rise, hE.1.sure, hE.1.used, hE.1.room, hE.1.many⟩, hE.2⟩ h1
theorem restart_c (h : St W w (aDisk p d :: X)) : Calls Try.prog 20 #[.pointer (some ⟨p, 0, none⟩)] w fun e w' => e = .returned (.int .i64 (restartF d).1) ∧ St W w' (aDisk p (restartF d).2 :: X) := by
  have H0 := Lib.hid h
  obtain ⟨m, E, hE, h⟩ := aDisk.open_ h
  have hb := dkL.blk h
  have HN := Lib.hid (none_c hb)
  have c2 := hb.cell 2
  have f2 := hb.frozen 2
  simp at c2
  have HO := Lib.hid (dk_off h hE false)
  unfold restartF
  cases ho : d.off
  all_goals
    rw [ho] at c2
    clear h hE hb ho
    go_enter Try.func20, Try.ntmps20
    go_wp2_with (first | (go_at_call 43; (with_reducible refine HN.out.mono ?_); rintro e w1 ⟨rfl, rfl⟩))
    go_ret
  · exact ⟨rfl, H0.out⟩
  · exact ⟨rfl, HO.out⟩
set_option maxRecDepth 20000 in
theorem append_c {u : Value} {b : List UInt8} (h : St W w (aDisk p d :: X)) (hn : n.length ≤ maxLen) (hu : Bs w u b) (hbl : b.length ≤ 4194304000) : Calls Try.prog 24 #[.pointer (some ⟨p, 0, none⟩), .string (bstr n), u] w fun e w' => e = .returned (.int .i64 (appendF d n b).1) ∧ St W w' (aDisk p (appendF d n b).2 :: X) := by
  have H0 := Lib.hid h
  obtain ⟨m, E, hE, h⟩ := aDisk.open_ h
  obtain ⟨Au, cu, hus⟩ := hu.rd.slice
  cases hm : mayF d n with
  | mk o er =>
  cases o with
  | none =>
    have hf : appendF d n b = (er, d) := turn_none hm
    have HF := Lib.hid (find_no h hE hn hm)
    have q1 : (er != 0) = true := by simpa using may_none hm
    rw [hf]
    subst hus
    clear h hE hn hm hf hu
    go_enter Try.func24, Try.ntmps24
    go_wp2_with (first | (go_at_call 50; (with_reducible refine HF.out.mono ?_); rintro e w1 ⟨rfl, rfl⟩))
    go_ret
    exact ⟨rfl, H0.out⟩
  | some i =>
    obtain ⟨_, x, hx, _, hd⟩ := may_on hE hm
    have hf := turn_some (g := fun f => if d.room - usedF d.R < (b.length : Int) then (30, f) else (0, ⟨f.nm, f.b ++ b, f.sure⟩)) hm hd
    have hok := append_ok hE.1 n b
    unfold appendF at hok ⊢
    rw [hf] at hok ⊢
    have HF := Lib.hid (find_yes h hE hn hm hx)
    have HR := Lib.hid (room_c h hE)
    by_cases hlt : d.room - usedF d.R < (b.length : Int)
    · rw [if_pos hlt]
      simp only
      have hs : ({ d with R := d.R.set i x.1 } : Dk) = d := by
        have : d.R.set i x.1 = d.R := by
          apply List.ext_getElem?
          intro j
          rw [List.getElem?_set]
          split
          · rename_i e
            subst e
            split
            · exact hd.symm
            · rename_i hh; rw [List.getElem?_eq_none (by omega)]
          · rfl
        rw [this]
      rw [hs]
      subst hus
      clear h hE hn hm hf hu hok hx hd hs
      go_enter Try.func24, Try.ntmps24
      go_wp2_with (first
        | (go_at_call 50; (with_reducible refine HF.out.mono ?_); rintro e w1 ⟨rfl, rfl⟩)
        | (go_at_call 30; (with_reducible refine HR.out.mono ?_); rintro e w2 ⟨rfl, hb2⟩; have HB2 := Lib.hid hb2; clear hb2))
      go_ret
      exact ⟨rfl, H0.out.later HB2.out⟩
    · rw [if_neg hlt] at hok ⊢
      simp only at hok ⊢
      obtain ⟨A, c, hv⟩ := turn_open h hx
      have HV := Lib.hid (fun w' (hb : B w w') => hv.later hb)
      have HUB := Lib.hid (fun w' (hb : B w w') => (hu.later hb).rd)
      have hxl := small_file hE hx
      have g1 : x.1.b.length + b.length ≤ maxLen := by unfold maxLen; omega
      have g2 : (x.1.b.length + b.length) * 1 ≤ 140737488355328 := by omega
      have HK := Lib.hid (fun (w' : World) (A' : Option Addr) (c' : Nat) (hS : St W w' (aRow 5 1 (.slice A' (x.1.b.length + b.length) c') (x.1.b.length + b.length) (cellsB x.1.b ++ cellsB b) :: aBlk x.2 73 #[.slice A x.1.b.length c, .int .i64 (x.1.sure : Int)] :: aBlk p 58 #[.int .i64 d.room, .map (some m), .bool d.off] :: aMap Try.prog 9 m (dOf E) :: ((E.take i ++ E.drop (i + 1)).map aFile ++ X))) =>
        show St W (w'.setCell ⟨x.2, 0, none⟩ (.slice A' (x.1.b.length + b.length) c')) (aDisk p { d with R := d.R.set i ⟨x.1.nm, x.1.b ++ b, x.1.sure⟩ } :: X) from
        turn_back (f' := ⟨x.1.nm, x.1.b ++ b, x.1.sure⟩) hE hx rfl hok (by
          have := aBlk.set hS.swap 0 (.slice A' (x.1.b.length + b.length) c')
          rw [← cellsB_app, ← List.length_append] at this
          rw [← List.length_append]
          exact this))
      have HC := Lib.hid (fun (w' : World) (A' : Option Addr) (c' : Nat) (hS : St W w' (aRow 5 1 (.slice A' (x.1.b.length + b.length) c') (x.1.b.length + b.length) (cellsB x.1.b ++ cellsB b) :: aBlk x.2 73 #[.slice A x.1.b.length c, .int .i64 (x.1.sure : Int)] :: aBlk p 58 #[.int .i64 d.room, .map (some m), .bool d.off] :: aMap Try.prog 9 m (dOf E) :: ((E.take i ++ E.drop (i + 1)).map aFile ++ X))) => show w'.cell? ⟨x.2, 0, none⟩ = some (.slice A x.1.b.length c) ∧ w'.frozen? ⟨x.2, 0, none⟩ = false from
        ⟨by have := (aBlk.get hS.swap).cell 0; simpa using this, (aBlk.get hS.swap).frozen 0⟩)
      have HC0 := Lib.hid (fun (w' : World) (hb : B w w') => show w'.cell? ⟨x.2, 0, none⟩ = some (.slice A x.1.b.length c) from hb.cell (by have := (aBlk.get hv).cell 0; simpa using this))
      subst hus
      obtain ⟨y, g⟩ := x
      simp only at HF HV g1 g2 HK HC HC0
      have o1 := cellsB_one b
      clear h hE hn hm hf hu hok hx hd hv hxl
      go_enter Try.func24, Try.ntmps24
      go_wp2_with (first
        | (go_at_call 50; (with_reducible refine HF.out.mono ?_); rintro e w1 ⟨rfl, rfl⟩)
        | (go_at_call 30; (with_reducible refine HR.out.mono ?_); rintro e w2 ⟨rfl, hb2⟩; have HB2 := Lib.hid hb2; have k0 := HC0.out _ hb2; clear hb2)
        | (at_builtin; refine wpList_append_St rfl (.tmp 27) (.tmp 28) 31 rfl Try.underlying31 info5 rfl Nat.zero_lt_one rfl rfl (HV.out _ HB2.out).swap (HUB.out _ HB2.out) o1 g1 g2 ?_; intro A3 c3 w3 hS; have H3 := Lib.hid hS; obtain ⟨k1, k2⟩ := HC.out _ _ _ hS; clear hS k0))
      go_ret
      exact ⟨rfl, HK.out _ _ _ H3.out⟩
end
end Go.Proofs.Ytnpjfjgnhadmjaa

/- Create, Remove, Rename of a disk. -/
namespace Go.Proofs.Ytnpjfjgnhadmjaa
open Go.RowKit Go.Maps Go.Deep
set_option linter.unusedVariables false

section
variable {P : Program} {w w' : World} {ops : Array Oper} {rest : List Oper} {o : Oper} {a : Act} {Q : Exit → Act → World → Prop}
theorem wpList_mapUpdate_run (hg : o.guard = none) (m x v : Operand) (t : TypeId) (hop : o.op = Op.mapUpdate t m x v) {mv kv vv : Value} (hm : a.eval m = mv) (hx : a.eval x = kv) (hv : a.eval v = vv)
    (hrun : (Instr.mapUpdate t mv kv vv).run P w = .ok () w') (h : wpList P ops Q rest (a.put o.dst undef) w') : wpList P ops Q (o :: rest) a w := by
  refine wpList_plain hg fun K' hK' => ?_
  unfold Oper.wp
  simp [execOp, hop, hm, hx, hv, hrun, Result.andThen]
  exact hK' _ _ h
theorem wpList_delete_run (hg : o.guard = none) (m x : Operand) (t k : TypeId) (hop : o.op = Op.call { callee := Callee.builtin Builtin.delete, args := #[m, x], argTypes := #[t, k] }) {mv kv : Value} (hm : a.eval m = mv) (hx : a.eval x = kv)
    (hrun : ∀ ty, (Builtin.delete_ #[t, k] ty #[mv, kv]).run P w = .ok (.tuple #[]) w') (h : wpList P ops Q rest (a.put o.dst (.tuple #[])) w') : wpList P ops Q (o :: rest) a w := by
  refine wpList_plain hg fun K' hK' => ?_
  unfold Oper.wp
  simp [execOp, hop, resolve, invoke, builtin, hm, hx, hrun, Result.andThen]
  exact hK' _ _ h
theorem wpList_len_run (hg : o.guard = none) (m : Operand) (t : TypeId) (hop : o.op = Op.call { callee := Callee.builtin Builtin.len, args := #[m], argTypes := #[t] }) {mv lv : Value} (hm : a.eval m = mv)
    (hrun : ∀ ty, (Builtin.len_ #[t] ty #[mv]).run P w = .ok lv w) (h : wpList P ops Q rest (a.put o.dst lv) w) : wpList P ops Q (o :: rest) a w := by
  refine wpList_plain hg fun K' hK' => ?_
  unfold Oper.wp
  simp [execOp, hop, resolve, invoke, builtin, hm, hrun, Result.andThen]
  exact hK' _ _ h
end
theorem bstr_nil (n : List UInt8) : (bstr n).toList.isEmpty = decide (n = []) := by
  rw [bstr_toList]
  cases n <;> simp
section
variable {W w : World} {p m : Nat} {d : Dk} {E : List (Fl × Nat)} {X : List Asn} {n : List UInt8}
theorem many_E (hE : DkE d (m, E)) : E.length ≤ 64 ∧ E.length = d.R.length := by
  have h1 := hE.1.many
  have h2 := congrArg List.length hE.2
  simp [flsOf] at h2
  omega
theorem dk_create (h : St W w (dkL p m d E ++ X)) (hE : DkE d (m, E)) (hn : n.length ≤ maxLen) (hok : (createF d n).2.ok) (hi : ixF n d.R = none) (hc : createF d n = (0, { d with R := insF ⟨n, [], 0⟩ d.R })) :
    ∃ w', (Instr.mapUpdate 56 (.map (some m)) (.string (bstr n)) (.pointer (some ⟨w.heap.size, 0, none⟩))).run Try.prog (w.alloc (.cells #[.slice none 0 0, .int .i64 0] 73)) = .ok () w' ∧ St W w' (aDisk p (createF d n).2 :: X) := by
  have h1 := aBlk.new h 73 #[.slice none 0 0, .int .i64 0]
  have h2 : St W (w.alloc (.cells #[.slice none 0 0, .int .i64 0] 73)) (aFile (⟨n, [], 0⟩, w.heap.size) :: (dkL p m d E ++ X)) := aFile.shut (x := (⟨n, [], 0⟩, w.heap.size)) (aBy.nil h1).swap
  have h3 := h2.rot3
  have hl := (many_E hE).1
  obtain ⟨w', r1, r2, _⟩ := aMap.store h3 ⟨_, rfl, by simp; unfold maxLen; omega⟩ strLaw Try.underlying56 (keyN hn) w.heap.size
  refine ⟨w', r1, ?_⟩
  have hs := hE.1.rise
  rw [← hE.2] at hs
  have hi' : ixF n (flsOf E) = none := by rw [hE.2]; exact hi
  rw [show (dOf E).put (.string n) (.lit (.int .i64 (w.heap.size : Int))) = dOf (insE (⟨n, [], 0⟩, w.heap.size) E) by
    have := dOf_put hs ⟨n, [], 0⟩ w.heap.size
    rw [dropE_none hi'] at this
    exact this] at r2
  rw [hc] at hok ⊢
  refine aDisk.shut (m := m) (E := insE (⟨n, [], 0⟩, w.heap.size) E) ⟨hok, by rw [insE_fls, hE.2]⟩ (r2.perm ?_)
  unfold dkL
  have h4 := ((insE_perm (⟨n, [], 0⟩, w.heap.size) E).map aFile).append_right X
  simp only [List.cons_append, List.map_cons] at h4 ⊢
  refine (List.Perm.trans ?_ (List.Perm.cons _ (List.Perm.cons _ h4.symm)))
  exact (List.Perm.cons _ (List.Perm.swap _ _ _)).trans (List.Perm.swap _ _ _)
set_option maxRecDepth 20000 in
theorem create_c (h : St W w (aDisk p d :: X)) (hn : n.length ≤ maxLen) : Calls Try.prog 23 #[.pointer (some ⟨p, 0, none⟩), .string (bstr n)] w fun e w' => e = .returned (.int .i64 (createF d n).1) ∧ St W w' (aDisk p (createF d n).2 :: X) := by
  have H0 := Lib.hid h
  obtain ⟨m, E, hE, h⟩ := aDisk.open_ h
  have hb := dkL.blk h
  have c1 := hb.cell 1
  simp at c1
  have HC := Lib.hid (can_c hb)
  have q0 := bstr_nil n
  cases ho : d.off with
  | true =>
    rw [ho] at HC
    have hf : createF d n = (32, d) := by unfold createF; rw [if_pos ho]
    rw [hf]
    clear h hE hn hb ho hf
    go_enter Try.func23, Try.ntmps23
    go_wp2_with (first | (go_at_call 52; (with_reducible refine HC.out.mono ?_); rintro e w1 ⟨rfl, rfl⟩))
    go_ret
    exact ⟨rfl, H0.out⟩
  | false =>
    rw [ho] at HC
    have ho' : ¬ d.off = true := by rw [ho]; simp
    by_cases h1 : n = []
    · have hf : createF d n = (1, d) := by unfold createF; rw [if_neg ho', if_pos h1]
      rw [hf]
      rw [decide_eq_true h1] at q0
      clear h hE hn hb ho hf ho'
      subst h1
      go_enter Try.func23, Try.ntmps23
      go_wp2_with (first | (go_at_call 52; (with_reducible refine HC.out.mono ?_); rintro e w1 ⟨rfl, rfl⟩))
      go_ret
      exact ⟨rfl, H0.out⟩
    · rw [decide_eq_false h1] at q0
      cases hi : ixF n d.R with
      | some i =>
        have hf : createF d n = (31, d) := by unfold createF; rw [if_neg ho', if_neg h1, if_pos (by rw [hi]; rfl)]
        obtain ⟨x, hx, _⟩ := dOf_at (E := E) (n := n) (i := i) (by rw [hE.2]; exact hi)
        have hl := look_yes h hn (by rw [hE.2]; exact hi) hx
        rw [hf]
        generalize x.2 = g at *
        clear h hE hn hb ho hf ho' h1 hi hx
        go_enter Try.func23, Try.ntmps23
        go_wp2_with (first | (go_at_call 52; (with_reducible refine HC.out.mono ?_); rintro e w1 ⟨rfl, rfl⟩))
        go_ret
        exact ⟨rfl, H0.out⟩
      | none =>
        have hl := look_no h hn (by rw [hE.2]; exact hi)
        have hlen := fun ty => aMap.len h.swap Try.underlying56 ty
        rw [dOf_size] at hlen
        have hme := many_E hE
        by_cases h2 : 64 ≤ d.R.length
        · have hf : createF d n = (6, d) := by unfold createF; rw [if_neg ho', if_neg h1, if_neg (by rw [hi]; simp), if_pos h2]
          have he : E.length = 64 := by omega
          rw [he] at hlen
          rw [hf]
          have HLN := Lib.hid hlen
          clear h hE hn hb ho hf ho' h1 hi hme h2 he hlen
          go_enter Try.func23, Try.ntmps23
          go_wp2_with (first
            | (go_at_call 52; (with_reducible refine HC.out.mono ?_); rintro e w1 ⟨rfl, rfl⟩)
            | (at_len; refine wpList_len_run rfl (.tmp 26) 56 rfl rfl HLN.out ?_))
          go_ret
          exact ⟨rfl, H0.out⟩
        · have hf : createF d n = (0, { d with R := insF ⟨n, [], 0⟩ d.R }) := by unfold createF; rw [if_neg ho', if_neg h1, if_neg (by rw [hi]; simp), if_neg h2]; rfl
          obtain ⟨w', hrun, hS⟩ := dk_create h hE hn (create_ok hE.1 n) hi hf
          rw [hf] at hS ⊢
          have HS := Lib.hid hS
          have HRN := Lib.hid hrun
          have HLN := Lib.hid hlen
          have he : (E.length : Int) < 64 := by omega
          clear h hE hn hb ho hf ho' h1 hi hme h2 hlen hS hrun
          go_enter Try.func23, Try.ntmps23
          go_wp2_with (first
            | (go_at_call 52; (with_reducible refine HC.out.mono ?_); rintro e w1 ⟨rfl, rfl⟩)
            | (at_mapUpdate; refine wpList_mapUpdate_run rfl (.tmp 32) (.tmp 33) (.tmp 35) 56 rfl rfl rfl rfl HRN.out ?_)
            | (at_len; refine wpList_len_run rfl (.tmp 26) 56 rfl rfl HLN.out ?_))
          go_ret
          exact ⟨rfl, HS.out⟩
theorem dk_remove {i : Nat} {x : Fl × Nat} {er : Int} (h : St W w (dkL p m d E ++ X)) (hE : DkE d (m, E)) (hn : n.length ≤ maxLen) (hm : mayF d n = (some i, er)) (hx : E[i]? = some x) :
    ∃ w', (∀ ty, (Builtin.delete_ #[56, 9] ty #[.map (some m), .string (bstr n)]).run Try.prog w = .ok (.tuple #[]) w') ∧ St W w' (aFile x :: (dkL p m d (dropE n E) ++ X)) := by
  have h1 := dkL.pick h hx
  have hs := hE.1.rise
  rw [← hE.2] at hs
  obtain ⟨w', r1, r2, r3⟩ := aMap.drop (T := 56) h1.rot3 strLaw Try.underlying56 (keyN hn) 0
  refine ⟨w', fun ty => r1, ?_⟩
  rw [dOf_del hs] at r2
  have hd : dropE n E = E.take i ++ E.drop (i + 1) := by unfold dropE; rw [(may_on hE hm).1]
  rw [hd] at r2 ⊢
  unfold dkL
  exact r2.perm ((List.Perm.swap _ _ _).trans (List.Perm.cons _ (List.Perm.swap _ _ _)))
set_option maxRecDepth 20000 in
theorem remove_c (h : St W w (aDisk p d :: X)) (hn : n.length ≤ maxLen) : Calls Try.prog 29 #[.pointer (some ⟨p, 0, none⟩), .string (bstr n)] w fun e w' => e = .returned (.int .i64 (removeF d n).1) ∧ St W w' (aDisk p (removeF d n).2 :: X) := by
  have H0 := Lib.hid h
  obtain ⟨m, E, hE, h⟩ := aDisk.open_ h
  have hb := dkL.blk h
  have c1 := hb.cell 1
  simp at c1
  cases hm : mayF d n with
  | mk o er =>
  cases o with
  | none =>
    have hf : removeF d n = (er, d) := by unfold removeF; rw [hm]
    have HF := Lib.hid (find_no h hE hn hm)
    have q1 : (er == 0) = false := by simpa using may_none hm
    rw [hf]
    clear h hE hn hm hf hb
    go_enter Try.func29, Try.ntmps29
    go_wp2_with (first | (go_at_call 50; (with_reducible refine HF.out.mono ?_); rintro e w1 ⟨rfl, rfl⟩))
    go_ret
    exact ⟨rfl, H0.out⟩
  | some i =>
    obtain ⟨hix, x, hx, _, hd⟩ := may_on hE hm
    have hf : removeF d n = (0, { d with R := d.R.take i ++ d.R.drop (i + 1) }) := by unfold removeF; rw [hm]
    have hok := remove_ok hE.1 n
    have HF := Lib.hid (find_yes h hE hn hm hx)
    obtain ⟨w', hrun, hS⟩ := dk_remove h hE hn hm hx
    have HRN := Lib.hid hrun
    rw [hf] at hok ⊢
    have HS := Lib.hid (show St W w' (aDisk p { d with R := d.R.take i ++ d.R.drop (i + 1) } :: X) from aDisk.shut (m := m) (E := dropE n E) ⟨hok, by rw [dropE_fls, hE.2]; unfold dropF; rw [show ixF n d.R = some i by rw [← hE.2]; exact hix]⟩ hS.drop)
    clear h hE hn hm hf hb hok hS hrun hx hd hix
    go_enter Try.func29, Try.ntmps29
    go_wp2_with (first
      | (go_at_call 50; (with_reducible refine HF.out.mono ?_); rintro e w1 ⟨rfl, rfl⟩)
      | (at_delete; refine wpList_delete_run rfl (.tmp 18) (.tmp 19) 56 9 rfl rfl rfl HRN.out ?_))
    go_ret
    exact ⟨rfl, HS.out⟩
theorem ins_self {E : List (Fl × Nat)} (hs : (flsOf E).Pairwise (fun a b => bytesBefore a.nm b.nm = true)) {i : Nat} {x : Fl × Nat} (hx : E[i]? = some x) : insE x (dropE x.1.nm E) = E := by
  have hi := ix_self hs hx
  have hd : dropE x.1.nm E = E.take i ++ E.drop (i + 1) := by unfold dropE; rw [hi]
  have hs' : (flsOf (insE x (dropE x.1.nm E))).Pairwise (fun a b => bytesBefore a.nm b.nm = true) := by
    rw [insE_fls, dropE_fls]
    exact ins_rise (dropF_rise hs _) _ (dropF_not hs _)
  have hp : (insE x (dropE x.1.nm E)).Perm E := by
    refine (insE_perm _ _).trans ?_
    rw [hd]
    exact (perm_pick hx).symm
  refine List.Perm.eq_of_pairwise (le := fun a b => bytesBefore a.1.nm b.1.nm = true) (fun a b _ _ h1 h2 => ?_) (List.pairwise_map.1 hs') (List.pairwise_map.1 hs) hp
  have := bb_trans _ _ _ h1 h2
  rw [bb_irr] at this; cases this
theorem dk_rename {i : Nat} {x : Fl × Nat} {er : Int} {to : List UInt8} (h : St W w (aFile x :: (dkL p m d (dropE n E) ++ X))) (hE : DkE d (m, E)) (ht : to.length ≤ maxLen) (hm : mayF d n = (some i, er)) (hx : E[i]? = some x) (ht0 : to ≠ []) :
    ∃ w', (Instr.mapUpdate 56 (.map (some m)) (.string (bstr to)) (.pointer (some ⟨x.2, 0, none⟩))).run Try.prog w = .ok () w' ∧ St W w' (aDisk p (renameF d n to).2 :: X) := by
  have hs := hE.1.rise
  rw [← hE.2] at hs
  have hs1 : (flsOf (dropE n E)).Pairwise (fun a b => bytesBefore a.nm b.nm = true) := by rw [dropE_fls]; exact dropF_rise hs n
  have hl := (many_E hE).1
  have hle : (dropE n E).length ≤ 64 := by
    have := (dropF_le n (flsOf E)).1
    rw [← dropE_fls] at this
    simp [flsOf] at this; omega
  obtain ⟨w', r1, r2, _⟩ := aMap.store h.rot3 ⟨_, rfl, by simp; unfold maxLen; omega⟩ strLaw Try.underlying56 (keyN ht) x.2
  refine ⟨w', r1, ?_⟩
  have hp := dOf_put hs1 ⟨to, x.1.b, x.1.sure⟩ x.2
  rw [hp] at r2
  -- the file that had the name is no more
  have h3 : St W w' (aMap Try.prog 9 m (dOf (insE (⟨to, x.1.b, x.1.sure⟩, x.2) (dropE to (dropE n E)))) :: aFile x :: aBlk p 58 #[.int .i64 d.room, .map (some m), .bool d.off] :: ((dropE to (dropE n E)).map aFile ++ X)) := by
    cases hi : ixF to (flsOf (dropE n E)) with
    | none => rw [dropE_none hi] at r2 ⊢; exact r2
    | some k =>
      obtain ⟨y, hy, _, _⟩ := dOf_at hi
      have hd : dropE to (dropE n E) = (dropE n E).take k ++ (dropE n E).drop (k + 1) := by unfold dropE at hi ⊢; rw [hi]
      have h1 := (perm_pick (L := (dropE n E).map aFile) (i := k) (a := aFile y) (by rw [List.getElem?_map, hy]; rfl)).append_right X
      rw [← List.map_take, ← List.map_drop, ← List.map_append, ← hd] at h1
      simp only [List.cons_append] at h1
      have h2 := r2.perm (((h1.cons _).cons _).cons _)
      have h4 := h2.perm (((List.Perm.swap _ _ _).cons _).cons _)
      have h5 := h4.perm ((List.Perm.swap _ _ _).cons _)
      exact (h5.perm (List.Perm.swap _ _ _)).drop
  have h4 : St W w' (aFile (⟨to, x.1.b, x.1.sure⟩, x.2) :: aBlk p 58 #[.int .i64 d.room, .map (some m), .bool d.off] :: aMap Try.prog 9 m (dOf (insE (⟨to, x.1.b, x.1.sure⟩, x.2) (dropE to (dropE n E)))) :: ((dropE to (dropE n E)).map aFile ++ X)) :=
    St.conv (A := aFile x) (h3.perm ((List.Perm.swap _ _ _).trans (List.Perm.cons _ (List.Perm.swap _ _ _)))) (fun own hA => hA)
  have h5 : St W w' (dkL p m d (insE (⟨to, x.1.b, x.1.sure⟩, x.2) (dropE to (dropE n E))) ++ X) := by
    refine h4.perm ?_
    have h6 := ((insE_perm (⟨to, x.1.b, x.1.sure⟩, x.2) (dropE to (dropE n E))).map aFile).append_right X
    unfold dkL
    simp only [List.cons_append, List.map_cons] at h6 ⊢
    refine (List.Perm.trans ?_ (List.Perm.cons _ (List.Perm.cons _ h6.symm)))
    exact (List.Perm.swap _ _ _).trans (List.Perm.cons _ (List.Perm.swap _ _ _))
  obtain ⟨_, x', hx', hnm, hd'⟩ := may_on hE hm
  have hxx : x' = x := by rw [hx] at hx'; exact (Option.some.inj hx').symm
  subst hxx
  have hok := rename_ok hE.1 n to
  have hf : renameF d n to = if to = n then (0, d) else (0, { d with R := insF ⟨to, x'.1.b, x'.1.sure⟩ (dropF to (dropF n d.R)) }) := by
    unfold renameF; rw [hm]; simp only; rw [hd']; simp only; rw [if_neg ht0]
  rw [hf] at hok ⊢
  by_cases hto : to = n
  · rw [if_pos hto]
    have e1 : dropE to (dropE n E) = dropE n E := by
      subst hto
      refine dropE_none ?_
      cases hi : ixF to (flsOf (dropE to E)) with
      | none => rfl
      | some k =>
        obtain ⟨f, k1, k2, _⟩ := ixF_some hi
        have := dropF_not hs to f (by rw [← dropE_fls]; exact List.mem_of_getElem? k1)
        exact absurd k2 this
    rw [e1] at h5
    have e2 : insE (⟨to, x'.1.b, x'.1.sure⟩, x'.2) (dropE n E) = E := by
      have h7 : ((⟨to, x'.1.b, x'.1.sure⟩, x'.2) : Fl × Nat) = x' := by
        rw [hto, ← hnm]
      rw [h7, ← hnm]
      exact ins_self hs hx
    rw [e2] at h5
    exact aDisk.shut (m := m) (E := E) hE h5
  · rw [if_neg hto] at hok ⊢
    exact aDisk.shut (m := m) (E := insE (⟨to, x'.1.b, x'.1.sure⟩, x'.2) (dropE to (dropE n E))) ⟨hok, by rw [insE_fls, dropE_fls, dropE_fls, hE.2]⟩ h5
set_option maxRecDepth 20000 in
theorem rename_c {to : List UInt8} (h : St W w (aDisk p d :: X)) (hn : n.length ≤ maxLen) (ht : to.length ≤ maxLen) : Calls Try.prog 27 #[.pointer (some ⟨p, 0, none⟩), .string (bstr n), .string (bstr to)] w fun e w' => e = .returned (.int .i64 (renameF d n to).1) ∧ St W w' (aDisk p (renameF d n to).2 :: X) := by
  have H0 := Lib.hid h
  obtain ⟨m, E, hE, h⟩ := aDisk.open_ h
  have hb := dkL.blk h
  have c1 := hb.cell 1
  simp at c1
  have q0 := bstr_nil to
  cases hm : mayF d n with
  | mk o er =>
  cases o with
  | none =>
    have hf : renameF d n to = (er, d) := by unfold renameF; rw [hm]
    have HF := Lib.hid (find_no h hE hn hm)
    have q1 : (er != 0) = true := by simpa using may_none hm
    rw [hf]
    clear h hE hn hm hf hb
    go_enter Try.func27, Try.ntmps27
    go_wp2_with (first | (go_at_call 50; (with_reducible refine HF.out.mono ?_); rintro e w1 ⟨rfl, rfl⟩))
    go_ret
    exact ⟨rfl, H0.out⟩
  | some i =>
    obtain ⟨hix, x, hx, _, hd⟩ := may_on hE hm
    have HF := Lib.hid (find_yes h hE hn hm hx)
    by_cases ht0 : to = []
    · have hf : renameF d n to = (1, d) := by unfold renameF; rw [hm]; simp only; rw [hd]; simp only; rw [if_pos ht0]
      rw [decide_eq_true ht0] at q0
      rw [hf]
      generalize x.2 = g at *
      clear h hE hn hm hf hb hd hix hx
      subst ht0
      go_enter Try.func27, Try.ntmps27
      go_wp2_with (first | (go_at_call 50; (with_reducible refine HF.out.mono ?_); rintro e w1 ⟨rfl, rfl⟩))
      go_ret
      exact ⟨rfl, H0.out⟩
    · rw [decide_eq_false ht0] at q0
      obtain ⟨w1, hrun, hS⟩ := dk_remove h hE hn hm hx
      have c2 : w1.cell? ⟨p, 1, none⟩ = some (.map (some m)) := by have := (dkL.blk hS.drop).cell 1; simpa using this
      obtain ⟨w2, hrun2, hS2⟩ := dk_rename hS hE ht hm hx ht0
      have hf0 : (renameF d n to).1 = 0 := by
        unfold renameF; rw [hm]; simp only; rw [hd]; simp only; rw [if_neg ht0]; split <;> rfl
      have HRN := Lib.hid hrun
      have HRN2 := Lib.hid hrun2
      have HS := Lib.hid hS2
      have HF0 := Lib.hid hf0
      generalize x.2 = g at *
      clear h hE hn hm hb hd hix hx hS hS2 hrun hrun2 hf0 ht0
      go_enter Try.func27, Try.ntmps27
      go_wp2_with (first
        | (go_at_call 50; (with_reducible refine HF.out.mono ?_); rintro e w3 ⟨rfl, rfl⟩)
        | (at_delete; refine wpList_delete_run rfl (.tmp 23) (.tmp 24) 56 9 rfl rfl rfl HRN.out ?_)
        | (at_mapUpdate; refine wpList_mapUpdate_run rfl (.tmp 28) (.tmp 29) (.tmp 30) 56 rfl rfl rfl rfl HRN2.out ?_))
      go_ret
      exact ⟨by rw [HF0.out]; rfl, HS.out⟩
end
end Go.Proofs.Ytnpjfjgnhadmjaa

/- slices.Grow, slices.Concat; Truncate, Write of a disk. -/
namespace Go.Proofs.Ytnpjfjgnhadmjaa
open Go.RowKit Go.Maps Go.Deep
set_option linter.unusedVariables false

theorem row_up {w : World} {e : TypeId} {sz n base : Nat} {v : Value} {xs : List Value} (h : w.ownsRow 0 e sz v n xs) (hg : ∀ g, v.ownBlock = some g → base ≤ g) : w.ownsRow base e sz v n xs := by
  refine ⟨h.1, ?_⟩
  rcases h.2 with h | ⟨g, cap, cur, rfl, _, r⟩
  · exact .inl h
  · exact .inr ⟨g, cap, cur, rfl, hg g rfl, r⟩
theorem St.rowUp {W w : World} {e : TypeId} {sz n : Nat} {v : Value} {xs : List Value} {X : List Asn} (h : St W w (aRow e sz v n xs :: X)) : w.ownsRow W.heap.size e sz v n xs := by
  obtain ⟨own, hr, ho⟩ := h.get
  exact row_up hr.1 (fun g hg => (ho g (hr.2 g hg)).1)
set_option maxRecDepth 20000 in
theorem grow_c (w : World) (n : Nat) (hn : n ≤ 1099511627776) : Calls Try.prog 60 #[.slice none 0 0, .int .i64 (n : Int)] w fun e w' => ∃ v, e = .returned v ∧ St w w' [aBy v []] := by
  rcases Nat.eq_zero_or_pos n with h0 | h0
  · subst h0
    have H0 := Lib.hid (aBy.nil (St.nil w))
    go_enter Try.func60, Try.ntmps60
    go_wp2
    go_ret
    exact ⟨_, rfl, H0.out⟩
  · obtain ⟨i0, hi, hz0, hz1, hz2⟩ := info_parts info5
    have hrun : ∀ ty, (Builtin.append_ #[31, 3] ty #[.slice none 0 0, .int .i64 (n : Int)]).run Try.prog w = _ := fun ty =>
      Go.Lib.run_append_grow_zeros w 31 3 ty 5 i0 (.int .u8 0) .i64 .i64 Try.underlying31 Try.underlying3 hi hz0 none 0 0 [] (run_firstCells_none w.drew i0.size 0 0 0) n h0 (by rw [hz1]; omega) (by omega) (by omega) (by rw [hz2]; omega) (by rw [hz2]; simpa using growslice_fits (need := n) (old := 0) (bytes := 1) h0 (by omega))
    have hG := grownCap_ge w n 0 5
    have hGm := grownCap_le_maxLen w n 0 5 (by unfold maxLen; omega)
    simp only [Nat.zero_add] at hrun
    generalize grownCap w n 0 5 = G at *
    have hn0 : (0 : Int) < (n : Int) := by omega
    have hni : (n : Int) ≤ 1099511627776 := by omega
    have hG63 : (G : Int) ≤ 9223372036854775807 := by unfold maxLen at hGm; omega
    have HRUN := Lib.hid hrun
    have HS := Lib.hid (show St w (w.alloc (.cells (Builtin.zeroCells #[Value.int .u8 0] n ++ Builtin.zeroCells #[Value.int .u8 0] (G - n)) 5)).drew [aBy (.slice (some ⟨w.heap.size, 0, none⟩) 0 G) []] from
      (St.nil w).add ((B.alloc' w _).trans (Below.refl _ _).drew) (A := aBy _ []) (own := fun b => b = w.heap.size) ⟨⟨by simp [cellsB], .inr ⟨w.heap.size, G, _, rfl, Nat.zero_le _, heap_alloc_new w _, Nat.zero_le _, hGm, by simp [Builtin.zeroCells]; omega, by simp [cellsB]⟩⟩, fun g hg => by simp [Value.ownBlock] at hg; exact hg.symm⟩ (fun x e => by omega))
    clear hrun hi hz0 hz1 hz2
    go_enter Try.func60, Try.ntmps60
    go_wp2_with (at_builtin; refine Lib.wpList_append_run _ rfl _ _ _ _ rfl _ _ rfl rfl _ _ (HRUN.out _) ?_)
    all_goals
      go_ret
      exact ⟨_, rfl, HS.out⟩
set_option maxRecDepth 20000 in
set_option maxHeartbeats 2000000 in
theorem concat_c {w : World} {g k : Nat} {L : List (List UInt8)} (hk : L.length = k) (hk2 : k ≤ 1000) (hg : ∀ (j : Nat) (x : List UInt8), L[j]? = some x → ∃ u, w.cell? ⟨g, j, none⟩ = some u ∧ Bs w u x) (ht : (L.map List.length).sum ≤ 1099511627776) :
    Calls Try.prog 54 #[.slice (some ⟨g, 0, none⟩) k k] w (ClonePost w L.flatten) := by
  have HG := Lib.hid hg
  have HK := Lib.hid hk
  have htk : ∀ q, ((L.take q).map List.length).sum ≤ (L.map List.length).sum := fun q => by
    conv => rhs; rw [← List.take_append_drop q L]
    rw [List.map_append, List.sum_append]; omega
  have HT := Lib.hid (show ∀ q, ((L.take q).map List.length).sum ≤ 1099511627776 from fun q => Nat.le_trans (htk q) ht)
  have hki : (k : Int) ≤ 1000 := by omega
  clear hg ht htk hk
  go_enter Try.func54, Try.ntmps54
  go_wp2_with fail
  go_loop [3, 11] (fun s i => ∃ q : Nat, q ≤ k ∧ i = .int .i64 q ∧ s = .int .i64 (((L.take q).map List.length).sum : Int)) (fun _ i => k - (intOf i).toNat)
  case atStart => exact ⟨0, Nat.zero_le _, rfl, rfl⟩
  case round =>
    obtain ⟨q, hq, rfl, rfl⟩ := hrel
    by_cases hlt : q < k
    · have hql : q < L.length := by have := HK.out; omega
      obtain ⟨u, k1, k2⟩ := HG.out q _ (List.getElem?_eq_getElem hql)
      obtain ⟨A, c, rfl⟩ := k2.rd.slice
      have E := Lib.hid (show ((L.take (q + 1)).map List.length).sum = ((L.take q).map List.length).sum + L[q].length by rw [List.take_succ_eq_append_getElem hql, List.map_append, List.sum_append, List.map_cons, List.map_nil, List.sum_cons, List.sum_nil, Nat.add_zero])
      have hT1 := HT.out q
      have hT2 := HT.out (q + 1)
      rw [E.out] at hT2
      generalize L[q].length = lx at *
      generalize ((L.take q).map List.length).sum = s0 at *
      have hqi : (q : Int) < k := by omega
      have hs0 : (s0 : Int) ≤ 1099511627776 := by omega
      have hs1 : (s0 : Int) + (lx : Int) ≤ 1099511627776 := by omega
      have hs2 : ¬ ((s0 : Int) + (lx : Int) < 0) := by omega
      clear k2 hT1 hT2 hql
      go_wp2_with fail
      go_round
      case rel => exact ⟨q + 1, by omega, by go_num, by rw [E.out]; go_num⟩
      case measure => simp [intOf]; omega
    · have hqe : q = k := by omega
      have hqi : ¬ (q : Int) < k := by omega
      subst hqe
      have hqk : L.take q = L := List.take_of_length_le (by have := HK.out; omega)
      have hT1 := HT.out q
      rw [hqk] at hT1 ⊢
      have HGR := Lib.hid (grow_c w _ hT1)
      generalize (L.map List.length).sum = s0 at *
      clear hT1 hqk
      go_wp2_with (first | (go_at_call 60; (with_reducible refine HGR.out.mono ?_); rintro e w1 ⟨v1, rfl, hS⟩; obtain ⟨A1, c1, rfl⟩ := St.rowSlice hS; have H1 := Lib.hid hS; clear hS))
      clear HGR hqi hlt
      go_loopw [6, 27] (fun v i wr => ∃ (q' : Nat) (A : Option Addr) (n c : Nat), q' ≤ q ∧ i = .int .i64 q' ∧ v = .slice A n c ∧ Hid (n = ((L.take q').flatten).length) ∧ Hid (St w wr [aRow 5 1 (.slice A n c) n (cellsB (L.take q').flatten)])) (fun _ i _ => q - (intOf i).toNat)
      case atStart => exact ⟨0, A1, 0, c1, Nat.zero_le _, rfl, rfl, rfl, H1.out⟩
      case round =>
        obtain ⟨q', A2, n2, c2, hq', rfl, rfl, HN, HS⟩ := hrel
        clear H1
        by_cases hlt' : q' < q
        · have hql : q' < L.length := by have := HK.out; omega
          obtain ⟨u, k1, k2⟩ := HG.out q' _ (List.getElem?_eq_getElem hql)
          obtain ⟨A, c, rfl⟩ := k2.rd.slice
          have k1 := HS.out.b.cell k1
          have E := Lib.hid (show (L.take (q' + 1)).flatten = (L.take q').flatten ++ L[q'] by rw [List.take_succ_eq_append_getElem hql, List.flatten_append, List.flatten_cons, List.flatten_nil, List.append_nil])
          have hT2 := HT.out (q' + 1)
          have E2 : ((L.take (q' + 1)).map List.length).sum = (L.take (q' + 1)).flatten.length := by simp [List.length_flatten]
          rw [E2, E.out, List.length_append, ← HN.out] at hT2
          have KR := Lib.hid (k2.later HS.out.b).rd
          have o1 := cellsB_one L[q']
          generalize L[q'] = x at *
          obtain ⟨lx, hlx⟩ : ∃ l, x.length = l := ⟨_, rfl⟩
          rw [hlx] at hT2 KR k1
          have hqi : (q' : Int) < q := by omega
          have g1 : n2 + lx ≤ maxLen := by unfold maxLen; omega
          have g2 : (n2 + lx) * 1 ≤ 140737488355328 := by omega
          have HX := Lib.hid hlx
          clear k2 hT2 hql E2 hlx
          go_wp2_with (at_builtin; refine wpList_append_St rfl (.tmp 31) (.tmp 32) 31 rfl Try.underlying31 info5 rfl Nat.zero_lt_one rfl rfl HS.out KR.out o1 g1 g2 ?_; intro A3 c3 w3 hS; have H3 := Lib.hid hS; clear hS)
          go_roundw
          case rel => exact ⟨q' + 1, _, _, _, by omega, by go_num, rfl, by show _ = _; rw [E.out, List.length_append, ← HN.out, HX.out], by rw [E.out, cellsB_app]; exact H3.out⟩
          case measure => simp [intOf]; omega
        · have hqe : q' = q := by omega
          have hqi : ¬ (q' : Int) < q := by omega
          subst hqe
          have E := Lib.hid (show L.take q' = L from List.take_of_length_le (by have := HK.out; omega))
          go_wp2_with fail
          go_ret
          refine ⟨_, rfl, ?_, HS.out.b⟩
          have h1 := HS.out.rowUp
          have h2 := HN.out
          rw [E.out] at h1 h2
          rw [← h2]
          exact h1
section
variable {W w : World} {p m : Nat} {d : Dk} {E : List (Fl × Nat)} {X : List Asn} {n : List UInt8}
theorem set_same {i : Nat} {f : Fl} (hd : d.R[i]? = some f) : ({ d with R := d.R.set i f } : Dk) = d := by
  have : d.R.set i f = d.R := by
    apply List.ext_getElem?
    intro j
    rw [List.getElem?_set]
    split
    · rename_i e
      subst e
      split
      · exact hd.symm
      · rename_i hh; rw [List.getElem?_eq_none (by omega)]
    · rfl
  rw [this]
/-- the file's bytes and what is sure of them turned -/
theorem turn_both {i : Nat} {x : Fl × Nat} {A A' : Option Addr} {c n' c' : Nat} {f' : Fl} (hE : DkE d (m, E)) (hi : E[i]? = some x) (hn : f'.nm = x.1.nm) (hok : ({ d with R := d.R.set i f' } : Dk).ok)
    (h : St W w (aRow 5 1 (.slice A' n' c') n' (cellsB f'.b) :: aBlk x.2 73 #[.slice A x.1.b.length c, .int .i64 (x.1.sure : Int)] :: aRow 5 1 (.slice A x.1.b.length c) x.1.b.length (cellsB x.1.b) :: aBlk p 58 #[.int .i64 d.room, .map (some m), .bool d.off] :: aMap Try.prog 9 m (dOf E) :: ((E.take i ++ E.drop (i + 1)).map aFile ++ X))) (hl : n' = f'.b.length) :
    St W ((w.setCell ⟨x.2, 0, none⟩ (.slice A' n' c')).setCell ⟨x.2, 1, none⟩ (.int .i64 (f'.sure : Int))) (aDisk p { d with R := d.R.set i f' } :: X) := by
  subst hl
  have h1 := h.rot3.drop.swap
  have h2 := aBlk.set (aBlk.set h1 0 (.slice A' f'.b.length c')) 1 (.int .i64 (f'.sure : Int))
  exact turn_back hE hi hn hok h2
set_option maxRecDepth 20000 in
theorem trunc_c {k : Int} (h : St W w (aDisk p d :: X)) (hn : n.length ≤ maxLen) (hk : k ≤ 9223372036854775807) : Calls Try.prog 28 #[.pointer (some ⟨p, 0, none⟩), .string (bstr n), .int .i64 k] w fun e w' => e = .returned (.int .i64 (truncF d n k).1) ∧ St W w' (aDisk p (truncF d n k).2 :: X) := by
  have H0 := Lib.hid h
  obtain ⟨m, E, hE, h⟩ := aDisk.open_ h
  cases hm : mayF d n with
  | mk o er =>
  cases o with
  | none =>
    have hf : truncF d n k = (er, d) := turn_none hm
    have HF := Lib.hid (find_no h hE hn hm)
    have q1 : (er != 0) = true := by simpa using may_none hm
    rw [hf]
    clear h hE hn hm hf
    go_enter Try.func28, Try.ntmps28
    go_wp2_with (first | (go_at_call 50; (with_reducible refine HF.out.mono ?_); rintro e w1 ⟨rfl, rfl⟩))
    go_ret
    exact ⟨rfl, H0.out⟩
  | some i =>
    obtain ⟨_, x, hx, _, hd⟩ := may_on hE hm
    have hf := turn_some (g := fun f => if k < 0 ∨ (f.b.length : Int) < k then (1, f) else (0, ⟨f.nm, f.b.take k.toNat, min f.sure k.toNat⟩)) hm hd
    have hok := trunc_ok hE.1 n k
    unfold truncF at hok ⊢
    rw [hf] at hok ⊢
    have HF := Lib.hid (find_yes h hE hn hm hx)
    obtain ⟨A, c, hv⟩ := turn_open h hx
    have hb := aBlk.get hv
    have c0 := hb.cell 0
    simp at c0
    have hxl := small_file hE hx
    by_cases h1 : k < 0
    · rw [if_pos (.inl h1)]
      simp only
      rw [set_same hd]
      obtain ⟨y, g⟩ := x
      simp only at c0 HF
      clear h hE hn hm hf hok hx hd hv hb hk
      go_enter Try.func28, Try.ntmps28
      go_wp2_with (first | (go_at_call 50; (with_reducible refine HF.out.mono ?_); rintro e w1 ⟨rfl, rfl⟩))
      go_ret
      exact ⟨rfl, H0.out⟩
    · by_cases h2 : (x.1.b.length : Int) < k
      · rw [if_pos (.inr h2)]
        simp only
        rw [set_same hd]
        obtain ⟨y, g⟩ := x
        simp only at c0 HF h2
        clear h hE hn hm hf hok hx hd hv hb hk
        go_enter Try.func28, Try.ntmps28
        go_wp2_with (first | (go_at_call 50; (with_reducible refine HF.out.mono ?_); rintro e w1 ⟨rfl, rfl⟩))
        go_ret
        exact ⟨rfl, H0.out⟩
      · rw [if_neg (by omega)] at hok ⊢
        simp only at hok ⊢
        obtain ⟨j, rfl⟩ := Int.eq_ofNat_of_zero_le (show 0 ≤ k by omega)
        rw [Int.toNat_natCast] at hok ⊢
        have hjl : j ≤ x.1.b.length := by omega
        obtain ⟨A0, cc, e0, hbs⟩ := file_bs hE hx h
        obtain ⟨rfl, rfl⟩ : A0 = A ∧ cc = c := by rw [c0] at e0; simp at e0; exact ⟨e0.1.symm, e0.2.symm⟩
        obtain ⟨A1, c1, s1, s2, hb1, _⟩ := hbs.cutTo j hjl
        have HC := Lib.hid (sclone_c hb1)
        have HV := Lib.hid (fun (w' : World) (hw : B w w') (v : Value) (hr : w'.ownsRow w.heap.size 5 1 v (x.1.b.take j).length (cellsB (x.1.b.take j))) => (hv.addRow hw hr))
        have HK := Lib.hid (fun (w' : World) (A' : Option Addr) (c' : Nat) (hS : St W w' (aRow 5 1 (.slice A' ((x.1.b.take j).length) c') ((x.1.b.take j).length) (cellsB (x.1.b.take j)) :: aBlk x.2 73 #[.slice A0 x.1.b.length cc, .int .i64 (x.1.sure : Int)] :: aRow 5 1 (.slice A0 x.1.b.length cc) x.1.b.length (cellsB x.1.b) :: aBlk p 58 #[.int .i64 d.room, .map (some m), .bool d.off] :: aMap Try.prog 9 m (dOf E) :: ((E.take i ++ E.drop (i + 1)).map aFile ++ X))) => turn_both (w := w') (A' := A') (c' := c') (n' := (x.1.b.take j).length) (f' := ⟨x.1.nm, x.1.b.take j, min x.1.sure j⟩) hE hx rfl hok hS rfl)
        have HB := Lib.hid (fun (w' : World) (hw : B w w') => show w'.cell? ⟨x.2, 0, none⟩ = some (.slice A0 x.1.b.length cc) ∧ w'.cell? ⟨x.2, 1, none⟩ = some (.int .i64 (x.1.sure : Int)) ∧ w'.frozen? ⟨x.2, 0, none⟩ = false ∧ w'.frozen? ⟨x.2, 1, none⟩ = false from by
          have hb2 := hb.later hw
          have k0 := hb2.cell 0
          have k1 := hb2.cell 1
          simp at k0 k1
          exact ⟨k0, k1, hb2.frozen 0, hb2.frozen 1⟩)
        have hl : (x.1.b.take j).length = j := by rw [List.length_take]; omega
        simp only [hl] at HK
        have HLJ := Lib.hid hl
        obtain ⟨y, g⟩ := x
        simp only at c0 HF h2 HV HK HB hxl s1 s2 HLJ
        have hj63 : (j : Int) ≤ 9223372036854775807 := hk
        by_cases hms : (y.sure : Int) ≤ j
        case' pos =>
          rw [show min y.sure j = y.sure by omega] at HK
          rw [show (min y.sure j) = y.sure by omega]
        case' neg =>
          rw [show min y.sure j = j by omega] at HK
          rw [show (min y.sure j) = j by omega]
        all_goals
          clear h hE hn hm hf hok hx hd hv hb hb1 hbs hk hl hjl e0
          go_enter Try.func28, Try.ntmps28
          go_wp2_with (first
            | (go_at_call 50; (with_reducible refine HF.out.mono ?_); rintro e w1 ⟨rfl, rfl⟩)
            | (go_at_call 51; (with_reducible refine HC.out.mono ?_); rintro e w2 ⟨v2, rfl, r2, hb2⟩; obtain ⟨k0, k1, f0, f1⟩ := HB.out _ hb2; have hS := HV.out _ hb2 _ r2; simp only [HLJ.out] at hS; obtain ⟨A2, c2, rfl⟩ := St.rowSlice hS; have H2 := Lib.hid hS; clear r2 hb2 hS c0))
          go_ret
          exact ⟨rfl, HK.out _ _ _ H2.out⟩
end
end Go.Proofs.Ytnpjfjgnhadmjaa

/- Write of a disk. -/
namespace Go.Proofs.Ytnpjfjgnhadmjaa
open Go.RowKit Go.Maps Go.Deep
set_option linter.unusedVariables false

section
variable {W w : World} {p m : Nat} {d : Dk} {E : List (Fl × Nat)} {X : List Asn} {n : List UInt8}
theorem cells_three (w : World) (a b c : Value) (T : TypeId) {x y z : List UInt8} (ha : Bs w a x) (hb : Bs w b y) (hc : Bs w c z) :
    ∀ (j : Nat) (s : List UInt8), [x, y, z][j]? = some s → ∃ u, (w.alloc (.cells #[a, b, c] T)).cell? ⟨w.heap.size, j, none⟩ = some u ∧ Bs (w.alloc (.cells #[a, b, c] T)) u s := by
  intro j s hj
  have hB := B.alloc' w (.cells #[a, b, c] T)
  have hk := Blk.new w T #[a, b, c]
  match j, hj with
  | 0, hj => simp at hj; subst hj; exact ⟨a, by rw [hk.cell]; rfl, ha.later hB⟩
  | 1, hj => simp at hj; subst hj; exact ⟨b, by rw [hk.cell]; rfl, hb.later hB⟩
  | 2, hj => simp at hj; subst hj; exact ⟨c, by rw [hk.cell]; rfl, hc.later hB⟩
  | k + 3, hj => simp at hj
theorem wrap_sub {a b : Int} (h : -9223372036854775808 ≤ a - b) (h2 : a - b ≤ 9223372036854775807) : IntKind.i64.wrap (a - b) = a - b := by
  simp [IntKind.wrap, IntKind.signed, IntKind.bits]; omega
theorem wrap_add {a b : Int} (h : -9223372036854775808 ≤ a + b) (h2 : a + b ≤ 9223372036854775807) : IntKind.i64.wrap (a + b) = a + b := by
  simp [IntKind.wrap, IntKind.signed, IntKind.bits]; omega
set_option maxRecDepth 20000 in
set_option maxHeartbeats 4000000 in
theorem write_c {k : Int} {u : Value} {b : List UInt8} (h : St W w (aDisk p d :: X)) (hn : n.length ≤ maxLen) (hu : Bs w u b) (hbl : b.length ≤ 4194304000) : Calls Try.prog 25 #[.pointer (some ⟨p, 0, none⟩), .string (bstr n), .int .i64 k, u] w fun e w' => e = .returned (.int .i64 (writeF d n k b).1) ∧ St W w' (aDisk p (writeF d n k b).2 :: X) := by
  have H0 := Lib.hid h
  obtain ⟨m, E, hE, h⟩ := aDisk.open_ h
  obtain ⟨Au, cu, hus⟩ := hu.rd.slice
  obtain ⟨lb, hlb⟩ : ∃ l, b.length = l := ⟨_, rfl⟩
  rw [hlb] at hus hbl
  subst hus
  cases hm : mayF d n with
  | mk o er =>
  cases o with
  | none =>
    have hf : writeF d n k b = (er, d) := turn_none hm
    have HF := Lib.hid (find_no h hE hn hm)
    have q1 : (er != 0) = true := by simpa using may_none hm
    rw [hf]
    clear h hE hn hm hf hu
    go_enter Try.func25, Try.ntmps25
    go_wp2_with (first | (go_at_call 50; (with_reducible refine HF.out.mono ?_); rintro e w1 ⟨rfl, rfl⟩))
    go_ret
    exact ⟨rfl, H0.out⟩
  | some i =>
    obtain ⟨_, x, hx, _, hd⟩ := may_on hE hm
    have hf := turn_some (g := writeB d k b) hm hd
    have hok := write_ok hE.1 n k b
    unfold writeF at hok ⊢
    rw [hf] at hok ⊢
    unfold writeB at hok ⊢
    rw [hlb] at hok ⊢
    have HF := Lib.hid (find_yes h hE hn hm hx)
    obtain ⟨A, c, hv⟩ := turn_open h hx
    have hb := aBlk.get hv
    have c0 := hb.cell 0
    simp at c0
    have hxl := small_file hE hx
    by_cases h1 : k < 0
    · rw [if_pos (.inl h1)]
      simp only
      rw [set_same hd]
      obtain ⟨y, g⟩ := x
      simp only at c0 HF
      clear h hE hn hm hf hok hx hd hv hb hu hlb
      go_enter Try.func25, Try.ntmps25
      go_wp2_with (first | (go_at_call 50; (with_reducible refine HF.out.mono ?_); rintro e w1 ⟨rfl, rfl⟩))
      go_ret
      exact ⟨rfl, H0.out⟩
    · by_cases h2 : (x.1.b.length : Int) < k
      · rw [if_pos (.inr h2)]
        simp only
        rw [set_same hd]
        obtain ⟨y, g⟩ := x
        simp only at c0 HF h2
        clear h hE hn hm hf hok hx hd hv hb hu hlb
        go_enter Try.func25, Try.ntmps25
        go_wp2_with (first | (go_at_call 50; (with_reducible refine HF.out.mono ?_); rintro e w1 ⟨rfl, rfl⟩))
        go_ret
        exact ⟨rfl, H0.out⟩
      · rw [if_neg (by omega)] at hok ⊢
        obtain ⟨j, rfl⟩ := Int.eq_ofNat_of_zero_le (show 0 ≤ k by omega)
        rw [Int.toNat_natCast] at hok ⊢
        have hjl : j ≤ x.1.b.length := by omega
        have HR := Lib.hid (fun (w' : World) (hw : B w w') => room_c (h.later hw) hE)
        have hw1 : IntKind.i64.wrap ((x.1.b.length : Int) - (j : Int)) = (x.1.b.length : Int) - (j : Int) := wrap_sub (by omega) (by omega)
        have hw2 : IntKind.i64.wrap ((lb : Int) - ((x.1.b.length : Int) - (j : Int))) = (lb : Int) - ((x.1.b.length : Int) - (j : Int)) := wrap_sub (by omega) (by omega)
        have l0 : ∀ w', B w w' → w'.cell? ⟨x.2, 0, none⟩ = some (.slice A x.1.b.length c) := fun w' hw => hw.cell c0
        by_cases h3 : d.room - usedF d.R < (lb : Int) - ((x.1.b.length : Int) - (j : Int))
        · rw [if_pos h3]
          simp only
          rw [set_same hd]
          obtain ⟨y, g⟩ := x
          simp only at c0 HF h2 hw1 hw2 l0 h3 hxl hjl
          have hyl : (y.b.length : Int) ≤ 4194304 := by omega
          clear h hE hn hm hf hok hx hd hv hb hu hlb
          go_enter Try.func25, Try.ntmps25
          go_wp2_with (first | (go_at_call 50; (with_reducible refine HF.out.mono ?_); rintro e w1 ⟨rfl, rfl⟩))
          go_region_held3 (fun w' => B w w') (first | assumption | exact (Below.refl _ _).drew | exact B.trans (by assumption) hb2 | exact B.trans (by assumption) (Below.refl _ _).drew) (first
            | (go_at_call 30; (with_reducible refine (HR.out _ (by assumption)).mono ?_); rintro e w2 ⟨rfl, hb2⟩))
          all_goals
            have hlast := ‹B w _›
            go_wp2_with fail
            go_ret
            exact ⟨rfl, H0.out.later hlast⟩
        · rw [if_neg h3] at hok ⊢
          simp only at hok ⊢
          obtain ⟨A0, cc, e0, hbs⟩ := file_bs hE hx h
          obtain ⟨rfl, rfl⟩ : A0 = A ∧ cc = c := by rw [c0] at e0; simp at e0; exact ⟨e0.1.symm, e0.2.symm⟩
          obtain ⟨A1, c1, s1, s2, hb1, _⟩ := hbs.cutTo j hjl
          -- the place behind which the file stays
          obtain ⟨r, hr⟩ : ∃ r, r = min x.1.b.length (j + lb) := ⟨_, rfl⟩
          obtain ⟨A2, c2, s3, s4, hb2, _⟩ := hbs.cut r (by omega)
          have hdr : x.1.b.drop r = x.1.b.drop (j + lb) := by
            rcases Nat.le_total x.1.b.length (j + lb) with hle | hle
            · rw [List.drop_eq_nil_of_le (show x.1.b.length ≤ r by omega), List.drop_eq_nil_of_le hle]
            · rw [show r = j + lb by omega]
          have HC := Lib.hid (fun (w3 : World) (hw : B w w3) => show Calls Try.prog 54 #[.slice (some ⟨w3.heap.size, 0, none⟩) 3 3] (w3.alloc (.cells #[.slice A1 j c1, .slice Au lb cu, .slice A2 (x.1.b.length - r) c2] 31)) (ClonePost (w3.alloc (.cells #[.slice A1 j c1, .slice Au lb cu, .slice A2 (x.1.b.length - r) c2] 31)) (x.1.b.take j ++ b ++ x.1.b.drop (j + lb))) from by
            have := concat_c (L := [x.1.b.take j, b, x.1.b.drop r]) (k := 3) rfl (by omega) (cells_three w3 _ _ _ 31 (hb1.later hw) (hu.later hw) (hb2.later hw)) (by simp; omega)
            rw [show [x.1.b.take j, b, x.1.b.drop r].flatten = x.1.b.take j ++ b ++ x.1.b.drop (j + lb) by simp [hdr]] at this
            exact this)
          have HV := Lib.hid (fun (w3 w4 : World) (hw : B w w3) (hw4 : B w3 w4) (v : Value) (hr : w4.ownsRow w3.heap.size 5 1 v (x.1.b.take j ++ b ++ x.1.b.drop (j + lb)).length (cellsB (x.1.b.take j ++ b ++ x.1.b.drop (j + lb)))) => ((hv.later hw).addRow hw4 hr))
          obtain ⟨nb, hnb⟩ : ∃ nb, x.1.b.take j ++ b ++ x.1.b.drop (j + lb) = nb := ⟨_, rfl⟩
          rw [hnb] at HC HV hok
          rw [hnb]
          have HK := Lib.hid (fun (w' : World) (A' : Option Addr) (c' : Nat) (hS : St W w' (aRow 5 1 (.slice A' nb.length c') nb.length (cellsB nb) :: aBlk x.2 73 #[.slice A0 x.1.b.length cc, .int .i64 (x.1.sure : Int)] :: aRow 5 1 (.slice A0 x.1.b.length cc) x.1.b.length (cellsB x.1.b) :: aBlk p 58 #[.int .i64 d.room, .map (some m), .bool d.off] :: aMap Try.prog 9 m (dOf E) :: ((E.take i ++ E.drop (i + 1)).map aFile ++ X))) => turn_both (w := w') (A' := A') (c' := c') (n' := nb.length) (f' := ⟨x.1.nm, nb, min x.1.sure j⟩) hE hx rfl hok hS rfl)
          have HB := Lib.hid (fun (w' : World) (hw : B w w') => show w'.cell? ⟨x.2, 0, none⟩ = some (.slice A0 x.1.b.length cc) ∧ w'.cell? ⟨x.2, 1, none⟩ = some (.int .i64 (x.1.sure : Int)) ∧ w'.frozen? ⟨x.2, 0, none⟩ = false ∧ w'.frozen? ⟨x.2, 1, none⟩ = false from by
            have hb2 := hb.later hw
            have k0 := hb2.cell 0
            have k1 := hb2.cell 1
            simp at k0 k1
            exact ⟨k0, k1, hb2.frozen 0, hb2.frozen 1⟩)
          have hw3 : IntKind.i64.wrap ((j : Int) + (lb : Int)) = (j : Int) + (lb : Int) := wrap_add (by omega) (by omega)
          have hrl := hr
          by_cases hmin : (x.1.b.length : Int) ≤ (j : Int) + (lb : Int)
          case' pos => rw [show (r : Int) = (x.1.b.length : Int) by omega] at s3 s4
          case' neg => rw [show (r : Int) = (j : Int) + (lb : Int) by omega] at s3 s4
          all_goals
            obtain ⟨y, g⟩ := x
            simp only at c0 HF h2 hw1 hw2 l0 h3 hxl hjl HC HV HK HB hmin s1 s2 s3 s4
            have hyl : (y.b.length : Int) ≤ 4194304 := by omega
            have hsj : min y.sure j = if y.sure ≤ j then y.sure else j := by split <;> omega
            by_cases hms : (y.sure : Int) ≤ j
            case' pos =>
              rw [show min y.sure j = y.sure by omega] at HK
              rw [show (min y.sure j) = y.sure by omega]
            case' neg =>
              rw [show min y.sure j = j by omega] at HK
              rw [show (min y.sure j) = j by omega]
          all_goals
            clear h hE hn hm hf hok hx hd hv hb hb1 hb2 hbs hu hlb e0 hsj hr hrl hdr hnb
            go_enter Try.func25, Try.ntmps25
            go_wp2_with (first | (go_at_call 50; (with_reducible refine HF.out.mono ?_); rintro e w1 ⟨rfl, rfl⟩))
            go_region_held3 (fun w' => B w w') (first | assumption | exact (Below.refl _ _).drew | exact B.trans (by assumption) hb2 | exact B.trans (by assumption) (Below.refl _ _).drew) (first
              | (go_at_call 30; (with_reducible refine (HR.out _ (by assumption)).mono ?_); rintro e w2 ⟨rfl, hb2⟩))
          all_goals
            go_wp2_with fail
            have hlast := ‹B w _›
            obtain ⟨k0, k1, f0, f1⟩ := HB.out _ hlast
            have HL := Lib.hid (fun n => B.trans hlast (B.drewN' n))
            have HCD := Lib.hid (fun n => show Calls Try.prog 54 #[.slice (some ⟨w2.heap.size, 0, none⟩) 3 3] ((w2.drewN n).alloc (.cells #[.slice A1 j c1, .slice Au lb cu, .slice A2 (y.b.length - r) c2] 31)) (ClonePost ((w2.drewN n).alloc (.cells #[.slice A1 j c1, .slice Au lb cu, .slice A2 (y.b.length - r) c2] 31)) nb) from HC.out (w2.drewN n) (HL.out n))
            go_quiet (fail)
            go_wp2_with (first
              | (go_at_call 54; (with_reducible refine (HCD.out _).mono ?_); rintro e w4 ⟨v4, rfl, r4, hb4⟩; obtain ⟨k0', k1', f0', f1'⟩ := HB.out _ (((HL.out _).trans (B.alloc' _ _)).trans hb4); have hS := HV.out _ _ (HL.out _) ((B.alloc' _ _).trans hb4) _ (row_base r4 (by simp)); obtain ⟨A4, c4, rfl⟩ := St.rowSlice hS; have H4 := Lib.hid hS; clear r4 hb4 hS k0 k1 f0 f1))
            go_ret
            exact ⟨rfl, HK.out _ _ _ H4.out⟩
end
end Go.Proofs.Ytnpjfjgnhadmjaa
