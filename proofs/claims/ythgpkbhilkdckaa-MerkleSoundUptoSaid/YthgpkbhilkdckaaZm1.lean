/- Lemmas and contracts, part 1. -/
import Derived.WalkKit
import Derived.WalkLawsBesides
import Derived.WalkSpells
import Derived.Deep.RegionHeld3
import Derived.BigQuiet
import Derived.ProofKit
import Derived.OpenShut
import Derived.Lib.Hide
import Derived.Maps.AppendAt
import Derived.Deep.AppendLies
import Derived.Laws.Rows
import Derived.Deep.RegionLaw
import Derived.Laws.BytesArg
import Derived.JoinedCond
import Derived.Lib.SmallJoins
import Derived.Deep.Slices
import Derived.Deep.Fields
import Derived.ChangeSame
import Derived.SizedLaws
import Derived.Test.YthgpkbhilkdckaaRows
import Derived.Deep.QuietTactic
/- General lemmas on worlds for the walks: what was there stays (B), own blocks, stores. No program here. -/
namespace Go.Proofs.Ythgpkbhilkdckaa
open Go.RowKit
set_option linter.unusedVariables false

/-- what was there is as it was -/
abbrev B (w w' : World) : Prop := Below w.heap.size w w'

theorem B.cell {w w' : World} (h : B w w') {a : Addr} {v : Value} (hv : w.cell? a = some v) : w'.cell? a = some v := by
  rw [Below.cell h (World.block_lt_of_cell? w a hv)]; exact hv
theorem bcell {W w1 : World} (hb : Below W.heap.size W w1) : (∀ b o, b < W.heap.size → w1.cell? ⟨b, o, none⟩ = W.cell? ⟨b, o, none⟩) ∧ (∀ b o, b < W.heap.size → w1.frozen? ⟨b, o, none⟩ = W.frozen? ⟨b, o, none⟩) :=
  ⟨fun b o h => hb.cell (p := ⟨b, o, none⟩) h, fun b o h => hb.frozen (p := ⟨b, o, none⟩) h⟩
theorem B.trans {a b c : World} (h : B a b) (k : B b c) : B a c := Below.trans h (k.mono h.size)
theorem B.alloc' (w : World) (o : Obj) : B w (w.alloc o) := (Below.refl _ _).alloc (Nat.le_refl _) _
theorem bsize {w W w1 : World} (n : Nat) (hb : B W w1) (hn : w.heap.size + n + 1 ≤ W.heap.size) : w.heap.size < w1.heap.size ∧ ∀ i, i < n + 1 → w.heap.size + i < w1.heap.size := by
  have := hb.size
  exact ⟨by omega, fun i hi => by omega⟩

@[go_sem] theorem cell_set (w : World) (b o b' o' : Nat) (v : Value) : (w.setCell ⟨b, o, none⟩ v).cell? ⟨b', o', none⟩ = if b = b' ∧ o = o' then (w.cell? ⟨b', o', none⟩).map (fun _ => v) else w.cell? ⟨b', o', none⟩ := by
  split
  · rename_i h
    obtain ⟨rfl, rfl⟩ := h
    cases h : w.cell? ⟨b, o, none⟩ with
    | some u => rw [World.cell?_setCell_same w _ _ h]; rfl
    | none =>
      simp only [World.cell?, World.setCell, Array.getElem?_modify, if_true] at h ⊢
      cases hb : w.heap[b]? with
      | none => rfl
      | some x =>
        rw [hb] at h
        cases x <;> simp_all
  · rename_i h
    exact World.cell?_setCell_other w _ _ _ (fun e => h (by injection e with e1 e2; exact ⟨e1, e2⟩))

/-- an own block of two cells -/
def Own2 (w : World) (b : Nat) (x y : Value) : Prop := w.cell? ⟨b, 0, none⟩ = some x ∧ w.cell? ⟨b, 1, none⟩ = some y ∧ w.frozen? ⟨b, 0, none⟩ = false ∧ w.frozen? ⟨b, 1, none⟩ = false ∧ b < w.heap.size
theorem Own2.mk {w : World} {x y : Value} {T : Nat} : Own2 (w.alloc (.cells #[x, y] T)) w.heap.size x y := by
  refine ⟨?_, ?_, ?_, ?_, ?_⟩ <;> simp [go_sem]
theorem Own2.later {w w' : World} {b : Nat} {x y : Value} (h : Own2 w b x y) (hb : B w w') : Own2 w' b x y :=
  ⟨hb.cell h.1, hb.cell h.2.1, by rw [Below.frozen hb h.2.2.2.2]; exact h.2.2.1, by rw [Below.frozen hb h.2.2.2.2]; exact h.2.2.2.1, Nat.lt_of_lt_of_le h.2.2.2.2 hb.size⟩
theorem Own2.alloc {w : World} {b : Nat} {x y : Value} (h : Own2 w b x y) (o : Obj) : Own2 (w.alloc o) b x y := h.later (B.alloc' w o)
/-- both cells stored -/
theorem Own2.set {w : World} {b : Nat} {x y : Value} (h : Own2 w b x y) (u v : Value) : Own2 ((w.setCell ⟨b, 0, none⟩ u).setCell ⟨b, 1, none⟩ v) b u v := by
  obtain ⟨h1, h2, h3, h4, h5⟩ := h
  refine ⟨?_, ?_, ?_, ?_, ?_⟩ <;> simp [*, cell_set]
theorem Own2.other {w : World} {b b' : Nat} {x y : Value} (h : Own2 w b x y) (hne : b' ≠ b) (o : Nat) (u : Value) : Own2 (w.setCell ⟨b', o, none⟩ u) b x y := by
  obtain ⟨h1, h2, h3, h4, h5⟩ := h
  refine ⟨?_, ?_, ?_, ?_, ?_⟩ <;> simp [*, cell_set]
theorem retI {k : IntKind} {a b : Int} (h : a = b) : Ending.returned (.int k a) = .returned (.int k b) := by rw [h]
theorem retB {a b : Bool} (h : a = b) : Ending.returned (.bool a) = .returned (.bool b) := by rw [h]
theorem retT {a b c d : Int} (h1 : a = c) (h2 : b = d) : Ending.returned (.agg #[.int .i64 a, .int .i64 b]) = .returned (.agg #[.int .i64 c, .int .i64 d]) := by rw [h1, h2]
end Go.Proofs.Ythgpkbhilkdckaa

/- Memory words for the walks: what a call may turn (Ext), blocks known whole (Blk), slices that read as lists (Rd). No program here. -/
namespace Go.Proofs.Ythgpkbhilkdckaa
open Go.RowKit
set_option linter.unusedVariables false

/-- of the old blocks only those in 'own' may have turned -/
structure Ext (own : Nat → Prop) (w w' : World) : Prop where
  os : w'.os = w.os
  tape : w'.tape = w.tape
  output : w'.output = w.output
  size : w.heap.size ≤ w'.heap.size
  block : ∀ b, b < w.heap.size → ¬ own b → w'.heap[b]? = w.heap[b]?

theorem Ext.refl (own : Nat → Prop) (w : World) : Ext own w w := ⟨rfl, rfl, rfl, Nat.le_refl _, fun _ _ _ => rfl⟩
theorem Ext.of_B {own : Nat → Prop} {w w' : World} (h : B w w') : Ext own w w' := ⟨h.os, h.tape, h.output, h.size, fun b hb _ => h.block b hb⟩
theorem Ext.to_B {own : Nat → Prop} {w w' : World} (h : Ext own w w') (hn : ∀ b, b < w.heap.size → ¬ own b) : B w w' := ⟨h.os, h.tape, h.output, h.size, fun b hb => h.block b hb (hn b hb)⟩
/-- the second step may turn more, but nothing old -/
theorem Ext.trans {own own' : Nat → Prop} {a b c : World} (h : Ext own a b) (k : Ext own' b c) (hs : ∀ x, x < a.heap.size → own' x → own x) : Ext own a c :=
  ⟨k.os.trans h.os, k.tape.trans h.tape, k.output.trans h.output, Nat.le_trans h.size k.size, fun x hx hn => (k.block x (Nat.lt_of_lt_of_le hx h.size) (fun e => hn (hs x hx e))).trans (h.block x hx hn)⟩
theorem Ext.trans_ {own : Nat → Prop} {a b c : World} (h : Ext own a b) (k : Ext own b c) : Ext own a c := h.trans k fun _ _ e => e
theorem Ext.mono {own own' : Nat → Prop} {w w' : World} (h : Ext own w w') (hs : ∀ x, x < w.heap.size → own x → own' x) : Ext own' w w' :=
  ⟨h.os, h.tape, h.output, h.size, fun x hx hn => h.block x hx (fun e => hn (hs x hx e))⟩
theorem Ext.drew {own : Nat → Prop} {a w : World} (h : Ext own a w) : Ext own a w.drew := ⟨h.os, h.tape, h.output, h.size, h.block⟩
theorem Ext.drewN {own : Nat → Prop} {a w : World} (h : Ext own a w) (n : Nat) : Ext own a (w.drewN n) := ⟨h.os, h.tape, h.output, h.size, h.block⟩
theorem Ext.alloc {own : Nat → Prop} {a w : World} (h : Ext own a w) (o : Obj) : Ext own a (w.alloc o) := h.trans (Ext.of_B (B.alloc' w o)) (own' := own) fun _ _ e => e
theorem Ext.set {own : Nat → Prop} {a w : World} (h : Ext own a w) {p : Addr} (hp : p.block < a.heap.size → own p.block) (u : Value) : Ext own a (w.setCell p u) :=
  h.trans (own' := fun b => b = p.block) ⟨rfl, rfl, rfl, by simp, fun b hb hn => Below.heap_setCell _ _ _ _ hn⟩ (fun x hx e => by subst e; exact hp hx)
theorem Ext.grown {own : Nat → Prop} {a w w' : World} {row : Option Nat} (h : Ext own a w) (hg : w.grownBy w' row) (hr : ∀ g, row = some g → g < a.heap.size → own g) : Ext own a w' :=
  h.trans (own' := fun b => some b = row) ⟨hg.os, hg.tape, hg.output, hg.size, fun b hb hn => hg.block b hb hn⟩ (fun x hx e => hr x e.symm hx)
theorem Ext.setMap {own : Nat → Prop} {a w : World} (h : Ext own a w) {m : Nat} (hm : m < a.heap.size → own m) (o : Obj) : Ext own a { w with heap := w.heap.setIfInBounds m o } :=
  h.trans (own' := fun b => b = m) ⟨rfl, rfl, rfl, by simp, fun b hb hn => by simp [Ne.symm hn]⟩ (fun x hx e => by subst e; exact hm hx)
theorem Ext.cell {own : Nat → Prop} {w w' : World} (h : Ext own w w') {a : Addr} {v : Value} (hn : ¬ own a.block) (hv : w.cell? a = some v) : w'.cell? a = some v := by
  rw [World.cell?_of_block (w := w) (h.block _ (World.block_lt_of_cell? w a hv) hn)]; exact hv
theorem Ext.frozen {own : Nat → Prop} {w w' : World} (h : Ext own w w') {a : Addr} (hl : a.block < w.heap.size) (hn : ¬ own a.block) : w'.frozen? a = w.frozen? a :=
  World.frozen?_of_block (w := w) (h.block _ hl hn)
theorem Own2.ext {own : Nat → Prop} {w w' : World} {b : Nat} {x y : Value} (h : Own2 w b x y) (hb : Ext own w w') (hn : ¬ own b) : Own2 w' b x y :=
  ⟨hb.cell hn h.1, hb.cell hn h.2.1, by rw [hb.frozen h.2.2.2.2 hn]; exact h.2.2.1, by rw [hb.frozen h.2.2.2.2 hn]; exact h.2.2.2.1, Nat.lt_of_lt_of_le h.2.2.2.2 hb.size⟩

/-- block g is just these cells, none frozen -/
def Blk (w : World) (g : Nat) (t : TypeId) (cs : Array Value) : Prop := w.heap[g]? = some (.cells cs t (0, 0))
section
variable {w w' : World} {g : Nat} {t : TypeId} {cs : Array Value}
theorem Blk.lt (h : Blk w g t cs) : g < w.heap.size := by
  rcases Nat.lt_or_ge g w.heap.size with hlt | hge
  · exact hlt
  · unfold Blk at h; rw [Array.getElem?_eq_none hge] at h; cases h
theorem Blk.cell (h : Blk w g t cs) (i : Nat) : w.cell? ⟨g, i, none⟩ = cs[i]? := cell_of_row w g i cs t (0, 0) h
theorem Blk.frozen (h : Blk w g t cs) (i : Nat) : w.frozen? ⟨g, i, none⟩ = false := by
  unfold Blk at h
  simp [World.frozen?, h]
theorem Blk.new (w : World) (t : TypeId) (cs : Array Value) : Blk (w.alloc (.cells cs t)) w.heap.size t cs := heap_alloc_new w _
theorem Blk.drew (h : Blk w g t cs) : Blk w.drew g t cs := h
theorem Blk.alloc (h : Blk w g t cs) (o : Obj) : Blk (w.alloc o) g t cs := (Below.heap_alloc w o g h.lt).trans h
theorem Blk.set_ (h : Blk w g t cs) (i : Nat) (u : Value) : Blk (w.setCell ⟨g, i, none⟩ u) g t (cs.setIfInBounds i u) := by
  unfold Blk at h ⊢
  simp [World.setCell, Array.getElem?_modify, h]
theorem Blk.far (h : Blk w g t cs) {p : Addr} (hp : g ≠ p.block) (u : Value) : Blk (w.setCell p u) g t cs := (Below.heap_setCell w p u g hp).trans h
theorem Blk.ext {own : Nat → Prop} (h : Blk w g t cs) (hb : Ext own w w') (hn : ¬ own g) : Blk w' g t cs := (hb.block g h.lt hn).trans h
theorem Blk.later (h : Blk w g t cs) (hb : B w w') : Blk w' g t cs := (hb.block g h.lt).trans h
theorem Blk.grown {row : Option Nat} (h : Blk w g t cs) (hb : w.grownBy w' row) (hg : some g ≠ row) : Blk w' g t cs := (hb.block g h.lt hg).trans h
theorem Blk.own2 {x y : Value} (h : Blk w g t #[x, y]) : Own2 w g x y := ⟨by rw [h.cell]; rfl, by rw [h.cell]; rfl, h.frozen 0, h.frozen 1, h.lt⟩
end

@[go_sem] theorem heap_drew (w : World) : w.drew.heap = w.heap := rfl
/-- a map block -/
def Mp (w : World) (m : Nat) (es : Array MapEntry) (c : Nat) : Prop := w.heap[m]? = some (.map es c)
theorem Mp.lt {w : World} {m : Nat} {es : Array MapEntry} {c : Nat} (h : Mp w m es c) : m < w.heap.size := by
  rcases Nat.lt_or_ge m w.heap.size with hlt | hge
  · exact hlt
  · unfold Mp at h; rw [Array.getElem?_eq_none hge] at h; cases h
theorem Mp.ext {own : Nat → Prop} {w w' : World} {m : Nat} {es : Array MapEntry} {c : Nat} (h : Mp w m es c) (hb : Ext own w w') (hn : ¬ own m) : Mp w' m es c := (hb.block m h.lt hn).trans h
theorem Mp.later {w w' : World} {m : Nat} {es : Array MapEntry} {c : Nat} (h : Mp w m es c) (hb : B w w') : Mp w' m es c := (hb.block m h.lt).trans h
theorem Mp.new (w : World) (es : Array MapEntry) (c : Nat) : Mp (w.alloc (.map es c)) w.heap.size es c := heap_alloc_new w _
theorem Mp.set (w : World) (m : Nat) (es : Array MapEntry) (c : Nat) (h : m < w.heap.size) : Mp { w with heap := w.heap.setIfInBounds m (.map es c) } m es c := by
  unfold Mp; simp [h]
theorem Mp.ne {w : World} {m g : Nat} {es : Array MapEntry} {c : Nat} {t : TypeId} {cs : Array Value} (h : Mp w m es c) (h' : Blk w g t cs) : m ≠ g := by
  rintro rfl
  unfold Mp at h; unfold Blk at h'
  rw [h] at h'; cases h'
/-- a map block has no cells -/
theorem Mp.no {w : World} {m g : Nat} {es : Array MapEntry} {c : Nat} {o : Nat} {v : Value} (h : Mp w m es c) (h' : w.cell? ⟨g, o, none⟩ = some v) : ¬ g = m := by
  rintro rfl
  unfold Mp at h
  simp [World.cell?, h] at h'
theorem Blk.ne {w : World} {g g' : Nat} {t t' : TypeId} {cs cs' : Array Value} (h : Blk w g t cs) (h' : Blk w g' t' cs') (hne : t ≠ t') : g ≠ g' := by
  rintro rfl
  unfold Blk at h h'
  rw [h] at h'
  injection h' with h'
  injection h' with _ ht
  exact hne ht
theorem row_ext {own : Nat → Prop} {w w' : World} {e : TypeId} {base size n : Nat} {v : Value} {xs : List Value} (h : w.ownsRow base e size v n xs) (hb : Ext own w w') (hd : ∀ g, v.ownBlock = some g → ¬ own g) : w'.ownsRow base e size v n xs := by
  refine ⟨h.1, ?_⟩
  rcases h.2 with h | ⟨g, cap, cur, hv, hg, hh, r⟩
  · exact .inl h
  · exact .inr ⟨g, cap, cur, hv, hg, Blk.ext (t := e) hh hb (hd g (by rw [hv]; rfl)), r⟩
theorem row_later {w w' : World} {e : TypeId} {base size n : Nat} {v : Value} {xs : List Value} (h : w.ownsRow base e size v n xs) (hb : B w w') : w'.ownsRow base e size v n xs :=
  row_ext h (Ext.of_B (own := fun _ => False) hb) (fun _ _ => id)
theorem row_lt {w : World} {e : TypeId} {base size n : Nat} {v : Value} {xs : List Value} (h : w.ownsRow base e size v n xs) {g : Nat} (hg : v.ownBlock = some g) : g < w.heap.size := by
  rcases h.2 with ⟨rfl, _⟩ | ⟨g', cap, cur, rfl, _, hh, r⟩
  · simp [Value.ownBlock] at hg
  · have : g' = g := by simpa [Value.ownBlock] using hg
    subst this
    exact Blk.lt (t := e) hh
theorem row_ne {w : World} {e t : TypeId} {base size n g : Nat} {v : Value} {xs : List Value} {cs : Array Value} (h : w.ownsRow base e size v n xs) (hg : Blk w g t cs) (hne : e ≠ t) : v.ownBlock ≠ some g := by
  rcases h.2 with ⟨rfl, _⟩ | ⟨g', cap, cur, rfl, _, hh, _⟩
  · simp [Value.ownBlock]
  · intro he
    have : g' = g := by simpa [Value.ownBlock] using he
    subst this
    exact Blk.ne (t := e) hh hg hne rfl
theorem own_slice {w : World} {e : TypeId} {base size n : Nat} {v : Value} {xs : List Value} (h : w.ownsRow base e size v n xs) : ∃ A c, v = .slice A n c := by
  rcases h.2 with ⟨rfl, rfl⟩ | ⟨g', cap, cur, rfl, _⟩
  · exact ⟨_, _, rfl⟩
  · exact ⟨_, _, rfl⟩
theorem row_no {w : World} {e : TypeId} {base size n m c : Nat} {v : Value} {xs : List Value} {es : Array MapEntry} (h : w.ownsRow base e size v n xs) (hm : Mp w m es c) {g : Nat} (hg : v.ownBlock = some g) : ¬ g = m := by
  rintro rfl
  rcases h.2 with ⟨rfl, _⟩ | ⟨g', cap, cur, rfl, _, hh, _⟩
  · simp [Value.ownBlock] at hg
  · have : g' = g := by simpa [Value.ownBlock] using hg
    subst this
    exact hm.ne (t := e) hh rfl
/-- two rows of elements of unlike types -/
theorem row_row {w : World} {e e' : TypeId} {b b' size size' n n' : Nat} {v v' : Value} {xs xs' : List Value} (h : w.ownsRow b e size v n xs) (h' : w.ownsRow b' e' size' v' n' xs') (hne : e ≠ e') {g : Nat} (hg : v.ownBlock = some g) (hg' : v'.ownBlock = some g) : False := by
  rcases h'.2 with ⟨rfl, _⟩ | ⟨g', cap, cur, rfl, _, hh, _⟩
  · simp [Value.ownBlock] at hg'
  · have : g' = g := by simpa [Value.ownBlock] using hg'
    subst this
    exact row_ne h (t := e') hh hne hg
theorem row_base {w : World} {e : TypeId} {base base' size n : Nat} {v : Value} {xs : List Value} (h : w.ownsRow base e size v n xs) (hb : base' ≤ base) : w.ownsRow base' e size v n xs := by
  refine ⟨h.1, ?_⟩
  rcases h.2 with h | ⟨g, cap, cur, hv, hg, r⟩
  · exact .inl h
  · exact .inr ⟨g, cap, cur, hv, Nat.le_trans hb hg, r⟩
theorem row_ge {w : World} {e : TypeId} {base size n : Nat} {v : Value} {xs : List Value} (h : w.ownsRow base e size v n xs) {g : Nat} (hg : v.ownBlock = some g) : base ≤ g := by
  rcases h.2 with ⟨rfl, _⟩ | ⟨g', cap, cur, rfl, hb, _⟩
  · simp [Value.ownBlock] at hg
  · have : g' = g := by simpa [Value.ownBlock] using hg
    subst this; exact hb
theorem Own2.grown {w w' : World} {b : Nat} {x y : Value} {row : Option Nat} (h : Own2 w b x y) (hg : w.grownBy w' row) (hn : some b ≠ row) : Own2 w' b x y :=
  h.ext ((Ext.refl (fun g => some g = row) w).grown hg (fun g hg _ => hg.symm)) hn
/-! a built-in append whose run is known -/
section
variable {P : Program} {w : World} {ops : Array Oper} {rest : List Oper} {o : Oper} {a : Act} {K : Act → World → Prop} {Q : Exit → Act → World → Prop} {E : Prop}
theorem wp_append_run (s x : Operand) (t : TypeId) (ho : o.op = .call { callee := .builtin .append, args := #[s, x], argTypes := #[t, t] }) {v u v' : Value} {w' : World} (hs : a.eval s = v) (hx : a.eval x = u)
    (hrun : (Builtin.append_ #[t, t] o.type #[v, u]).run P w = .ok v' w') (h : K (a.put o.dst v') w') : o.wp P a w K Q := by
  unfold Oper.wp execOp
  simp only [ho, resolve, invoke, builtin, Sem.run_bind, Sem.run_pure, Result.andThen_ok, List.map_toArray, List.map_cons, List.map_nil, hs, hx, hrun]
  exact h
theorem wpList_append_run (hgd : o.guard = none) (s x : Operand) (t : TypeId) (ho : o.op = .call { callee := .builtin .append, args := #[s, x], argTypes := #[t, t] }) {v u v' : Value} {w' : World} (hs : a.eval s = v) (hx : a.eval x = u)
    (hrun : (Builtin.append_ #[t, t] o.type #[v, u]).run P w = .ok v' w') (h : wpList P ops Q rest (a.put o.dst v') w') : wpList P ops Q (o :: rest) a w :=
  wpList_plain hgd fun _ hK => wp_append_run s x t ho hs hx hrun (hK _ _ h)
theorem step_append_run (hgd : o.guard = none) (s x : Operand) (t : TypeId) (ho : o.op = .call { callee := .builtin .append, args := #[s, x], argTypes := #[t, t] }) {v u v' : Value} {w' : World} (hs : a.eval s = v) (hx : a.eval x = u)
    (hrun : (Builtin.append_ #[t, t] o.type #[v, u]).run P w = .ok v' w') (h : K (a.put o.dst v') w') : if Region.wanted o (yielded ops a.tmps) = true then Oper.wp P o a w K Q else E := by
  have hw : Region.wanted o (yielded ops a.tmps) = true := by simp [Region.wanted, hgd]
  rw [if_pos hw]
  exact wp_append_run s x t ho hs hx hrun h
/-- a call of a Go function, met by its contract -/
theorem step_call (hgd : o.guard = none) (f : FuncId) (args : Array Operand) (ts : Array TypeId) (ho : o.op = .call { callee := .value (.func f), args := args, argTypes := ts })
    (hf : ∀ (args : Array Value) (w : World), (callFunc f args).run P w = .ok (.enter f args) w) {vs : Array Value} {R : Ending → World → Prop} (hc : Calls P f vs w R) (hv : args.toList.map a.eval = vs.toList) (h : ∀ e w', R e w' → ∃ v, e = .returned v ∧ K (a.put o.dst v) w') :
    if Region.wanted o (yielded ops a.tmps) = true then Oper.wp P o a w K Q else E := by
  have hw : Region.wanted o (yielded ops a.tmps) = true := by simp [Region.wanted, hgd]
  have hv' : args.map a.eval = vs := by
    apply Array.toList_inj.1
    rw [Array.toList_map]; exact hv
  subst hv'
  rw [if_pos hw]
  unfold Oper.wp execOp
  simp only [ho, resolve, Act.eval, Deferred.ofValue, invoke, Sem.run_bind, Sem.run_pure, Result.andThen_ok, hf, Array.append_empty, Array.empty_append]
  exact hc.mono fun e w' hr => by
    obtain ⟨v, rfl, hk⟩ := h e w' hr
    exact hk
end
end Go.Proofs.Ythgpkbhilkdckaa

/- Byte slices: 'Bs w v bs': the slice value v reads as the bytes bs. No program here. -/
namespace Go.Proofs.Ythgpkbhilkdckaa
open Go.RowKit
set_option linter.unusedVariables false

def cellsB (bs : List UInt8) : List Value := bs.map fun b => .int .u8 b.toNat
theorem cellsB_len (bs : List UInt8) : (cellsB bs).length = bs.length := by simp [cellsB]
theorem cellsB_app (a b : List UInt8) : cellsB (a ++ b) = cellsB a ++ cellsB b := by simp [cellsB]
theorem cellsB_get (bs : List UInt8) (j : Nat) (h : j < bs.length) : (cellsB bs)[j]? = some (.int .u8 (bs[j]).toNat) := by simp [cellsB, h]
theorem cellsB_one (bs : List UInt8) : ∀ u ∈ cellsB bs, u.oneCell' = true := by
  intro u hu
  simp only [cellsB, List.mem_map] at hu
  obtain ⟨b, _, rfl⟩ := hu
  rfl
def bstr (bs : List UInt8) : ByteArray := ⟨bs.toArray⟩
theorem bstr_toList (bs : List UInt8) : (bstr bs).toList = bs := by rw [ByteArray.toList_eq]; rfl
theorem bstr_inj {a b : List UInt8} (h : bstr a = bstr b) : a = b := by rw [← bstr_toList a, h, bstr_toList]

def big : Nat := 140737488355328
structure Bs (w : World) (v : Value) (bs : List UInt8) : Prop where
  ex : ∃ (A : Option Addr) (cap : Nat), v = .slice A bs.length cap ∧ (A = none → bs = [] ∧ cap = 0) ∧ bs.length ≤ cap ∧ cap ≤ maxLen ∧
    ∀ ad, A = some ad → (bs ≠ [] → ad.block < w.heap.size) ∧ ∀ j u, (cellsB bs)[j]? = some u → w.cell? (ad.add j) = some u
  len : bs.length ≤ big

theorem block_of_add (a : Addr) (n : Nat) : (a.add n).block = a.block := by unfold Addr.add; split <;> rfl
theorem Bs.nil (w : World) : Bs w (.slice none 0 0) [] := ⟨⟨none, 0, rfl, fun _ => ⟨rfl, rfl⟩, Nat.le_refl _, by unfold maxLen; omega, fun ad h => by cases h⟩, by simp [big]⟩
theorem Bs.ext {own : Nat → Prop} {w w' : World} {v : Value} {bs : List UInt8} (h : Bs w v bs) (hb : Ext own w w') (hd : ∀ g, v.ownBlock = some g → bs ≠ [] → ¬ own g) : Bs w' v bs := by
  obtain ⟨⟨A, cap, hv, hn, hc, hm, hr⟩, hl⟩ := h
  refine ⟨⟨A, cap, hv, hn, hc, hm, fun ad had => ?_⟩, hl⟩
  obtain ⟨h1, h2⟩ := hr ad had
  exact ⟨fun hne => Nat.lt_of_lt_of_le (h1 hne) hb.size, fun j u hu => hb.cell (by
    rw [block_of_add]
    exact hd _ (by rw [hv, had]; rfl) (fun e => by subst e; simp [cellsB] at hu)) (h2 j u hu)⟩
theorem Bs.later {w w' : World} {v : Value} {bs : List UInt8} (h : Bs w v bs) (hb : B w w') : Bs w' v bs := h.ext (Ext.of_B (own := fun _ => False) hb) (fun _ _ _ => id)
theorem Bs.lt {w : World} {v : Value} {bs : List UInt8} (h : Bs w v bs) (hne : bs ≠ []) {g : Nat} (hg : v.ownBlock = some g) : g < w.heap.size := by
  obtain ⟨⟨A, cap, rfl, hn, hc, hm, hr⟩, hl⟩ := h
  cases A with
  | none => simp [Value.ownBlock] at hg
  | some ad =>
    have : ad.block = g := by simpa [Value.ownBlock] using hg
    rw [← this]; exact (hr ad rfl).1 hne
theorem Bs.of_own {w : World} {base : Nat} {e : TypeId} {v : Value} {bs : List UInt8} (h : w.ownsRow base e 1 v bs.length (cellsB bs)) (hl : bs.length ≤ big) : Bs w v bs := by
  obtain ⟨h1, h2⟩ := h
  rcases h2 with ⟨rfl, h0⟩ | ⟨g, cap, cur, rfl, hg, hh, hc, hm, hs, ht⟩
  · have : bs = [] := List.eq_nil_of_length_eq_zero h0
    subst this; exact Bs.nil w
  · refine ⟨⟨_, cap, rfl, fun e => (by cases e), hc, hm, fun ad had => ?_⟩, hl⟩
    cases had
    refine ⟨fun _ => Blk.lt (t := e) hh, fun j u hu => ?_⟩
    have hj : j < bs.length := by
      rcases Nat.lt_or_ge j bs.length with h | h
      · exact h
      · rw [List.getElem?_eq_none (by rw [cellsB_len]; exact h)] at hu; cases hu
    have ea : (⟨g, 0, none⟩ : Addr).add j = ⟨g, j, none⟩ := by unfold Addr.add; split <;> simp_all
    rw [ea, Blk.cell (t := e) hh, ← hu, ← ht]
    simp [hj]

section
variable {P : Program}
/-- 'string(b)' -/
theorem Bs.conv {w : World} {v : Value} {bs : List UInt8} (h : Bs w v bs) {src dst e : TypeId} (hs : P.underlying src = some (.slice e)) (he : P.underlying e = some (.int .u8)) (hd : P.underlying dst = some .string) :
    (convert src dst v).run P w = .ok (.string (bstr bs)) w := by
  obtain ⟨⟨A, cap, rfl, hn, hc, hm, hr⟩, hl⟩ := h
  cases A with
  | none =>
    rw [(hn rfl).1]
    exact run_convert_bytes_nil w src e hs he _ _ dst hd
  | some ad =>
    have hx : (bs.map fun b => (b.toNat : Int)).length = bs.length := by simp
    have hl : (loadCells ad bs.length).run P w = .ok ((bs.map fun b => (b.toNat : Int)).map (Value.int .u8)).toArray w := by
      have := run_loadCells_list (P := P) w ad (cellsB bs) ((hr ad rfl).2)
      simpa [cellsB, Function.comp_def] using this
    rw [run_convert_bytes_string w src dst e _ _ cap hs he hd, run_bytesToString w _ _ cap _ hl, foldl_push_bytes]
    simp [bstr, ByteArray.empty, ByteArray.emptyWithCapacity, Function.comp_def]
    rfl

/-- a slice against nil -/
theorem Bs.isNil {w : World} {v : Value} {bs : List UInt8} (h : Bs w v bs) : (v = .slice none 0 0 ∧ bs = []) ∨ ∃ ad cap, v = .slice (some ad) bs.length cap := by
  obtain ⟨⟨A, cap, rfl, hn, hc, hm, hr⟩, hl⟩ := h
  cases A with
  | none => obtain ⟨h1, h2⟩ := hn rfl; subst h1 h2; exact .inl ⟨rfl, rfl⟩
  | some ad => exact .inr ⟨ad, cap, rfl⟩

/-- append of bytes onto an own row -/
theorem append_Bs {w : World} {t ty e : TypeId} (ht : P.underlying t = some (.slice e)) (hi5 : (P.info? e).map (fun i => (i.zero, i.size, i.bytes)) = some (some (.int .u8 0), 1, 1))
    {base : Nat} {v u : Value} {xs bs : List UInt8} (hown : w.ownsRow base e 1 v xs.length (cellsB xs)) (hu : Bs w u bs) (hroom : xs.length + bs.length ≤ big) (hbase : base ≤ w.heap.size) :
    ∃ v' w', (Builtin.append_ #[t, t] ty #[v, u]).run P w = .ok v' w' ∧ w'.ownsRow base e 1 v' (xs ++ bs).length (cellsB (xs ++ bs)) ∧ w.grownBy w' v.ownBlock ∧ (v'.ownBlock = v.ownBlock ∨ v'.ownBlock = some w.heap.size) := by
  obtain ⟨i, hi, hz, hs, hb⟩ := info_parts hi5
  obtain ⟨⟨A, cap, rfl, hn, hc, hm, hr⟩, hl⟩ := hu
  unfold big at hroom hl
  cases A with
  | none =>
    obtain ⟨rfl, rfl⟩ := hn rfl
    refine ⟨v, w, ?_, by simpa using hown, World.grownBy.refl w _, .inl rfl⟩
    rcases hown.2 with ⟨rfl, _⟩ | ⟨g, c, cur, rfl, _, _, hnc, _⟩
    · simp [Builtin.append_, run_underlying ht, sizeOf, typeInfo, hi, Builtin.lenOf, Builtin.firstCells]
    · simp [Builtin.append_, run_underlying ht, sizeOf, typeInfo, hi, Builtin.lenOf, Builtin.firstCells, hnc, storeCells]
  | some ad =>
    obtain ⟨v', w', h1, h2, h3, h4, h5⟩ := run_append_own_at (P := P) w base t ty e i (.int .u8 0) 1 1 ht hi hz hs hb rfl (by omega) v xs.length (cellsB xs) hown ad bs.length cap (cellsB bs) (by rw [cellsB_len]; omega) (hr ad rfl).2 (cellsB_one bs) (by unfold maxLen; omega) (by omega) hbase
    exact ⟨v', w', h1, by rw [List.length_append, cellsB_app]; exact h2, h3, h5⟩
end
end Go.Proofs.Ythgpkbhilkdckaa

/- A slice that is read, whatever its elements ('Rd'), and append from it. No program here. -/
namespace Go.Proofs.Ythgpkbhilkdckaa
open Go.RowKit
set_option linter.unusedVariables false

/-- the slice value u of m elements of sz cells reads as the cells xs -/
def Rd (w : World) (u : Value) (m sz : Nat) (xs : List Value) : Prop :=
  xs.length = m * sz ∧ ∃ (A : Option Addr) (cap : Nat), u = .slice A m cap ∧ (A = none → m = 0 ∧ cap = 0) ∧ m ≤ cap ∧ ∀ ad, A = some ad → (0 < m → ad.block < w.heap.size) ∧ ∀ j x, xs[j]? = some x → w.cell? (ad.add j) = some x
theorem Rd.ext {own : Nat → Prop} {w w' : World} {u : Value} {m sz : Nat} {xs : List Value} (h : Rd w u m sz xs) (hb : Ext own w w') (hd : ∀ g, u.ownBlock = some g → ¬ own g) : Rd w' u m sz xs := by
  obtain ⟨hl, A, cap, hv, hn, hc, hr⟩ := h
  refine ⟨hl, A, cap, hv, hn, hc, fun ad had => ?_⟩
  obtain ⟨h1, h2⟩ := hr ad had
  have hno : ¬ own ad.block := hd _ (by rw [hv, had]; rfl)
  exact ⟨fun h => Nat.lt_of_lt_of_le (h1 h) hb.size, fun j x hx => hb.cell (by rw [block_of_add]; exact hno) (h2 j x hx)⟩
theorem Rd.later {w w' : World} {u : Value} {m sz : Nat} {xs : List Value} (h : Rd w u m sz xs) (hb : B w w') : Rd w' u m sz xs := h.ext (Ext.of_B (own := fun _ => False) hb) (fun _ _ => id)
theorem Rd.of_own {w : World} {base sz n : Nat} {e : TypeId} {v : Value} {xs : List Value} (h : w.ownsRow base e sz v n xs) : Rd w v n sz xs := by
  refine ⟨h.1, ?_⟩
  have hl := h.1
  rcases h.2 with ⟨rfl, rfl⟩ | ⟨g, cap, cur, rfl, hg, hh, hc, hm, hs, ht⟩
  · exact ⟨none, 0, rfl, fun _ => ⟨rfl, rfl⟩, Nat.le_refl _, fun ad h => by cases h⟩
  · refine ⟨_, cap, rfl, fun e => (by cases e), hc, fun ad had => ?_⟩
    cases had
    refine ⟨fun _ => Blk.lt (t := e) hh, fun j x hx => ?_⟩
    have hj : j < n * sz := by
      rcases Nat.lt_or_ge j xs.length with h | h
      · omega
      · rw [List.getElem?_eq_none h] at hx; cases hx
    have ea : (⟨g, 0, none⟩ : Addr).add j = ⟨g, j, none⟩ := by unfold Addr.add; split <;> simp_all
    rw [ea, Blk.cell (t := e) hh, ← hx, ← ht]
    simp [hj]
theorem Rd.slice {w : World} {u : Value} {m sz : Nat} {xs : List Value} (h : Rd w u m sz xs) : ∃ A c, u = .slice A m c := by
  obtain ⟨_, A, cap, hv, _⟩ := h; exact ⟨A, cap, hv⟩
theorem Rd.nil (w : World) (sz : Nat) : Rd w (.slice none 0 0) 0 sz [] := ⟨by simp, none, 0, rfl, fun _ => ⟨rfl, rfl⟩, Nat.le_refl _, fun ad h => by cases h⟩
section
variable {P : Program}
/-- append onto an own row, whatever is read -/
theorem append_Rd {w : World} {t ty e : TypeId} {z : Value} {sz bytes : Nat} (ht : P.underlying t = some (.slice e)) (hie : (P.info? e).map (fun i => (i.zero, i.size, i.bytes)) = some (some z, sz, bytes)) (hz : z.cells.size = sz) (hsz : 0 < sz)
    {base n m : Nat} {v u : Value} {xs news : List Value} (hown : w.ownsRow base e sz v n xs) (hu : Rd w u m sz news) (h1 : ∀ x ∈ news, x.oneCell' = true) (h63 : n + m ≤ maxLen) (hroom : (n + m) * bytes ≤ 140737488355328) (hbase : base ≤ w.heap.size) :
    ∃ v' w', (Builtin.append_ #[t, t] ty #[v, u]).run P w = .ok v' w' ∧ w'.ownsRow base e sz v' (n + m) (xs ++ news) ∧ w.grownBy w' v.ownBlock ∧ (v'.ownBlock = v.ownBlock ∨ v'.ownBlock = some w.heap.size) := by
  obtain ⟨i, hi, hz0, hs, hb⟩ := info_parts hie
  obtain ⟨hl, A, cap, rfl, hn, hc, hr⟩ := hu
  cases A with
  | none =>
    obtain ⟨rfl, rfl⟩ := hn rfl
    have hnil : news = [] := List.eq_nil_of_length_eq_zero (by simpa using hl)
    subst hnil
    refine ⟨v, w, ?_, by simpa using hown, World.grownBy.refl w _, .inl rfl⟩
    rcases hown.2 with ⟨rfl, rfl⟩ | ⟨g, c, cur, rfl, _, _, hnc, _⟩
    · simp [Builtin.append_, run_underlying ht, sizeOf, typeInfo, hi, Builtin.lenOf, Builtin.firstCells]
    · simp [Builtin.append_, run_underlying ht, sizeOf, typeInfo, hi, Builtin.lenOf, Builtin.firstCells, hnc, storeCells]
  | some ad =>
    obtain ⟨v', w', h1, h2, h3, h4, h5⟩ := run_append_own_at (P := P) w base t ty e i z sz bytes ht hi hz0 hs hb hz hsz v n xs hown ad m cap news hl (hr ad rfl).2 h1 h63 hroom hbase
    exact ⟨v', w', h1, h2, h3, h5⟩
end
section
variable {P : Program} {w : World} {ops : Array Oper} {rest : List Oper} {o : Oper} {a : Act} {K : Act → World → Prop} {Q : Exit → Act → World → Prop} {E : Prop}
/-- append onto an own row inside a region that draws -/
theorem step_append_Rd (hgd : o.guard = none) (s x : Operand) (t : TypeId) (ho : o.op = .call { callee := .builtin .append, args := #[s, x], argTypes := #[t, t] })
    {e : TypeId} {z : Value} {sz bytes : Nat} (ht : P.underlying t = some (.slice e)) (hie : (P.info? e).map (fun i => (i.zero, i.size, i.bytes)) = some (some z, sz, bytes)) (hz : z.cells.size = sz) (hsz : 0 < sz)
    {base n m : Nat} {v u : Value} {xs news : List Value} (hs : a.eval s = v) (hx : a.eval x = u) (hown : w.ownsRow base e sz v n xs) (hu : Rd w u m sz news) (h1 : ∀ x ∈ news, x.oneCell' = true) (h63 : n + m ≤ maxLen) (hroom : (n + m) * bytes ≤ 140737488355328) (hbase : base ≤ w.heap.size)
    (h : ∀ A c w', w'.ownsRow base e sz (.slice A (n + m) c) (n + m) (xs ++ news) → w.grownBy w' v.ownBlock → ((Value.slice A (n + m) c).ownBlock = v.ownBlock ∨ (Value.slice A (n + m) c).ownBlock = some w.heap.size) → K (a.put o.dst (.slice A (n + m) c)) w') :
    if Region.wanted o (yielded ops a.tmps) = true then Oper.wp P o a w K Q else E := by
  obtain ⟨v', w', hrun, h2, h3, h4⟩ := append_Rd (P := P) (t := t) (ty := o.type) ht hie hz hsz hown hu h1 h63 hroom hbase
  obtain ⟨A, c, rfl⟩ := own_slice h2
  exact step_append_run hgd s x t ho hs hx hrun (h A c w' h2 h3 h4)
theorem wpList_append_Rd (hgd : o.guard = none) (s x : Operand) (t : TypeId) (ho : o.op = .call { callee := .builtin .append, args := #[s, x], argTypes := #[t, t] })
    {e : TypeId} {z : Value} {sz bytes : Nat} (ht : P.underlying t = some (.slice e)) (hie : (P.info? e).map (fun i => (i.zero, i.size, i.bytes)) = some (some z, sz, bytes)) (hz : z.cells.size = sz) (hsz : 0 < sz)
    {base n m : Nat} {v u : Value} {xs news : List Value} (hs : a.eval s = v) (hx : a.eval x = u) (hown : w.ownsRow base e sz v n xs) (hu : Rd w u m sz news) (h1 : ∀ x ∈ news, x.oneCell' = true) (h63 : n + m ≤ maxLen) (hroom : (n + m) * bytes ≤ 140737488355328) (hbase : base ≤ w.heap.size)
    (h : ∀ A c w', w'.ownsRow base e sz (.slice A (n + m) c) (n + m) (xs ++ news) → w.grownBy w' v.ownBlock → ((Value.slice A (n + m) c).ownBlock = v.ownBlock ∨ (Value.slice A (n + m) c).ownBlock = some w.heap.size) → wpList P ops Q rest (a.put o.dst (.slice A (n + m) c)) w') :
    wpList P ops Q (o :: rest) a w := by
  obtain ⟨v', w', hrun, h2, h3, h4⟩ := append_Rd (P := P) (t := t) (ty := o.type) ht hie hz hsz hown hu h1 h63 hroom hbase
  obtain ⟨A, c, rfl⟩ := own_slice h2
  exact wpList_append_run hgd s x t ho hs hx hrun (h A c w' h2 h3 h4)
end
theorem Bs.rd {w : World} {v : Value} {bs : List UInt8} (h : Bs w v bs) : Rd w v bs.length 1 (cellsB bs) := by
  obtain ⟨⟨A, cap, rfl, hn, hc, hm, hr⟩, hl⟩ := h
  refine ⟨by rw [cellsB_len]; omega, A, cap, rfl, fun e => ?_, hc, fun ad had => ?_⟩
  · obtain ⟨rfl, rfl⟩ := hn e; exact ⟨rfl, rfl⟩
  · obtain ⟨h1, h2⟩ := hr ad had
    exact ⟨fun h0 => h1 (fun e => by subst e; simp at h0), h2⟩
theorem Rd.one (w : World) (x : Value) (t : TypeId) : Rd (w.alloc (.cells #[x] t)) (.slice (some ⟨w.heap.size, 0, none⟩) 1 1) 1 1 [x] := by
  refine ⟨rfl, _, 1, rfl, fun e => (by cases e), Nat.le_refl _, fun ad had => ?_⟩
  cases had
  exact ⟨fun _ => by simp, cell_one_new w x t⟩
theorem Rd.two (w : World) (x y : Value) (t : TypeId) : Rd (w.alloc (.cells #[x, y] t)) (.slice (some ⟨w.heap.size, 0, none⟩) 1 1) 1 2 [x, y] := by
  refine ⟨rfl, _, 1, rfl, fun e => (by cases e), Nat.le_refl _, fun ad had => ?_⟩
  cases had
  refine ⟨fun _ => by simp, fun j u hu => ?_⟩
  match j, hu with
  | 0, h => simp [Addr.add] at h ⊢; exact h
  | 1, h => simp [Addr.add] at h ⊢; exact h
  | j + 2, h => simp at h
theorem Rd.grown {w w' : World} {u : Value} {m sz : Nat} {xs : List Value} {row : Option Nat} (h : Rd w u m sz xs) (hg : w.grownBy w' row) (hn : ∀ g, u.ownBlock = some g → some g ≠ row) : Rd w' u m sz xs :=
  h.ext ((Ext.refl (fun g => some g = row) w).grown hg (fun g e _ => e.symm)) hn
theorem ownNil (w : World) (b e s : Nat) : w.ownsRow b e s (.slice none 0 0) 0 [] := ⟨by simp, .inl ⟨rfl, rfl⟩⟩
theorem ownEmpty (w : World) (e s : Nat) : (w.alloc (.cells #[] e)).ownsRow w.heap.size e s (.slice (some ⟨w.heap.size, 0, none⟩) 0 0) 0 [] :=
  ⟨by simp, .inr ⟨_, 0, #[], rfl, Nat.le_refl _, heap_alloc_new w _, Nat.le_refl _, by unfold maxLen; omega, by simp, by simp⟩⟩
theorem B.grown {w w' w'' : World} {row : Option Nat} (h : B w w') (hg : w'.grownBy w'' row) (hr : ∀ k, row = some k → w.heap.size ≤ k) : B w w'' := Below.grown h hg h.size hr
end Go.Proofs.Ythgpkbhilkdckaa

/- Objects that lie apart: 'St W w L': what was there at W is as it was, and the objects L lie in blocks made since, no block in two of them. No program here. -/
namespace Go.Proofs.Ythgpkbhilkdckaa
open Go.RowKit
set_option linter.unusedVariables false

/-- an object in memory: what it says of the blocks 'own' alone -/
structure Asn where
  at_ : (Nat → Prop) → World → Prop
  ext : ∀ {own own' : Nat → Prop} {w w' : World}, at_ own w → Ext own' w w' → (∀ b, own b → ¬ own' b) → at_ own w'
  bound : ∀ {own : Nat → Prop} {w : World}, at_ own w → at_ (fun x => own x ∧ x < w.heap.size) w

def Sep (w : World) : (Nat → Prop) → List Asn → Prop
  | _, [] => True
  | U, A :: L => ∃ own : Nat → Prop, (∀ b, own b → U b ∧ b < w.heap.size) ∧ A.at_ own w ∧ Sep w (fun b => U b ∧ ¬ own b) L
theorem Sep.mono {w : World} {U U' : Nat → Prop} {L : List Asn} (h : Sep w U L) (hs : ∀ b, b < w.heap.size → U b → U' b) : Sep w U' L := by
  induction L generalizing U U' with
  | nil => trivial
  | cons A L ih =>
    obtain ⟨own, h1, h2, h3⟩ := h
    exact ⟨own, fun b hb => ⟨hs b (h1 b hb).2 (h1 b hb).1, (h1 b hb).2⟩, h2, ih h3 (fun b hl hb => ⟨hs b hl hb.1, hb.2⟩)⟩
theorem Sep.ext {own : Nat → Prop} {w w' : World} {U : Nat → Prop} {L : List Asn} (h : Sep w U L) (hx : Ext own w w') (hd : ∀ b, b < w.heap.size → U b → ¬ own b) : Sep w' (fun b => U b ∧ b < w.heap.size) L := by
  induction L generalizing U with
  | nil => trivial
  | cons A L ih =>
    obtain ⟨o, h1, h2, h3⟩ := h
    refine ⟨o, fun b hb => ⟨⟨(h1 b hb).1, (h1 b hb).2⟩, Nat.lt_of_lt_of_le (h1 b hb).2 hx.size⟩, A.ext h2 hx (fun b hb => hd b (h1 b hb).2 (h1 b hb).1), ?_⟩
    exact (ih h3 (fun b hl hb => hd b hl hb.1)).mono (fun b _ hb => ⟨⟨hb.1.1, hb.2⟩, hb.1.2⟩)
theorem Sep.swap {w : World} {U : Nat → Prop} {A C : Asn} {L : List Asn} (h : Sep w U (A :: C :: L)) : Sep w U (C :: A :: L) := by
  obtain ⟨o, h1, h2, o', h3, h4, h5⟩ := h
  exact ⟨o', fun b hb => ⟨(h3 b hb).1.1, (h3 b hb).2⟩, h4, o, fun b hb => ⟨⟨(h1 b hb).1, fun e => (h3 b e).1.2 hb⟩, (h1 b hb).2⟩, h2, h5.mono (fun b _ hb => ⟨⟨hb.1.1, hb.2⟩, hb.1.2⟩)⟩

/-- the state of a call that began at W: old memory as it was, the objects L apart -/
def St (W w : World) (L : List Asn) : Prop := B W w ∧ Sep w (fun b => W.heap.size ≤ b) L
section
variable {W w w' : World} {A C D : Asn} {L : List Asn}
theorem St.nil (W : World) : St W W [] := ⟨Below.refl _ _, trivial⟩
theorem St.b (h : St W w L) : B W w := h.1
theorem St.swap (h : St W w (A :: C :: L)) : St W w (C :: A :: L) := ⟨h.1, h.2.swap⟩
theorem St.rot3 (h : St W w (A :: C :: D :: L)) : St W w (D :: A :: C :: L) := by
  obtain ⟨hb, o, h1, h2, h3⟩ := h
  exact St.swap ⟨hb, o, h1, h2, h3.swap⟩
theorem St.drop (h : St W w (A :: L)) : St W w L := by
  obtain ⟨hb, o, h1, h2, h3⟩ := h
  exact ⟨hb, h3.mono (fun b _ hb => hb.1)⟩
theorem St.drop2 (h : St W w (A :: C :: L)) : St W w (A :: L) := h.swap.drop
theorem St.later (h : St W w L) (hb : B w w') : St W w' L :=
  ⟨h.1.trans hb, (h.2.ext (Ext.of_B (own := fun _ => False) hb) (fun _ _ _ => id)).mono (fun b _ hb => hb.1)⟩
/-- a new object -/
theorem St.add (h : St W w L) (hb : B w w') {own : Nat → Prop} (ha : A.at_ own w') (ho : ∀ x, own x → w.heap.size ≤ x) : St W w' (A :: L) := by
  refine ⟨h.1.trans hb, _, fun b hb' => ⟨?_, hb'.2⟩, A.bound ha, ?_⟩
  · have := ho b hb'.1; have := h.1.size; show W.heap.size ≤ b; omega
  · exact (h.2.ext (Ext.of_B (own := fun _ => False) hb) (fun _ _ _ => id)).mono (fun b _ hb' => ⟨hb'.1, fun e => by have := ho b e.1; omega⟩)
theorem St.back {own : Nat → Prop} (hb : B W w) (h1 : ∀ b, own b → W.heap.size ≤ b ∧ b < w.heap.size) (h3 : Sep w (fun b => W.heap.size ≤ b ∧ ¬ own b) L) {w' : World} {A' : Asn} (hx : Ext own w w') (ha : A'.at_ (fun x => own x ∨ w.heap.size ≤ x) w') : St W w' (A' :: L) := by
  refine ⟨?_, _, fun b hb' => ⟨?_, hb'.2⟩, A'.bound ha, ?_⟩
  · exact (((Ext.of_B (own := own) hb).trans_ hx).to_B (fun x hx' e => by have := (h1 x e).1; omega))
  · rcases hb'.1 with e | e
    · exact (h1 b e).1
    · have := hb.size; show W.heap.size ≤ b; omega
  · exact (h3.ext hx (fun b _ hb' => hb'.2)).mono (fun b _ hb' => ⟨hb'.1.1, fun e => e.1.elim (fun e => hb'.1.2 e) (fun e => by omega)⟩)
/-- the first object by itself, and back -/
theorem St.focus (h : St W w (A :: L)) : ∃ own : Nat → Prop, A.at_ own w ∧ (∀ x, own x → W.heap.size ≤ x ∧ x < w.heap.size) ∧
    ∀ (w' : World) (A' : Asn), Ext own w w' → A'.at_ (fun x => own x ∨ w.heap.size ≤ x) w' → St W w' (A' :: L) := by
  obtain ⟨hb, own, h1, h2, h3⟩ := h
  exact ⟨own, h2, h1, fun w' A' hx ha => St.back hb h1 h3 hx ha⟩
/-- the first beside the second -/
theorem St.focus2 (h : St W w (A :: C :: L)) : ∃ own own' : Nat → Prop, A.at_ own w ∧ C.at_ own' w ∧ (∀ x, own x → W.heap.size ≤ x ∧ x < w.heap.size) ∧ (∀ x, own' x → ¬ own x) ∧
    ∀ (w' : World) (A' : Asn), Ext own w w' → A'.at_ (fun x => own x ∨ w.heap.size ≤ x) w' → St W w' (A' :: C :: L) := by
  obtain ⟨hb, own, h1, h2, h3⟩ := h
  obtain ⟨o', k1, k2, k3⟩ := id h3
  exact ⟨own, o', h2, k2, h1, fun x hx => (k1 x hx).1.2, fun w' A' hx ha => St.back hb h1 h3 hx ha⟩
/-- some blocks of its own, known whole -/
theorem St.get (h : St W w (A :: L)) : ∃ own : Nat → Prop, A.at_ own w ∧ (∀ x, own x → W.heap.size ≤ x ∧ x < w.heap.size) := by
  obtain ⟨own, h1, h2, _⟩ := h.focus
  exact ⟨own, h1, h2⟩
/-- another way to say what the first object is -/
theorem St.conv (h : St W w (A :: L)) (hc : ∀ own, A.at_ own w → C.at_ own w) : St W w (C :: L) := by
  obtain ⟨hb, own, h1, h2, h3⟩ := h
  exact ⟨hb, own, h1, hc own h2, h3⟩
end
/-- a block known whole -/
def aBlk (g : Nat) (t : TypeId) (cs : Array Value) : Asn where
  at_ own w := own g ∧ Blk w g t cs
  ext h hx hd := ⟨h.1, h.2.ext hx (hd _ h.1)⟩
  bound h := ⟨⟨h.1, h.2.lt⟩, h.2⟩
theorem aBlk.new {W w : World} {L : List Asn} (h : St W w L) (t : TypeId) (cs : Array Value) : St W (w.alloc (.cells cs t)) (aBlk w.heap.size t cs :: L) :=
  h.add (B.alloc' _ _) (A := aBlk w.heap.size t cs) (own := fun x => x = w.heap.size) ⟨rfl, Blk.new w t cs⟩ (fun x e => by omega)
theorem aBlk.set {W w : World} {L : List Asn} {g : Nat} {t : TypeId} {cs : Array Value} (h : St W w (aBlk g t cs :: L)) (i : Nat) (u : Value) : St W (w.setCell ⟨g, i, none⟩ u) (aBlk g t (cs.setIfInBounds i u) :: L) := by
  obtain ⟨own, h1, h2, h3⟩ := h.focus
  exact h3 _ (aBlk g t (cs.setIfInBounds i u)) ((Ext.refl own w).set (p := ⟨g, i, none⟩) (fun _ => h1.1) _) ⟨.inl h1.1, h1.2.set_ i u⟩
theorem aBlk.get {W w : World} {L : List Asn} {g : Nat} {t : TypeId} {cs : Array Value} (h : St W w (aBlk g t cs :: L)) : Blk w g t cs := by
  obtain ⟨own, h1, h2⟩ := h.get; exact h1.2
/-- a byte slice in blocks of its own -/
def aBs (v : Value) (b : List UInt8) : Asn where
  at_ own w := Bs w v b ∧ ∀ g, v.ownBlock = some g → b ≠ [] → own g
  ext h hx hd := ⟨h.1.ext hx (fun g hg hne => hd g (h.2 g hg hne)), h.2⟩
  bound h := ⟨h.1, fun g hg hne => ⟨h.2 g hg hne, h.1.lt hne hg⟩⟩
/-- a row of its own -/
def aRow (e : TypeId) (sz : Nat) (v : Value) (n : Nat) (xs : List Value) : Asn where
  at_ own w := w.ownsRow 0 e sz v n xs ∧ ∀ g, v.ownBlock = some g → own g
  ext h hx hd := ⟨row_ext h.1 hx (fun g hg => hd g (h.2 g hg)), h.2⟩
  bound h := ⟨h.1, fun g hg => ⟨h.2 g hg, row_lt h.1 hg⟩⟩
end Go.Proofs.Ythgpkbhilkdckaa

/- From a call that returns true and leaves old memory alone to a law's row: one lemma for every law. -/
namespace Go.Proofs.Ythgpkbhilkdckaa
open Go.ChangeShapes Go.WideShapes Go.ChangeAt Go.RowKit
set_option linter.unusedVariables false

section
variable {H : Type} {enc : TypeId × Value → H} {P : Program}

/-- all arguments read as they did -/
theorem trodAll_later (hl : laidOutB P = true) {W W' : World} (hb : B W W') : ∀ (ts : List TypeId) (vs : List Value) (ds : List (DataW H)) (ps : List MemPlace),
    (ts.all fun t => P.readableRec t && decide (t < P.types.size)) = true →
    DataW.TrodAll enc P W 0 (fun _ => true) true ts vs ds ps → (∀ x ∈ ps, x.block < W.heap.size) →
    DataW.TrodAll enc P W' 0 (fun b => decide (b < W.heap.size)) true ts vs ds ps
  | [], [], [], ps, _, h, _ => h
  | t :: ts, v :: vs, d :: ds, ps, hr, h, hlt => by
    obtain ⟨p, q, h1, h2, rfl⟩ := h
    simp only [List.all_cons, Bool.and_eq_true, decide_eq_true_eq] at hr
    exact ⟨p, q, hb.trod hl hr.1.1 hr.1.2 h1 (fun x hx => hlt x (List.mem_append.2 (.inl hx))), trodAll_later hl hb ts vs ds q hr.2 h2 (fun x hx => hlt x (List.mem_append.2 (.inr hx))), rfl⟩
  | [], [], _ :: _, _, _, h, _ => h.elim
  | [], _ :: _, _, _, _, h, _ => by cases h
  | _ :: _, [], _, _, _, h, _ => by cases h
  | _ :: _, _ :: _, [], _, _, h, _ => by cases h

/-- the law's post: it returned true, old memory is as it was -/
theorem law_post {f : Func} {s : ChangeSpec} {apart : Bool} {W W' : World} {args : Array Value} {ds gs : List (DataW H)} {before : List MemPlace} {tb : TypeId}
    (hl : laidOutB P = true) (hr : (f.params.toList.all fun t => P.readableRec t && decide (t < P.types.size)) = true)
    (hv : s.vars = []) (hfn : (s.fn H ds).results = [.lit (.bool true)] ∧ (s.fn H ds).args = ds ∧ (s.fn H ds).vars = [])
    (hres : f.resultTypes = #[tb]) (ub : P.underlying tb = some .bool)
    (hW : DataW.Whole enc P f.params.toList s.vars apart W args.toList ds gs before) (hb : B W W') :
    s.post enc P f apart true false false W args (.bool true) W' := by
  have hlt := hW.lt
  have hW' := hW
  obtain ⟨p, q, hA, hV, rfl, hfz, hnd⟩ := hW'
  rw [hv] at hV
  obtain ⟨rfl, rfl⟩ := trodVars_none hV
  have hA' := trodAll_later hl hb _ _ _ _ hr hA (fun x hx => hlt x (List.mem_append.2 (.inl hx)))
  refine ⟨ds, [], p ++ [], [], p, [], hW, ?_, ?_, ?_, ?_, fun h => by cases h⟩
  · rw [List.append_nil, hfn.1, hres]
    exact ⟨[], [], shut_bool ub _, rfl, rfl⟩
  · rw [List.append_nil, hfn.2.1]; exact hA'
  · rw [List.append_nil, hfn.2.2, hv]; rfl
  · exact World.keptBut_mono (fun _ h => h) (hb.frame _)
end
end Go.Proofs.Ythgpkbhilkdckaa

/- Arguments opened: slices of two-cell structs, slices of byte slices. No program here. -/
namespace Go.Proofs.Ythgpkbhilkdckaa
open Go.ChangeShapes Go.WideShapes Go.ChangeAt Go.RowKit Go.Deep
set_option linter.unusedVariables false

theorem list_choose {α : Type} {P : Nat → α → Prop} (n : Nat) (h : ∀ i, i < n → ∃ x, P i x) : ∃ L : List α, L.length = n ∧ ∀ i x, L[i]? = some x → P i x := by
  induction n with
  | zero => exact ⟨[], rfl, fun i x hx => by simp at hx⟩
  | succ n ih =>
    obtain ⟨L, hl, hL⟩ := ih (fun i hi => h i (by omega))
    obtain ⟨x, hx⟩ := h n (by omega)
    refine ⟨L ++ [x], by simp [hl], fun i y hy => ?_⟩
    by_cases hi : i < L.length
    · rw [List.getElem?_append_left hi] at hy; exact hL i y hy
    · rw [List.getElem?_append_right (by omega)] at hy
      have : i - L.length = 0 := by
        rcases Nat.eq_zero_or_pos (i - L.length) with e | e
        · exact e
        · rw [List.getElem?_eq_none (by simp; omega)] at hy; cases hy
      rw [this] at hy
      simp at hy
      subst hy
      have : i = n := by omega
      rw [this]; exact hx

/-- a slice of pairs of ints, read -/
def Ss (w : World) (v : Value) (L : List (Int × Int)) : Prop := ∃ (A : Option Addr) (cap : Nat), v = .slice A L.length cap ∧ (0 < L.length → ∃ b off, A = some ⟨b, off, none⟩ ∧ b < w.heap.size ∧
  ∀ i x, L[i]? = some x → w.cell? ⟨b, off + i * 2, none⟩ = some (.int .i64 x.1) ∧ w.cell? ⟨b, off + i * 2 + 1, none⟩ = some (.int .i64 x.2))
theorem Ss.ext {own : Nat → Prop} {w w' : World} {v : Value} {L : List (Int × Int)} (h : Ss w v L) (hb : Ext own w w') (hd : ∀ g, v.ownBlock = some g → ¬ own g) : Ss w' v L := by
  obtain ⟨A, cap, rfl, hr⟩ := h
  refine ⟨A, cap, rfl, fun hn => ?_⟩
  obtain ⟨b, off, rfl, hb1, hc⟩ := hr hn
  have hno : ¬ own b := hd b rfl
  exact ⟨b, off, rfl, Nat.lt_of_lt_of_le hb1 hb.size, fun i x hx => ⟨hb.cell hno (hc i x hx).1, hb.cell hno (hc i x hx).2⟩⟩
theorem Ss.later {w w' : World} {v : Value} {L : List (Int × Int)} (h : Ss w v L) (hb : B w w') : Ss w' v L := h.ext (Ext.of_B (own := fun _ => False) hb) (fun _ _ => id)

theorem addr_add (b off k : Nat) : (⟨b, off, none⟩ : Addr).add k = ⟨b, off + k, none⟩ := by unfold Addr.add; split <;> simp_all
theorem cell_spot {w : World} {a : Addr} {v : Value} (h : w.cell? a = some v) : a = ⟨a.block, a.off, none⟩ := by
  unfold World.cell? at h
  split at h
  · split at h
    · cases h
    · rename_i hs
      cases a with
      | mk b o s => cases s with
        | none => rfl
        | some x => simp at hs
  · cases h

section
variable {H : Type} {enc : TypeId × Value → H} {P : Program} {w : World} {base : Nat} {held : Bool} {spare : Nat → Bool}
theorem open_sgs {r : Reach} {b0 : Nat} {t e : TypeId} {f0 f1 : Field} {v : Value} {d : DataW H} {p : List MemPlace} (ht : P.underlying t = some (.slice e)) (he : P.underlying e = some (.struct #[f0, f1]))
    (hC : P.cellsOf e = 2) (h0 : f0.offset = 0 ∧ P.cellsOf f0.type = 1 ∧ P.underlying f0.type = some (.int .i64)) (h1 : f1.offset = 1 ∧ P.cellsOf f1.type = 1 ∧ P.underlying f1.type = some (.int .i64))
    (hv : Value.okWide P w r b0 t v) (h : DataW.Trod enc P w base spare held t v d p) :
    ∃ L, Ss w v L ∧ ((v = .slice none 0 0 ∧ d = .nil) ∨ ∃ elems sp, d = .slice elems sp ∧ elems.length = L.length) := by
  obtain ⟨A, len, cap, rfl⟩ := okWide_slice ht hv
  obtain ⟨fuel, hf⟩ := h
  rcases open_slice ht hf with ⟨h2, h3⟩ | ⟨a, len', cap', m, n, D, Pl, hcs, hb, hl, hm, hmm, hx, hi⟩
  · simp [Value.cells] at h2
    obtain ⟨rfl, rfl, rfl⟩ := h2
    simp only [Prod.mk.injEq] at h3
    exact ⟨[], ⟨none, 0, rfl, fun h => by simp at h⟩, .inl ⟨rfl, h3.1⟩⟩
  · simp [Value.cells] at hcs
    obtain ⟨rfl, rfl, rfl⟩ := hcs
    have hlm : len ≤ m := by rw [hmm]; split <;> omega
    obtain ⟨L, hLl, hL⟩ := list_choose (P := fun i (x : Int × Int) => w.cell? ((a.add (i * 2)).add 0) = some (.int .i64 x.1) ∧ w.cell? ((a.add (i * 2)).add 1) = some (.int .i64 x.2)) len (fun i hil => by
      obtain ⟨cs', hc, htr⟩ := hi i (by omega)
      rw [hC] at hc
      obtain ⟨_, hcl, hcat⟩ := World.cells?_some hc
      obtain ⟨y0, y1, n', _, _, t0, t1⟩ := trod_struct2 he htr
      match cs', hcl with
      | [c0, c1], _ =>
        rw [h0.1, h0.2.1] at t0
        rw [h1.1, h1.2.1] at t1
        obtain ⟨x0, e0, _, _⟩ := DataW.trod_int h0.2.2 t0
        obtain ⟨x1, e1, _, _⟩ := DataW.trod_int h1.2.2 t1
        simp at e0 e1
        subst e0 e1
        exact ⟨(x0, x1), hcat 0 (by omega), hcat 1 (by omega)⟩)
    simp only [Prod.mk.injEq] at hx
    refine ⟨L, ⟨some a, cap, by rw [hLl], fun hn => ?_⟩, .inr ⟨_, _, hx.1, by simp [hLl]⟩⟩
    have z := (hL 0 _ (List.getElem?_eq_getElem hn)).1
    have za : a = ⟨a.block, a.off, none⟩ := by
      have := cell_spot z
      simp [Addr.add] at this
      exact this
    have hblt := World.block_lt_of_cell? w _ z
    rw [block_of_add, block_of_add] at hblt
    refine ⟨a.block, a.off, by rw [← za], hblt, fun i x hx => ?_⟩
    have := hL i x hx
    rw [za] at this
    rw [addr_add, addr_add, addr_add] at this
    exact this
end
end Go.Proofs.Ythgpkbhilkdckaa

/- What bytes.Clone, slices.Clone, bytes.Equal and the reference's Same return. -/
namespace Go.Proofs.Ythgpkbhilkdckaa
open Go.RowKit
set_option linter.unusedVariables false

theorem info5 : (Try.prog.info? 5).map (fun i => (i.zero, i.size, i.bytes)) = some (some (.int .u8 0), 1, 1) := by kernel_rfl
/-- a fresh copy -/
def ClonePost (w : World) (bs : List UInt8) (e : Ending) (w' : World) : Prop := ∃ v', e = .returned v' ∧ w'.ownsRow w.heap.size 5 1 v' bs.length (cellsB bs) ∧ B w w'

set_option maxHeartbeats 400000 in
theorem clone89 {w : World} {v : Value} {bs : List UInt8} (h : Bs w v bs) : Calls Try.prog 89 #[v] w (ClonePost w bs) := by
  rcases h.isNil with ⟨rfl, rfl⟩ | ⟨ad, cap, rfl⟩
  · have q : ∀ w, (binOp .eql 47 (.slice none 0 0) (.slice none 0 0)).run Try.prog w = .ok (.bool true) w := fun w => by kernel_rfl
    have E := Lib.hid (show ClonePost w [] (.returned (.slice none 0 0)) w from ⟨_, rfl, ownNil w _ _ _, Below.refl _ _⟩)
    clear h
    go_enter Try.func89, Try.ntmps89
    go_wp2
    go_ret
    exact E.out
  · have q : ∀ w, (binOp .eql 47 (.slice (some ad) bs.length cap) (.slice none 0 0)).run Try.prog w = .ok (.bool false) w := fun w => by kernel_rfl
    have hb : B w (w.alloc (.cells #[] 5)) := B.alloc' _ _
    have ho : (w.alloc (.cells #[] 5)).ownsRow w.heap.size 5 1 (.slice (some ⟨w.heap.size, 0, none⟩) 0 0) ([] : List UInt8).length (cellsB []) := ⟨rfl, .inr ⟨_, 0, #[], rfl, Nat.le_refl _, heap_alloc_new w _, Nat.le_refl _, by unfold maxLen; omega, rfl, rfl⟩⟩
    obtain ⟨v', w', hrun, h2, h3, h4⟩ := append_Bs (P := Try.prog) (t := 47) (ty := 47) Try.underlying47 info5 ho (h.later hb) (by have := h.len; simpa using this) (by simp)
    have E := Lib.hid (show ClonePost w bs (.returned v') w' from ⟨_, rfl, h2, hb.grown h3 (fun k hk => by simp [Value.ownBlock] at hk; omega)⟩)
    clear h ho h2 h3 h4 hb
    go_enter Try.func89, Try.ntmps89
    go_wp2_with (at_builtin; refine wpList_append_run rfl (.tmp 5) (.tmp 6) 47 rfl rfl rfl hrun ?_)
    go_ret
    exact E.out

set_option maxHeartbeats 400000 in
theorem clone63 {w : World} {v : Value} {bs : List UInt8} (h : Bs w v bs) : Calls Try.prog 63 #[v] w (ClonePost w bs) := by
  rcases h.isNil with ⟨rfl, rfl⟩ | ⟨ad, cap, rfl⟩
  · have q : ∀ w, (binOp .eql 47 (.slice none 0 0) (.slice none 0 0)).run Try.prog w = .ok (.bool true) w := fun w => by kernel_rfl
    have E := Lib.hid (show ClonePost w [] (.returned (.slice none 0 0)) w from ⟨_, rfl, ownNil w _ _ _, Below.refl _ _⟩)
    clear h
    go_enter Try.func63, Try.ntmps63
    go_wp2
    go_ret
    exact E.out
  · have q : ∀ w, (binOp .eql 47 (.slice (some ad) bs.length cap) (.slice none 0 0)).run Try.prog w = .ok (.bool false) w := fun w => by kernel_rfl
    have hb : B w (w.alloc (.cells #[] 5)) := B.alloc' _ _
    have ho : (w.alloc (.cells #[] 5)).ownsRow w.heap.size 5 1 (.slice (some ⟨w.heap.size, 0, none⟩) 0 0) ([] : List UInt8).length (cellsB []) := ⟨rfl, .inr ⟨_, 0, #[], rfl, Nat.le_refl _, heap_alloc_new w _, Nat.le_refl _, by unfold maxLen; omega, rfl, rfl⟩⟩
    obtain ⟨v', w', hrun, h2, h3, h4⟩ := append_Bs (P := Try.prog) (t := 47) (ty := 47) Try.underlying47 info5 ho (h.later hb) (by have := h.len; simpa using this) (by simp)
    have E := Lib.hid (show ClonePost w bs (.returned v') w' from ⟨_, rfl, h2, hb.grown h3 (fun k hk => by simp [Value.ownBlock] at hk; omega)⟩)
    clear h ho h2 h3 h4 hb
    go_enter Try.func63, Try.ntmps63
    go_wp2_with (at_builtin; refine wpList_append_run rfl (.tmp 5) (.tmp 6) 47 rfl rfl rfl hrun ?_)
    go_ret
    exact E.out

set_option maxHeartbeats 400000 in
theorem equal68 {w : World} {v u : Value} {a b : List UInt8} (h : Bs w v a) (k : Bs w u b) : Calls Try.prog 68 #[v, u] w fun e w' => e = .returned (.bool (a == b)) ∧ w = w' := by
  have h1 := h.conv (P := Try.prog) (src := 47) (dst := 9) Try.underlying47 Try.underlying5 Try.underlying9
  have h2 := k.conv (P := Try.prog) (src := 47) (dst := 9) Try.underlying47 Try.underlying5 Try.underlying9
  clear h k
  go_enter Try.func68, Try.ntmps68
  go_wp2
  go_ret
  exact ⟨by simp [bstr_toList], rfl⟩

set_option maxHeartbeats 400000 in
theorem same112 {w : World} {v u : Value} {a b : List UInt8} (h : Bs w v a) (k : Bs w u b) : Calls Try.prog 112 #[v, u] w fun e w' => e = .returned (.bool (a == b)) ∧ w = w' := by
  have h1 := h.conv (P := Try.prog) (src := 47) (dst := 9) Try.underlying47 Try.underlying5 Try.underlying9
  have h2 := k.conv (P := Try.prog) (src := 47) (dst := 9) Try.underlying47 Try.underlying5 Try.underlying9
  clear h k
  go_enter Try.func112, Try.ntmps112
  go_wp2
  go_ret
  exact ⟨by simp [bstr_toList], rfl⟩

end Go.Proofs.Ythgpkbhilkdckaa

/- The table of package ideal: its place in memory, the map's laws at a string key, contracts of its methods. -/
namespace Go.Proofs.Ythgpkbhilkdckaa
open Go.RowKit
set_option linter.unusedVariables false

/-- the place of b among M, counted from i + 1 -/
def look (b : List UInt8) : List (List UInt8) → Nat → Option Nat
  | [], _ => none
  | x :: r, i => if x = b then some (i + 1) else look b r (i + 1)
theorem look_none {b : List UInt8} {M : List (List UInt8)} {i : Nat} : look b M i = none ↔ b ∉ M := by
  induction M generalizing i with
  | nil => simp [look]
  | cons x r ih => 
    by_cases h : x = b
    · simp [look, h]
    · simp [look, h, ih, Ne.symm h]
theorem look_some {b : List UInt8} {M : List (List UInt8)} {i d : Nat} (h : look b M i = some d) : i + 1 ≤ d ∧ d ≤ i + M.length ∧ M[d - 1 - i]? = some b := by
  induction M generalizing i with
  | nil => simp [look] at h
  | cons x r ih =>
    by_cases e : x = b
    · simp [look, e] at h; subst h; simp [e]
    · simp only [look, if_neg e] at h
      obtain ⟨h1, h2, h3⟩ := ih h
      refine ⟨by omega, by simp; omega, ?_⟩
      rw [show d - 1 - i = (d - 1 - (i + 1)) + 1 by omega]
      simpa using h3

theorem bstr_beq (a b : List UInt8) : (bstr a == bstr b) = (a == b) := by rw [beq_toListBytes, bstr_toList, bstr_toList]
/-- the map's entries -/
def entsT : List (List UInt8) → Nat → List MapEntry
  | [], _ => []
  | x :: r, i => { key := .string (bstr x), val := .int .i64 ((i + 1 : Nat) : Int), born := i } :: entsT r (i + 1)
theorem entsT_snoc (s : List (List UInt8)) (x : List UInt8) (i : Nat) : entsT (s ++ [x]) i = entsT s i ++ [{ key := .string (bstr x), val := .int .i64 ((i + s.length + 1 : Nat) : Int), born := i + s.length }] := by
  induction s generalizing i with
  | nil => simp [entsT]
  | cons y r ih =>
    simp only [List.cons_append, entsT, ih, List.length_cons]
    rw [show i + 1 + r.length = i + (r.length + 1) by omega]
theorem entsT_empty (M : List (List UInt8)) (i : Nat) : (entsT M i).length = M.length := by
  induction M generalizing i with
  | nil => rfl
  | cons x r ih => simp [entsT, ih]
theorem findNowT (b : List UInt8) (M : List (List UInt8)) (i j : Nat) : ∃ r, Instr.findNow .string (.string (bstr b)) (entsT M i) j = some r ∧
    ((∃ d q, look b M i = some d ∧ r = some (q, .int .i64 ((d : Nat) : Int))) ∨ (look b M i = none ∧ r = none)) := by
  induction M generalizing i j with
  | nil => exact ⟨none, rfl, .inr ⟨rfl, rfl⟩⟩
  | cons x M ih =>
    by_cases h : x = b
    · subst h
      refine ⟨some (j, .int .i64 ((i + 1 : Nat) : Int)), ?_, .inl ⟨i + 1, j, by simp [look], rfl⟩⟩
      simp [Instr.findNow, entsT, Instr.sameNow, bstr_beq]
    · obtain ⟨r, h1, h2⟩ := ih (i + 1) (j + 1)
      refine ⟨r, ?_, by rw [look, if_neg h]; exact h2⟩
      have hne : (bstr b == bstr x) = false := by
        rw [bstr_beq, beq_eq_false_iff_ne]; exact fun e => h e.symm
      simp only [Instr.findNow, entsT, Instr.sameNow, hne]
      exact h1
theorem checkKey9 (b : Bool) (s : ByteArray) (w : World) : (Instr.checkKey b 10000 9 (.string s)).run Try.prog w = .ok () w := by kernel_rfl
theorem run_findKey9 (b : List UInt8) (M : List (List UInt8)) (w : World) :
    ∃ r, (Instr.findKey 9 (.string (bstr b)) (entsT M 0)).run Try.prog w = .ok r w ∧ ((∃ d q, look b M 0 = some d ∧ r = some (q, .int .i64 ((d : Nat) : Int))) ∨ (look b M 0 = none ∧ r = none)) := by
  obtain ⟨r, h1, h2⟩ := findNowT b M 0 0
  refine ⟨r, ?_, h2⟩
  simp [Instr.findKey, run_underlying Try.underlying9, h1]
/-- what a look-up tells: the number, and whether there is one -/
def lkN (M : List (List UInt8)) (b : List UInt8) : Int := (((look b M 0).getD 0 : Nat) : Int)
def lkB (M : List (List UInt8)) (b : List UInt8) : Bool := (look b M 0).isSome
theorem run_lookup103 {w : World} {m c : Nat} {M : List (List UInt8)} (h : Mp w m (entsT M 0).toArray c) (b : List UInt8) :
    (Instr.lookup 103 (.map (some m)) (.string (bstr b)) true).run Try.prog w = .ok (.tuple #[.int .i64 (lkN M b), .bool (lkB M b)]) w := by
  obtain ⟨r, hr, hc⟩ := run_findKey9 b M w
  have hz : (zeroValue 23).run Try.prog w = .ok (.int .i64 0) w := by kernel_rfl
  unfold Mp at h
  simp only [Instr.lookup, Sem.run_bind, run_underlying Try.underlying103, Result.andThen_ok, run_getObj_map _ _ _ _ h, Sem.run_pure, checkKey9, hr]
  rcases hc with ⟨d, q, hd, rfl⟩ | ⟨hd, rfl⟩
  · simp [lkN, lkB, hd]
  · simp [lkN, lkB, hd, hz]
theorem update103 {w : World} {m : Nat} {M : List (List UInt8)} (h : Mp w m (entsT M 0).toArray M.length) (b : List UInt8) (hb : b ∉ M) :
    ∃ wB, (Instr.mapUpdate 103 (.map (some m)) (.string (bstr b)) (.int .i64 ((M.length + 1 : Nat) : Int))).run Try.prog w = .ok () wB ∧ Mp wB m (entsT (M ++ [b]) 0).toArray (M ++ [b]).length ∧ Ext (fun b => b = m) w wB := by
  refine ⟨_, ?_, Mp.set w m (entsT (M ++ [b]) 0).toArray (M ++ [b]).length h.lt, (Ext.refl (fun b => b = m) w).setMap (m := m) (fun _ => rfl) _⟩
  obtain ⟨r, hr, hc⟩ := run_findKey9 b M w
  unfold Mp at h
  simp only [Instr.mapUpdate, Sem.run_bind, run_underlying Try.underlying103, Result.andThen_ok, run_getObj_map _ _ _ _ h, checkKey9, hr]
  rcases hc with ⟨d, q, hd, rfl⟩ | ⟨hd, rfl⟩
  · rw [look_none.2 hb] at hd; cases hd
  · simp [setObj, Sem.run, h, entsT_snoc]

/-- a list of byte strings in rows of the table's own -/
def Els (own : Nat → Prop) (w : World) (vs : List Value) (M : List (List UInt8)) : Prop :=
  vs.length = M.length ∧ ∀ (i : Nat) (v : Value) (b : List UInt8), vs[i]? = some v → M[i]? = some b → w.ownsRow 0 5 1 v b.length (cellsB b) ∧ b.length ≤ big ∧ ∀ g, v.ownBlock = some g → own g
theorem Els.nil (own : Nat → Prop) (w : World) : Els own w [] [] := ⟨rfl, fun i v b h => by simp at h⟩
/-- only blocks that hold no bytes may have turned -/
theorem Els.ext {own own' : Nat → Prop} {w w' : World} {vs : List Value} {M : List (List UInt8)} (h : Els own w vs M) (hb : Ext own' w w') (hd : ∀ g cs, own g → Blk w g 5 cs → ¬ own' g) : Els own w' vs M := by
  refine ⟨h.1, fun i v b hv hm => ?_⟩
  obtain ⟨h1, h2, h3⟩ := h.2 i v b hv hm
  refine ⟨row_ext h1 hb (fun g hg => ?_), h2, h3⟩
  rcases h1.2 with ⟨rfl, _⟩ | ⟨g', cap, cur, rfl, _, hh, _⟩
  · simp [Value.ownBlock] at hg
  · have : g' = g := by simpa [Value.ownBlock] using hg
    subst this
    exact hd _ _ (h3 _ hg) hh
theorem Els.later {own : Nat → Prop} {w w' : World} {vs : List Value} {M : List (List UInt8)} (h : Els own w vs M) (hb : B w w') : Els own w' vs M := h.ext (Ext.of_B (own := fun _ => False) hb) (fun _ _ _ _ => id)
theorem Els.mono {own own' : Nat → Prop} {w : World} {vs : List Value} {M : List (List UInt8)} (h : Els own w vs M) (hs : ∀ b, own b → own' b) : Els own' w vs M :=
  ⟨h.1, fun i v b hv hm => let ⟨h1, h2, h3⟩ := h.2 i v b hv hm; ⟨h1, h2, fun g hg => hs _ (h3 g hg)⟩⟩
theorem Els.snoc {own : Nat → Prop} {w : World} {vs : List Value} {M : List (List UInt8)} (h : Els own w vs M) {v : Value} {b : List UInt8} (h1 : w.ownsRow 0 5 1 v b.length (cellsB b)) (h2 : b.length ≤ big) (h3 : ∀ g, v.ownBlock = some g → own g) : Els own w (vs ++ [v]) (M ++ [b]) := by
  refine ⟨by simp [h.1], fun i u c hu hc => ?_⟩
  by_cases hi : i < vs.length
  · rw [List.getElem?_append_left hi] at hu
    rw [List.getElem?_append_left (by rw [← h.1]; exact hi)] at hc
    exact h.2 i u c hu hc
  · rw [List.getElem?_append_right (by omega)] at hu
    rw [List.getElem?_append_right (by rw [← h.1]; omega)] at hc
    have : i - vs.length = 0 := by
      rcases Nat.eq_zero_or_pos (i - vs.length) with e | e
      · exact e
      · rw [List.getElem?_eq_none (by simp; omega)] at hu; cases hu
    rw [this] at hu
    rw [← h.1, this] at hc
    simp at hu hc
    subst hu hc
    exact ⟨h1, h2, h3⟩
theorem Els.bs {own : Nat → Prop} {w : World} {vs : List Value} {M : List (List UInt8)} (h : Els own w vs M) {i : Nat} {v : Value} {b : List UInt8} (hv : vs[i]? = some v) (hm : M[i]? = some b) : Bs w v b :=
  let ⟨h1, h2, _⟩ := h.2 i v b hv hm
  Bs.of_own h1 h2

theorem Els.one {own : Nat → Prop} {w : World} {vs : List Value} {M : List (List UInt8)} (h : Els own w vs M) : ∀ x ∈ vs, x.oneCell' = true := by
  intro x hx
  obtain ⟨i, hi, rfl⟩ := List.mem_iff_getElem.1 hx
  obtain ⟨r1, _⟩ := h.2 i _ _ (List.getElem?_eq_getElem hi) (List.getElem?_eq_getElem (by rw [← h.1]; exact hi))
  obtain ⟨A, c, e⟩ := own_slice r1
  rw [e]; rfl
/-- a table at block p, all of whose blocks lie in 'own': the byte strings M in the order in which they came -/
def TableAt (own : Nat → Prop) (w : World) (p : Nat) (M : List (List UInt8)) : Prop :=
  ∃ (m : Nat) (v : Value) (vs : List Value), own p ∧ own m ∧ (∀ g, v.ownBlock = some g → own g) ∧ Blk w p 105 #[v, .map (some m)] ∧ Mp w m (entsT M 0).toArray M.length ∧ w.ownsRow 0 47 1 v M.length vs ∧ Els own w vs M
theorem TableAt.ext {own own' : Nat → Prop} {w w' : World} {p : Nat} {M : List (List UInt8)} (h : TableAt own w p M) (hb : Ext own' w w') (hd : ∀ b, own b → ¬ own' b) : TableAt own w' p M := by
  obtain ⟨m, v, vs, h1, h2, h3, h4, h5, h6, h7⟩ := h
  exact ⟨m, v, vs, h1, h2, h3, h4.ext hb (hd _ h1), h5.ext hb (hd _ h2), row_ext h6 hb (fun g hg => hd _ (h3 g hg)), h7.ext hb (fun g _ hg _ => hd g hg)⟩
theorem TableAt.later {own : Nat → Prop} {w w' : World} {p : Nat} {M : List (List UInt8)} (h : TableAt own w p M) (hb : B w w') : TableAt own w' p M := h.ext (Ext.of_B (own := fun _ => False) hb) (fun _ _ => id)
theorem TableAt.mono {own own' : Nat → Prop} {w : World} {p : Nat} {M : List (List UInt8)} (h : TableAt own w p M) (hs : ∀ b, own b → own' b) : TableAt own' w p M := by
  obtain ⟨m, v, vs, h1, h2, h3, h4, h5, h6, h7⟩ := h
  exact ⟨m, v, vs, hs _ h1, hs _ h2, fun g hg => hs _ (h3 g hg), h4, h5, h6, h7.mono hs⟩
end Go.Proofs.Ythgpkbhilkdckaa

/- Slices of byte slices, read: 'Lss inn w v L'. No program here. -/
namespace Go.Proofs.Ythgpkbhilkdckaa
open Go.ChangeShapes Go.WideShapes Go.ChangeAt Go.RowKit Go.Deep
set_option linter.unusedVariables false

/-- the slice value v reads as the byte strings L; all that is read lies in blocks of 'inn' -/
def Lss (inn : Nat → Prop) (w : World) (v : Value) (L : List (List UInt8)) : Prop :=
  ∃ (A : Option Addr) (cap : Nat), v = .slice A L.length cap ∧ (A = none → L.length = 0 ∧ cap = 0) ∧ L.length ≤ cap ∧ cap ≤ maxLen ∧ (0 < L.length → ∃ b off, A = some ⟨b, off, none⟩ ∧ b < w.heap.size ∧ inn b ∧
    ∀ i x, L[i]? = some x → ∃ u, w.cell? ⟨b, off + i, none⟩ = some u ∧ Bs w u x ∧ ∀ g, u.ownBlock = some g → x ≠ [] → inn g)
theorem Lss.ext {inn own : Nat → Prop} {w w' : World} {v : Value} {L : List (List UInt8)} (h : Lss inn w v L) (hb : Ext own w w') (hd : ∀ g, inn g → ¬ own g) : Lss inn w' v L := by
  obtain ⟨A, cap, rfl, hn, hc, hm, hr⟩ := h
  refine ⟨A, cap, rfl, hn, hc, hm, fun h0 => ?_⟩
  obtain ⟨b, off, rfl, hb1, hi, hx⟩ := hr h0
  refine ⟨b, off, rfl, Nat.lt_of_lt_of_le hb1 hb.size, hi, fun i x hix => ?_⟩
  obtain ⟨u, h1, h2, h3⟩ := hx i x hix
  exact ⟨u, hb.cell (hd b hi) h1, h2.ext hb (fun g hg hne => hd g (h3 g hg hne)), h3⟩
theorem Lss.later {inn : Nat → Prop} {w w' : World} {v : Value} {L : List (List UInt8)} (h : Lss inn w v L) (hb : B w w') : Lss inn w' v L := h.ext (Ext.of_B (own := fun _ => False) hb) (fun _ _ => id)
theorem Lss.mono {inn inn' : Nat → Prop} {w : World} {v : Value} {L : List (List UInt8)} (h : Lss inn w v L) (hs : ∀ g, inn g → inn' g) : Lss inn' w v L := by
  obtain ⟨A, cap, rfl, hn, hc, hm, hr⟩ := h
  refine ⟨A, cap, rfl, hn, hc, hm, fun h0 => ?_⟩
  obtain ⟨b, off, rfl, hb1, hi, hx⟩ := hr h0
  refine ⟨b, off, rfl, hb1, hs _ hi, fun i x hix => ?_⟩
  obtain ⟨u, h1, h2, h3⟩ := hx i x hix
  exact ⟨u, h1, h2, fun g hg hne => hs _ (h3 g hg hne)⟩
/-- a row of byte strings of an object's own -/
theorem Lss.of_own {own : Nat → Prop} {w : World} {base : Nat} {e : TypeId} {v : Value} {vs : List Value} {M : List (List UInt8)} (h : w.ownsRow base e 1 v M.length vs) (he : Els own w vs M) (ho : ∀ g, v.ownBlock = some g → own g) : Lss own w v M := by
  rcases h.2 with ⟨rfl, h0⟩ | ⟨g, cap, cur, rfl, hg, hh, hc, hm, hs, ht⟩
  · exact ⟨none, 0, by rw [h0], fun _ => ⟨h0, rfl⟩, by omega, by unfold maxLen; omega, fun h => by omega⟩
  · refine ⟨_, cap, rfl, fun e => (by cases e), hc, hm, fun h0 => ⟨g, 0, rfl, Blk.lt (t := e) hh, ho g rfl, fun i x hx => ?_⟩⟩
    have hi : i < M.length := by
      rcases Nat.lt_or_ge i M.length with h | h
      · exact h
      · rw [List.getElem?_eq_none h] at hx; cases hx
    have hvl : i < vs.length := by rw [he.1]; exact hi
    have hv : vs[i]? = some vs[i] := List.getElem?_eq_getElem hvl
    obtain ⟨r1, r2, r3⟩ := he.2 i _ x hv hx
    refine ⟨vs[i], ?_, Bs.of_own r1 r2, fun g hg _ => r3 g hg⟩
    rw [Nat.zero_add, Blk.cell (t := e) hh, ← hv, ← ht]
    rw [List.getElem?_take, if_pos (by omega)]
    simp

section
variable {H : Type} {enc : TypeId × Value → H} {P : Program} {w : World} {base : Nat} {held : Bool} {spare : Nat → Bool}
/-- one byte slice out of a reading -/
theorem bs_of_trod {fuel : Nat} {t e : TypeId} {c : Value} {x : DataW H × List MemPlace} (ht : P.underlying t = some (.slice e)) (he : P.underlying e = some (.int .u8)) (hC : P.cellsOf e = 1)
    (h : DataW.trod enc P w base spare held fuel t [c] = some x) (hbig : ∀ len cap a, c = .slice a len cap → len ≤ big) : ∃ bs, Bs w c bs := by
  rcases open_slice ht h with ⟨h2, h3⟩ | ⟨a, len, cap, m, n, D, Pl, hcs, hb, hl, hm, hmm, hx, hi⟩
  · simp at h2
    subst h2
    exact ⟨[], Bs.nil w⟩
  · simp at hcs
    subst hcs
    have hlm : len ≤ m := by rw [hmm]; split <;> omega
    obtain ⟨bs, hbl, hbs⟩ := list_choose (P := fun i (b : UInt8) => w.cell? (a.add i) = some (.int .u8 (b.toNat : Int))) len (fun i hil => by
      obtain ⟨cs', hc, htr⟩ := hi i (by omega)
      rw [hC] at hc
      obtain ⟨_, hcl, hcat⟩ := World.cells?_some hc
      obtain ⟨k, rfl, _, hw⟩ := DataW.trod_int he htr
      have hk : 0 ≤ k ∧ k ≤ 255 := by simpa [Lit.wf, IntKind.min, IntKind.max, IntKind.signed, IntKind.bits] using hw
      refine ⟨UInt8.ofNat k.toNat, ?_⟩
      have := hcat 0 (by omega)
      have e1 : ((UInt8.ofNat k.toNat).toNat : Int) = k := by
        rw [UInt8.toNat_ofNat']; omega
      rw [e1]
      simpa [Addr.add] using this)
    refine ⟨bs, ⟨⟨some a, cap, by rw [hbl], fun e => (by cases e), by omega, hm, fun ad had => ?_⟩, by rw [hbl]; exact hbig len cap (some a) rfl⟩⟩
    cases had
    have hget : ∀ j u, (cellsB bs)[j]? = some u → w.cell? (a.add j) = some u := fun j u hu => by
      have hj : j < bs.length := by
        rcases Nat.lt_or_ge j bs.length with h | h
        · exact h
        · rw [List.getElem?_eq_none (by rw [cellsB_len]; exact h)] at hu; cases hu
      rw [cellsB_get bs j hj] at hu
      rw [← hu]
      exact hbs j _ (List.getElem?_eq_getElem hj)
    refine ⟨fun hne => ?_, hget⟩
    have h0 : 0 < bs.length := List.length_pos_iff.2 hne
    have := World.block_lt_of_cell? w _ (hget 0 _ (cellsB_get bs 0 h0))
    rwa [block_of_add] at this
end
end Go.Proofs.Ythgpkbhilkdckaa

/- Contracts of the table's methods: New, none, Look, Len, Sum. -/
namespace Go.Proofs.Ythgpkbhilkdckaa
open Go.RowKit
set_option linter.unusedVariables false

set_option maxHeartbeats 400000 in
theorem newTable61 (w : World) : Calls Try.prog 61 #[] w fun e w' => e = .returned (.pointer (some ⟨w.heap.size + 1, 0, none⟩)) ∧ w' = (w.alloc (.map #[] 0)).alloc (.cells #[.slice none 0 0, .map (some w.heap.size)] 105) := by
  have hmm := @run_makeMap Try.prog
  go_enter Try.func61, Try.ntmps61
  go_wp2
  go_ret
  exact ⟨rfl, rfl⟩
theorem TableAt.new (w : World) : TableAt (fun b => b = w.heap.size ∨ b = w.heap.size + 1) ((w.alloc (.map #[] 0)).alloc (.cells #[.slice none 0 0, .map (some w.heap.size)] 105)) (w.heap.size + 1) [] := by
  refine ⟨w.heap.size, .slice none 0 0, [], .inr rfl, .inl rfl, fun g hg => by simp [Value.ownBlock] at hg, ?_, ?_, ⟨rfl, .inl ⟨rfl, rfl⟩⟩, Els.nil _ _⟩
  · have := Blk.new (w.alloc (.map #[] 0)) 105 #[.slice none 0 0, .map (some w.heap.size)]
    simpa using this
  · exact (Mp.new w _ _).later (B.alloc' _ _)

set_option maxHeartbeats 400000 in
theorem tnone113 {own : Nat → Prop} {w : World} {p : Nat} {M : List (List UInt8)} (h : TableAt own w p M) : Calls Try.prog 113 #[.pointer (some ⟨p, 0, none⟩)] w fun e w' => e = .returned (.bool false) ∧ w = w' := by
  obtain ⟨m, v, vs, h1, h2, h3, h4, h5, h6, h7⟩ := h
  have c1 := h4.cell 1
  simp at c1
  have q1 : ∀ w, (binOp .eql 103 (.map (some m)) (.map none)).run Try.prog w = .ok (.bool false) w := fun w => by kernel_rfl
  clear h4 h5 h6 h7
  go_enter Try.func113, Try.ntmps113
  go_wp2
  go_ret
  exact ⟨rfl, rfl⟩

/-- facts of a table that hold in all later worlds -/
theorem Table.facts {own : Nat → Prop} {w : World} {p : Nat} {M : List (List UInt8)} (h : TableAt own w p M) : ∃ (m : Nat) (A : Option Addr) (cap : Nat), ∀ w', B w w' →
    TableAt own w' p M ∧ w'.cell? ⟨p, 0, none⟩ = some (.slice A M.length cap) ∧ w'.cell? ⟨p, 1, none⟩ = some (.map (some m)) ∧ ∀ b, (Instr.lookup 103 (.map (some m)) (.string (bstr b)) true).run Try.prog w' = .ok (.tuple #[.int .i64 (lkN M b), .bool (lkB M b)]) w' := by
  obtain ⟨m, v, vs, h1, h2, h3, h4, h5, h6, h7⟩ := id h
  obtain ⟨A, cap, hv⟩ : ∃ A cap, v = .slice A M.length cap := by
    rcases h6.2 with ⟨rfl, h0⟩ | ⟨g, cap, cur, rfl, _⟩
    · exact ⟨none, 0, by rw [h0]⟩
    · exact ⟨_, cap, rfl⟩
  refine ⟨m, A, cap, fun w' hb => ⟨h.later hb, by rw [(h4.later hb).cell 0, ← hv]; rfl, by rw [(h4.later hb).cell 1]; rfl, fun b => run_lookup103 (h5.later hb) b⟩⟩

set_option maxHeartbeats 400000 in
theorem look66 {own : Nat → Prop} {w : World} {p : Nat} {M : List (List UInt8)} (h : TableAt own w p M) {v : Value} {b : List UInt8} (hb : Bs w v b) :
    Calls Try.prog 66 #[.pointer (some ⟨p, 0, none⟩), v] w fun e w' => e = .returned (.tuple #[.int .i64 (lkN M b), .bool (lkB M b)]) ∧ B w w' := by
  obtain ⟨m, A, cap, hf⟩ := Table.facts h
  have l1 : ∀ w', B w w' → w'.cell? ⟨p, 1, none⟩ = some (.map (some m)) := fun w' hb => (hf w' hb).2.2.1
  have l2 : ∀ w', B w w' → (Instr.lookup 103 (.map (some m)) (.string (bstr b)) true).run Try.prog w' = .ok (.tuple #[.int .i64 (lkN M b), .bool (lkB M b)]) w' := fun w' hb => (hf w' hb).2.2.2 b
  have l3 : ∀ w', B w w' → (convert 47 9 v).run Try.prog w' = .ok (.string (bstr b)) w' := fun w' h => (hb.later h).conv Try.underlying47 Try.underlying5 Try.underlying9
  clear hf hb
  go_enter Try.func66, Try.ntmps66
  go_wp2_with (first | (go_at_call 113; refine (tnone113 h).mono ?_; rintro e wn ⟨rfl, rfl⟩))
  go_region_held3 (fun w' => B w w') (first | assumption | exact (Below.refl _ _).drew) (fail)
  go_wp2
  go_ret2
  exact ⟨rfl, ‹B w _›⟩

set_option maxHeartbeats 400000 in
theorem len54 {own : Nat → Prop} {w : World} {p : Nat} {M : List (List UInt8)} (h : TableAt own w p M) : Calls Try.prog 54 #[.pointer (some ⟨p, 0, none⟩)] w fun e w' => e = .returned (.int .i64 (M.length : Int)) ∧ w = w' := by
  obtain ⟨m, A, cap, hf⟩ := Table.facts h
  have l1 := (hf w (Below.refl _ _)).2.1
  clear hf
  go_enter Try.func54, Try.ntmps54
  go_wp2_with (first | (go_at_call 113; refine (tnone113 h).mono ?_; rintro e wn ⟨rfl, rfl⟩))
  go_ret
  exact ⟨rfl, rfl⟩

/-- what Sum answers, and what the table holds behind it -/
def sumN (M : List (List UInt8)) (b : List UInt8) : Int := if b ∈ M then lkN M b else if 1048576 ≤ M.length then 0 else ((M.length + 1 : Nat) : Int)
def sumM (M : List (List UInt8)) (b : List UInt8) : List (List UInt8) := if b ∈ M then M else if 1048576 ≤ M.length then M else M ++ [b]
def SumPost (own : Nat → Prop) (w : World) (p : Nat) (M : List (List UInt8)) (b : List UInt8) (e : Ending) (w' : World) : Prop :=
  e = .returned (.int .i64 (sumN M b)) ∧ TableAt (fun x => own x ∨ w.heap.size ≤ x) w' p (sumM M b) ∧ Ext own w w'
theorem SumPost.same {own : Nat → Prop} {w w' : World} {p : Nat} {M : List (List UInt8)} {b : List UInt8} {n : Int} (h : TableAt own w p M) (hb : B w w') (h1 : n = sumN M b) (h2 : sumM M b = M) :
    SumPost own w p M b (.returned (.int .i64 n)) w' := ⟨by rw [h1], by rw [h2]; exact (h.later hb).mono (fun _ => .inl), Ext.of_B hb⟩

set_option maxHeartbeats 400000 in
theorem sum52_had {own : Nat → Prop} {w : World} {p : Nat} {M : List (List UInt8)} (h : TableAt own w p M) {v : Value} {b : List UInt8} (hb : Bs w v b) (hm : b ∈ M) :
    Calls Try.prog 52 #[.pointer (some ⟨p, 0, none⟩), v] w (SumPost own w p M b) := by
  obtain ⟨m, A, cap, hf⟩ := Table.facts h
  have hB : lkB M b = true := by
    unfold lkB
    cases e : look b M 0 with
    | none => exact absurd hm (look_none.1 e)
    | some d => rfl
  have E := Lib.hid (fun (w' : World) (hb : B w w') => SumPost.same (b := b) (n := lkN M b) h hb (by simp [sumN, hm]) (by simp [sumM, hm]))
  have l1 : ∀ w', B w w' → w'.cell? ⟨p, 1, none⟩ = some (.map (some m)) := fun w' hb => (hf w' hb).2.2.1
  have l2 : ∀ w', B w w' → (Instr.lookup 103 (.map (some m)) (.string (bstr b)) true).run Try.prog w' = .ok (.tuple #[.int .i64 (lkN M b), .bool true]) w' := fun w' hb => by rw [(hf w' hb).2.2.2 b, hB]
  have l3 : ∀ w', B w w' → (convert 47 9 v).run Try.prog w' = .ok (.string (bstr b)) w' := fun w' h => (hb.later h).conv Try.underlying47 Try.underlying5 Try.underlying9
  clear hf hb hB hm
  go_enter Try.func52, Try.ntmps52
  go_wp2_with (first | (go_at_call 113; refine (tnone113 h).mono ?_; rintro e wn ⟨rfl, rfl⟩))
  go_region_held3 (fun w' => B w w') (first | assumption | exact (Below.refl _ _).drew) (fail)
  go_wp2
  go_ret
  exact E.out _ ‹B w _›
set_option maxHeartbeats 400000 in
theorem sum52_full {own : Nat → Prop} {w : World} {p : Nat} {M : List (List UInt8)} (h : TableAt own w p M) {v : Value} {b : List UInt8} (hb : Bs w v b) (hm : b ∉ M) (hn : 1048576 ≤ M.length) :
    Calls Try.prog 52 #[.pointer (some ⟨p, 0, none⟩), v] w (SumPost own w p M b) := by
  obtain ⟨m, A, cap, hf⟩ := Table.facts h
  have hB : lkB M b = false := by unfold lkB; rw [look_none.2 hm]; rfl
  have E := Lib.hid (fun (w' : World) (hb : B w w') => SumPost.same (b := b) (n := 0) h hb (by simp [sumN, hm, hn]) (by simp [sumM, hm, hn]))
  have l0 : ∀ w', B w w' → w'.cell? ⟨p, 0, none⟩ = some (.slice A M.length cap) := fun w' hb => (hf w' hb).2.1
  have l1 : ∀ w', B w w' → w'.cell? ⟨p, 1, none⟩ = some (.map (some m)) := fun w' hb => (hf w' hb).2.2.1
  have l2 : ∀ w', B w w' → (Instr.lookup 103 (.map (some m)) (.string (bstr b)) true).run Try.prog w' = .ok (.tuple #[.int .i64 (lkN M b), .bool false]) w' := fun w' hb => by rw [(hf w' hb).2.2.2 b, hB]
  have l3 : ∀ w', B w w' → (convert 47 9 v).run Try.prog w' = .ok (.string (bstr b)) w' := fun w' h => (hb.later h).conv Try.underlying47 Try.underlying5 Try.underlying9
  have hd : decide ((1048576 : Int) ≤ (M.length : Int)) = true := decide_eq_true (by omega)
  clear hf hb hB hm hn
  go_enter Try.func52, Try.ntmps52
  go_wp2_with (first | (go_at_call 113; refine (tnone113 h).mono ?_; rintro e wn ⟨rfl, rfl⟩))
  go_region_held3 (fun w' => B w w') (first | assumption | exact (Below.refl _ _).drew) (fail)
  go_wp2
  go_ret
  exact E.out _ ‹B w _›

theorem info47 : (Try.prog.info? 47).map (fun i => (i.zero, i.size, i.bytes)) = some (some (.slice none 0 0), 1, 24) := by kernel_rfl
set_option maxRecDepth 20000 in
set_option maxHeartbeats 1000000 in
theorem sum52_new {own : Nat → Prop} {w : World} {p : Nat} {M : List (List UInt8)} (h : TableAt own w p M) {v : Value} {b : List UInt8} (hb : Bs w v b) (hvo : ∀ g, v.ownBlock = some g → b ≠ [] → ¬ own g) (hm : b ∉ M) (hn : M.length < 1048576) :
    Calls Try.prog 52 #[.pointer (some ⟨p, 0, none⟩), v] w (SumPost own w p M b) := by
  obtain ⟨m, A, cap, hf⟩ := Table.facts h
  have hB : lkB M b = false := by unfold lkB; rw [look_none.2 hm]; rfl
  have E1 := Lib.hid (show ((M.length + 1 : Nat) : Int) = sumN M b by unfold sumN; rw [if_neg hm, if_neg (by omega)])
  have E2 := Lib.hid (show M ++ [b] = sumM M b by unfold sumM; rw [if_neg hm, if_neg (by omega)])
  have l0 : ∀ w', B w w' → w'.cell? ⟨p, 0, none⟩ = some (.slice A M.length cap) := fun w' hb => (hf w' hb).2.1
  have l1 : ∀ w', B w w' → w'.cell? ⟨p, 1, none⟩ = some (.map (some m)) := fun w' hb => (hf w' hb).2.2.1
  have l2 : ∀ w', B w w' → (Instr.lookup 103 (.map (some m)) (.string (bstr b)) true).run Try.prog w' = .ok (.tuple #[.int .i64 (lkN M b), .bool false]) w' := fun w' hb => by rw [(hf w' hb).2.2.2 b, hB]
  have l3 : ∀ w', B w w' → (convert 47 9 v).run Try.prog w' = .ok (.string (bstr b)) w' := fun w' h => (hb.later h).conv Try.underlying47 Try.underlying5 Try.underlying9
  have hd : decide ((1048576 : Int) ≤ (M.length : Int)) = false := decide_eq_false (by omega)
  have hn' := Lib.hid hn
  have hm' := Lib.hid hm
  clear hB hm hn hf
  go_enter Try.func52, Try.ntmps52
  go_wp2_with (first | (go_at_call 113; refine (tnone113 h).mono ?_; rintro e wn ⟨rfl, rfl⟩))
  go_region_held3 (fun w' => B w w') (first | assumption | exact (Below.refl _ _).drew) (fail)
  go_wp2
  -- the append
  obtain ⟨m', v0, vs, k1, k2, k3, k4, k5, k6, k7⟩ := id h
  have hB2 : B w w.drew.drew := (Below.refl _ _).drew.drew
  obtain ⟨i0, hi, hz0, hz1, hz2⟩ := info_parts info47
  have hv0 : v0 = .slice A M.length cap := by
    have e1 := k4.cell 0
    rw [l0 w (Below.refl _ _)] at e1
    simpa using e1.symm
  subst hv0
  have mlt := k5.lt
  have plt := k4.lt
  have glt := fun g => row_lt k6 (g := g)
  clear l1 l2 l3
  go_region_law (first
    | (refine step_call rfl 89 #[.tmp 33] #[47] rfl Try.call89 (clone89 (hb.later hB2)) rfl ?_; rintro e wn ⟨v1, rfl, ho, hbn⟩; obtain ⟨A1, c1, rfl⟩ := own_slice ho; refine ⟨_, rfl, ?_⟩; have hBn : B w wn := hB2.trans hbn; have pa := l0 _ hBn; have pb := l0 _ (hBn.trans (B.alloc' _ (.cells #[.slice A1 b.length c1] 47))); obtain ⟨v2, w2, hrun, r1, r2, _, r3⟩ := run_append_own_at (P := Try.prog) (wn.alloc (.cells #[.slice A1 b.length c1] 47)) 0 46 46 47 i0 (.slice none 0 0) 1 24 Try.underlying46 hi hz0 hz1 hz2 rfl (by omega) (.slice A M.length cap) M.length vs (row_later k6 (hBn.trans (B.alloc' _ _))) ⟨wn.heap.size, 0, none⟩ 1 1 [.slice A1 b.length c1] rfl (cell_one_new _ _ _) (by simp [Value.oneCell']) (by have := hn'.out; unfold maxLen; omega) (by have := hn'.out; omega) (by omega); obtain ⟨gn, cap', rfl, _, hgl⟩ := r1.form (by omega); have q4 := ((k4.later hBn).alloc (.cells #[.slice A1 b.length c1] 47)).grown r2 (fun e => row_ne k6 k4 (by decide) e.symm); have p0 := q4.cell 0; have pf := q4.frozen 0; simp at p0)
    | (refine step_append_run rfl (.tmp 32) (.tmp 35) 46 rfl rfl rfl hrun ?_))
  all_goals
    go_wp2
    have hBa := hBn.trans (B.alloc' wn (.cells #[.slice A1 b.length c1] 47))
    have hgx : Ext (fun g => some g = (Value.slice A M.length cap).ownBlock) (wn.alloc (.cells #[.slice A1 b.length c1] 47)) w2 := (Ext.refl _ _).grown r2 (fun g e _ => e.symm)
    have hsx : ∀ u, Ext (fun g => g = p) w2 (w2.setCell ⟨p, 0, none⟩ u) := fun u => (Ext.refl (fun g => g = p) w2).set (p := ⟨p, 0, none⟩) (fun _ => rfl) u
    have mP : ¬ p = m' := fun e => k5.ne k4 e.symm
    have hx0 := ((Ext.of_B (own := own) hBa).grown r2 (fun g e _ => k3 g e)).set (p := ⟨p, 0, none⟩) (fun _ => k1) (.slice (some ⟨gn, 0, none⟩) (M.length + 1) cap')
    have hgo : own gn ∨ w.heap.size ≤ gn := by
      rcases r3 with e | e
      · exact .inl (k3 gn (by rw [← e]; rfl))
      · have : gn = (wn.alloc (.cells #[.slice A1 b.length c1] 47)).heap.size := by simpa [Value.ownBlock] using e
        have := hBa.size
        right; omega
    have f4 := q4.set_ 0 (.slice (some ⟨gn, 0, none⟩) (M.length + 1) cap')
    have f5 := ((k5.later hBa).ext hgx (fun e => row_no (row_later k6 hBa) (k5.later hBa) e.symm rfl)).ext (hsx (.slice (some ⟨gn, 0, none⟩) (M.length + 1) cap')) (fun e => mP e.symm)
    have f6 := row_ext r1 (hsx (.slice (some ⟨gn, 0, none⟩) (M.length + 1) cap')) (fun g hg e => row_ne r1 q4 (by decide) (by rw [hg, e]))
    have f7 := ((k7.later hBa).ext hgx (fun g cs _ hB' e => row_ne (row_later k6 hBa) hB' (by decide) e.symm)).ext (hsx (.slice (some ⟨gn, 0, none⟩) (M.length + 1) cap')) (fun g cs _ hB' e => by subst e; exact Blk.ne hB' q4 (by decide) rfl)
    have f8 := row_ext (row_ext (row_later ho (B.alloc' _ (.cells #[.slice A1 b.length c1] 47))) hgx (fun g hg e => row_row (row_later k6 hBa) (row_later ho (B.alloc' _ (.cells #[.slice A1 b.length c1] 47))) (by decide) e.symm hg)) (hsx (.slice (some ⟨gn, 0, none⟩) (M.length + 1) cap')) (fun g hg e => row_ne (row_ext (row_later ho (B.alloc' _ (.cells #[.slice A1 b.length c1] 47))) hgx (fun g hg e => row_row (row_later k6 hBa) (row_later ho (B.alloc' _ (.cells #[.slice A1 b.length c1] 47))) (by decide) e.symm hg)) q4 (by decide) (by rw [hg, e]))
    have f9 := hb.ext hx0 hvo
    have c1' := f4.cell 1
    simp at c1'
    generalize w2.setCell ⟨p, 0, none⟩ (.slice (some ⟨gn, 0, none⟩) (M.length + 1) cap') = wF at *
    obtain ⟨wG, hup, g5, hxG⟩ := update103 (w := wF.drew) f5 b hm'.out
    have hup' : (Instr.mapUpdate 103 (.map (some m')) (.string (bstr b)) (.int .i64 ((M.length : Int) + 1))).run Try.prog wF.drew = .ok () wG := hup
    have hcv : (convert 47 9 v).run Try.prog wF.drew = .ok (.string (bstr b)) wF.drew := Bs.conv (w := wF.drew) (f9.later (Below.refl _ _).drew) Try.underlying47 Try.underlying5 Try.underlying9
    clear p0 pf pa pb hrun l0 hup
    go_region
    go_wp2
    go_ret
    have g4 := Blk.ext (w := wF.drew) f4 hxG mP
    have g6 := row_ext (w := wF.drew) f6 hxG (fun g hg => row_no f6 f5 hg)
    have g7 := Els.ext (w := wF.drew) f7 hxG (fun g cs _ hB' e => by subst e; exact f5.ne hB' rfl)
    have g8 := row_ext (w := wF.drew) f8 hxG (fun g hg => row_no f8 f5 hg)
    have hxZ : Ext own w wG := hx0.drew.trans hxG (fun x _ e => by subst e; exact k2)
    refine ⟨retI E1.out, ?_, hxZ⟩
    rw [← E2.out]
    refine ⟨m', .slice (some ⟨gn, 0, none⟩) (M.length + 1) cap', vs ++ [.slice A1 b.length c1], .inl k1, .inl k2, fun g hg => ?_, by simpa using g4, g5, by simpa using g6, (g7.mono (fun _ => .inl)).snoc (row_base g8 (by omega)) hb.len (fun g hg => .inr (row_ge g8 hg))⟩
    have : g = gn := by simpa [Value.ownBlock] using hg.symm
    rw [this]; exact hgo

theorem sum52 {own : Nat → Prop} {w : World} {p : Nat} {M : List (List UInt8)} (h : TableAt own w p M) {v : Value} {b : List UInt8} (hb : Bs w v b) (hvo : ∀ g, v.ownBlock = some g → b ≠ [] → ¬ own g) :
    Calls Try.prog 52 #[.pointer (some ⟨p, 0, none⟩), v] w (SumPost own w p M b) := by
  by_cases hm : b ∈ M
  · exact sum52_had h hb hm
  · by_cases hn : 1048576 ≤ M.length
    · exact sum52_full h hb hm hn
    · exact sum52_new h hb hvo hm (by omega)
end Go.Proofs.Ythgpkbhilkdckaa

/- The ledger: its place in memory, the map's laws at a struct key, contracts of its methods. -/
namespace Go.Proofs.Ythgpkbhilkdckaa
open Go.RowKit
set_option linter.unusedVariables false

/-- a signature as a value -/
abbrev sg (x : Int × Int) : Value := .agg #[.int .i64 x.1, .int .i64 x.2]

@[go_sem] theorem eq25 (a b c d : Int) (w : World) : (Op.equalIn 10000 25 (.agg #[.int .i64 a, .int .i64 b]) (.agg #[.int .i64 c, .int .i64 d])).run Try.prog w = .ok (a == c && b == d) w := by
  have hS : Try.prog.underlying 25 = some (.struct (Try.prog.fieldsOf 25)) := by kernel_rfl
  rw [show (10000 : Nat) = 9999 + 1 from rfl, run_equalIn_agg w 9999 25 _ _ hS (by kernel_rfl)]
  simp only [Program.fieldsOf, Try.underlying25]
  go_simp
  by_cases h1 : a = c <;> by_cases h2 : b = d <;> simp [h1, h2]

@[go_sem] theorem build25 (a b : Int) (w : World) : (Instr.build 25 #[(0, .int .i64 a), (1, .int .i64 b)]).run Try.prog w = .ok (.agg #[.int .i64 a, .int .i64 b]) w := run_build w 25 _ _ (by kernel_rfl)
@[go_sem] theorem build25_0 (w : World) : (Instr.build 25 #[]).run Try.prog w = .ok (.agg #[.int .i64 0, .int .i64 0]) w := run_build w 25 _ _ (by kernel_rfl)

theorem checkKey25 (b : Bool) (k d : Int) (w : World) : (Instr.checkKey b 10000 25 (.agg #[.int .i64 k, .int .i64 d])).run Try.prog w = .ok () w := by kernel_rfl

/-- the map's entries, in the order in which they came -/
def entsF : List (Int × Int) → Nat → List MapEntry
  | [], _ => []
  | x :: r, i => { key := sg x, val := .bool true, born := i } :: entsF r (i + 1)
theorem entsF_len (s : List (Int × Int)) (i : Nat) : (entsF s i).length = s.length := by
  induction s generalizing i with
  | nil => rfl
  | cons x r ih => simp [entsF, ih]
theorem entsF_snoc (s : List (Int × Int)) (x : Int × Int) (i : Nat) : entsF (s ++ [x]) i = entsF s i ++ [{ key := sg x, val := .bool true, born := i + s.length }] := by
  induction s generalizing i with
  | nil => simp [entsF]
  | cons y r ih => simp only [List.cons_append, entsF, ih, List.length_cons]; congr 4; omega
theorem run_find25 (x : Int × Int) (s : List (Int × Int)) (i j : Nat) (w : World) :
    ∃ r, (Instr.findAsking 25 (sg x) (entsF s i) j).run Try.prog w = .ok r w ∧ ((x ∈ s ∧ ∃ q, r = some (q, .bool true)) ∨ (x ∉ s ∧ r = none)) := by
  induction s generalizing i j with
  | nil => exact ⟨none, by simp [Instr.findAsking, entsF], .inr ⟨by simp, rfl⟩⟩
  | cons y r ih =>
    obtain ⟨q, hq, hr⟩ := ih (i + 1) (j + 1)
    have e : (Instr.findAsking 25 (sg x) (entsF (y :: r) i) j).run Try.prog w = if x = y then .ok (some (j, .bool true)) w else (Instr.findAsking 25 (sg x) (entsF r (i + 1)) (j + 1)).run Try.prog w := by
      obtain ⟨x1, x2⟩ := x
      obtain ⟨y1, y2⟩ := y
      simp only [Instr.findAsking, entsF, Op.equal, Op.maxDepth, Sem.run_bind, eq25, Result.andThen_ok, Prod.mk.injEq]
      by_cases h1 : x1 = y1 <;> by_cases h2 : x2 = y2 <;> simp [h1, h2]
    rw [e]
    by_cases hxy : x = y
    · exact ⟨_, if_pos hxy, .inl ⟨by simp [hxy], _, rfl⟩⟩
    · refine ⟨q, by rw [if_neg hxy]; exact hq, ?_⟩
      rcases hr with ⟨h, h'⟩ | ⟨h, h'⟩
      · exact .inl ⟨List.mem_cons_of_mem _ h, h'⟩
      · exact .inr ⟨by simp [hxy, h], h'⟩
theorem run_findKey25 (x : Int × Int) (s : List (Int × Int)) (w : World) :
    ∃ r, (Instr.findKey 25 (sg x) (entsF s 0)).run Try.prog w = .ok r w ∧ ((x ∈ s ∧ ∃ q, r = some (q, .bool true)) ∨ (x ∉ s ∧ r = none)) := by
  cases s with
  | nil => exact ⟨none, by simp [Instr.findKey, entsF, Instr.findNow, run_underlying Try.underlying25], .inr ⟨by simp, rfl⟩⟩
  | cons y r =>
    obtain ⟨q, hq, hr⟩ := run_find25 x (y :: r) 0 0 w
    refine ⟨q, ?_, hr⟩
    rw [← hq]
    simp [Instr.findKey, entsF, Instr.findNow, Instr.sameNow, run_underlying Try.underlying25]

/-- 'm[x]' -/
theorem run_lookup107 {w : World} {m c : Nat} {s : List (Int × Int)} (h : Mp w m (entsF s 0).toArray c) (x : Int × Int) :
    (Instr.lookup 107 (.map (some m)) (sg x) false).run Try.prog w = .ok (.bool (decide (x ∈ s))) w := by
  obtain ⟨r, hr, hc⟩ := run_findKey25 x s w
  have hz : (zeroValue 4).run Try.prog w = .ok (.bool false) w := by kernel_rfl
  unfold Mp at h
  simp only [Instr.lookup, Sem.run_bind, run_underlying Try.underlying107, Result.andThen_ok, run_getObj_map _ _ _ _ h, Sem.run_pure, checkKey25, hr]
  rcases hc with ⟨hm, q, rfl⟩ | ⟨hm, rfl⟩
  · simp [hm]
  · simp [hm, hz]
/-- 'm[x] = true' at a key that is not there -/
theorem run_update107 {w : World} {m : Nat} {s : List (Int × Int)} (h : Mp w m (entsF s 0).toArray s.length) (x : Int × Int) (hx : x ∉ s) :
    (Instr.mapUpdate 107 (.map (some m)) (sg x) (.bool true)).run Try.prog w = .ok () { w with heap := w.heap.setIfInBounds m (.map (entsF (s ++ [x]) 0).toArray (s ++ [x]).length) } := by
  obtain ⟨r, hr, hc⟩ := run_findKey25 x s w
  unfold Mp at h
  simp only [Instr.mapUpdate, Sem.run_bind, run_underlying Try.underlying107, Result.andThen_ok, run_getObj_map _ _ _ _ h, checkKey25, hr]
  rcases hc with ⟨hm, q, rfl⟩ | ⟨hm, rfl⟩
  · exact absurd hm hx
  · simp [setObj, Sem.run, h, entsF_snoc]

theorem update107 {w : World} {m : Nat} {s : List (Int × Int)} (h : Mp w m (entsF s 0).toArray s.length) (x : Int × Int) (hx : x ∉ s) :
    ∃ wB, (Instr.mapUpdate 107 (.map (some m)) (sg x) (.bool true)).run Try.prog w = .ok () wB ∧ Mp wB m (entsF (s ++ [x]) 0).toArray (s ++ [x]).length ∧ Ext (fun b => b = m) w wB :=
  ⟨_, run_update107 h x hx, Mp.set w m _ _ h.lt, (Ext.refl (fun b => b = m) w).setMap (m := m) (fun _ => rfl) _⟩

/-- the row of what was signed -/
def flat : List (Int × Int) → List Value
  | [] => []
  | x :: r => .int .i64 x.1 :: .int .i64 x.2 :: flat r
theorem flat_len (s : List (Int × Int)) : (flat s).length = s.length * 2 := by
  induction s with
  | nil => rfl
  | cons x r ih => simp only [flat, List.length_cons, ih]; omega
theorem flat_snoc (s : List (Int × Int)) (x : Int × Int) : flat (s ++ [x]) = flat s ++ [.int .i64 x.1, .int .i64 x.2] := by
  induction s with
  | nil => rfl
  | cons y r ih => simp [flat, ih]

/-- a ledger at block p, all of whose blocks lie in 'own': the signatures s in the order in which they came -/
def LedgerAt (own : Nat → Prop) (w : World) (p : Nat) (s : List (Int × Int)) : Prop :=
  ∃ (m : Nat) (v : Value), own p ∧ own m ∧ (∀ g, v.ownBlock = some g → own g) ∧ Blk w p 109 #[v, .map (some m)] ∧ Mp w m (entsF s 0).toArray s.length ∧ w.ownsRow 0 25 2 v s.length (flat s)
theorem LedgerAt.ext {own own' : Nat → Prop} {w w' : World} {p : Nat} {s : List (Int × Int)} (h : LedgerAt own w p s) (hb : Ext own' w w') (hd : ∀ b, own b → ¬ own' b) : LedgerAt own w' p s := by
  obtain ⟨m, v, h1, h2, h3, h4, h5, h6⟩ := h
  refine ⟨m, v, h1, h2, h3, h4.ext hb (hd _ h1), h5.ext hb (hd _ h2), h6.1, ?_⟩
  rcases h6.2 with h | ⟨g, cap, cur, hv, hg, hh, r⟩
  · exact .inl h
  · exact .inr ⟨g, cap, cur, hv, hg, Blk.ext (t := 25) hh hb (hd _ (h3 g (by rw [hv]; rfl))), r⟩
theorem LedgerAt.later {own : Nat → Prop} {w w' : World} {p : Nat} {s : List (Int × Int)} (h : LedgerAt own w p s) (hb : B w w') : LedgerAt own w' p s := h.ext (Ext.of_B (own := fun _ => False) hb) (fun _ _ => id)
theorem LedgerAt.mono {own own' : Nat → Prop} {w : World} {p : Nat} {s : List (Int × Int)} (h : LedgerAt own w p s) (hs : ∀ b, own b → own' b) : LedgerAt own' w p s := by
  obtain ⟨m, v, h1, h2, h3, r⟩ := h
  exact ⟨m, v, hs _ h1, hs _ h2, fun g hg => hs _ (h3 g hg), r⟩

set_option maxHeartbeats 400000 in
theorem newLedger23 (w : World) : Calls Try.prog 23 #[] w fun e w' => e = .returned (.pointer (some ⟨w.heap.size + 1, 0, none⟩)) ∧ w' = (w.alloc (.map #[] 0)).alloc (.cells #[.slice none 0 0, .map (some w.heap.size)] 109) := by
  have hmm := @run_makeMap Try.prog
  go_enter Try.func23, Try.ntmps23
  go_wp2
  go_ret
  exact ⟨rfl, rfl⟩
set_option maxHeartbeats 400000 in
theorem none109 {own : Nat → Prop} {w : World} {p : Nat} {s : List (Int × Int)} (h : LedgerAt own w p s) : Calls Try.prog 109 #[.pointer (some ⟨p, 0, none⟩)] w fun e w' => e = .returned (.bool false) ∧ w = w' := by
  obtain ⟨m, v, h1, h2, h3, h4, h5, h6⟩ := h
  have c1 := h4.cell 1
  simp at c1
  have q1 : ∀ w, (binOp .eql 107 (.map (some m)) (.map none)).run Try.prog w = .ok (.bool false) w := fun w => by kernel_rfl
  clear h4 h5 h6
  go_enter Try.func109, Try.ntmps109
  go_wp2
  go_ret
  exact ⟨rfl, rfl⟩

theorem LedgerAt.new (w : World) : LedgerAt (fun b => b = w.heap.size ∨ b = w.heap.size + 1) ((w.alloc (.map #[] 0)).alloc (.cells #[.slice none 0 0, .map (some w.heap.size)] 109)) (w.heap.size + 1) [] := by
  refine ⟨w.heap.size, .slice none 0 0, .inr rfl, .inl rfl, fun g hg => by simp [Value.ownBlock] at hg, ?_, ?_, rfl, .inl ⟨rfl, rfl⟩⟩
  · have := Blk.new (w.alloc (.map #[] 0)) 109 #[.slice none 0 0, .map (some w.heap.size)]
    simpa using this
  · exact (Mp.new w _ _).later (B.alloc' _ _)

/-- a fact of a world and of all later ones -/
theorem Ledger.facts {own : Nat → Prop} {w : World} {p : Nat} {s : List (Int × Int)} (h : LedgerAt own w p s) : ∃ m : Nat, ∀ w', B w w' → LedgerAt own w' p s ∧ w'.cell? ⟨p, 1, none⟩ = some (.map (some m)) ∧ ∀ x, (Instr.lookup 107 (.map (some m)) (sg x) false).run Try.prog w' = .ok (.bool (decide (x ∈ s))) w' := by
  obtain ⟨m, v, h1, h2, h3, h4, h5, h6⟩ := id h
  exact ⟨m, fun w' hb => ⟨h.later hb, by rw [(h4.later hb).cell 1]; rfl, fun x => run_lookup107 (h5.later hb) x⟩⟩

set_option maxHeartbeats 400000 in
theorem signed26 {own : Nat → Prop} {w : World} {p : Nat} {s : List (Int × Int)} (h : LedgerAt own w p s) (a b : Int) : Calls Try.prog 26 #[.pointer (some ⟨p, 0, none⟩), .agg #[.int .i64 a, .int .i64 b]] w fun e w' => e = .returned (.bool (decide ((a, b) ∈ s))) ∧ B w w' := by
  obtain ⟨m, hf⟩ := Ledger.facts h
  have l1 : ∀ w', B (w.alloc (.cells #[.int .i64 a, .int .i64 b] 25)) w' → w'.cell? ⟨p, 1, none⟩ = some (.map (some m)) := fun w' hb => (hf w' ((B.alloc' _ _).trans hb)).2.1
  have l2 : ∀ w', B (w.alloc (.cells #[.int .i64 a, .int .i64 b] 25)) w' → (Instr.lookup 107 (.map (some m)) (.agg #[.int .i64 a, .int .i64 b]) false).run Try.prog w' = .ok (.bool (decide ((a, b) ∈ s))) w' := fun w' hb => (hf w' ((B.alloc' _ _).trans hb)).2.2 (a, b)
  have l3 : ∀ w', B (w.alloc (.cells #[.int .i64 a, .int .i64 b] 25)) w' → w'.cell? ⟨w.heap.size, 0, none⟩ = some (.int .i64 a) := fun w' hb => (Own2.mk.later hb).1
  have l4 : ∀ w', B (w.alloc (.cells #[.int .i64 a, .int .i64 b] 25)) w' → w'.cell? ⟨w.heap.size, 1, none⟩ = some (.int .i64 b) := fun w' hb => (Own2.mk.later hb).2.1
  have l5 : ∀ w', B (w.alloc (.cells #[.int .i64 a, .int .i64 b] 25)) w' → LedgerAt own w' p s := fun w' hb => (hf w' ((B.alloc' _ _).trans hb)).1
  clear hf
  go_enter Try.func26, Try.ntmps26
  go_wp2
  go_region_held3 (fun w' => B (w.alloc (.cells #[.int .i64 a, .int .i64 b] 25)) w') (first | assumption | exact (Below.refl _ _).drew) (first | (go_at_call 109; refine (none109 (l5 _ (by assumption))).mono ?_; rintro e wn ⟨rfl, rfl⟩))
  go_wp2
  go_ret
  exact ⟨by simp, (B.alloc' _ _).trans ‹_›⟩

/-- what Sign answers, and what is signed behind it -/
def sgnE (a b : Int) : Int := if a < 0 ∨ 21 ≤ a then 20 else if b < 1 then 1 else 0
def sgnV (a b : Int) : Int × Int := if sgnE a b = 0 then (a, b) else (0, 0)
def ins (x : Int × Int) (s : List (Int × Int)) : List (Int × Int) := if x ∈ s then s else s ++ [x]
def sgnS (a b : Int) (s : List (Int × Int)) : List (Int × Int) := if sgnE a b = 0 then ins (a, b) s else s
def SignPost (own : Nat → Prop) (w : World) (p : Nat) (a b : Int) (s : List (Int × Int)) (e : Ending) (w' : World) : Prop :=
  e = .returned (.tuple #[.agg #[.int .i64 (sgnV a b).1, .int .i64 (sgnV a b).2], .int .i64 (sgnE a b)]) ∧ LedgerAt (fun x => own x ∨ w.heap.size ≤ x) w' p (sgnS a b s) ∧ Ext own w w'
theorem SignPost.same {own : Nat → Prop} {w w' : World} {p : Nat} {a b c d f : Int} {s : List (Int × Int)} (h : LedgerAt own w p s) (hb : B w w') (h1 : sgnV a b = (c, d)) (h2 : sgnE a b = f) (h3 : sgnS a b s = s) :
    SignPost own w p a b s (.returned (.tuple #[.agg #[.int .i64 c, .int .i64 d], .int .i64 f])) w' :=
  ⟨by rw [h1, h2], by rw [h3]; exact (h.later hb).mono (fun _ => .inl), Ext.of_B hb⟩

theorem info25 : (Try.prog.info? 25).map (fun i => (i.zero, i.size, i.bytes)) = some (some (.agg #[.int .i64 0, .int .i64 0]), 2, 16) := by kernel_rfl

set_option maxHeartbeats 400000 in
theorem sign25_key {own : Nat → Prop} {w : World} {p : Nat} {s : List (Int × Int)} (h : LedgerAt own w p s) (a b : Int) (ha : a < 0 ∨ 21 ≤ a) : Calls Try.prog 25 #[.pointer (some ⟨p, 0, none⟩), .int .i64 a, .int .i64 b] w (SignPost own w p a b s) := by
  have hE : sgnE a b = 20 := if_pos ha
  have E := Lib.hid (SignPost.same (a := a) (b := b) (c := 0) (d := 0) (f := 20) h (w' := (w.alloc (.cells #[.int .i64 0, .int .i64 0] 25))) (B.alloc' _ _) (by simp [sgnV, hE]) hE (by simp [sgnS, hE]))
  have hn := h.later (B.alloc' w (.cells #[.int .i64 0, .int .i64 0] 25))
  clear h hE
  rcases ha with ha | ha
  · go_enter Try.func25, Try.ntmps25
    go_wp2_with (first | (go_at_call 109; refine (none109 hn).mono ?_; rintro e wn ⟨rfl, rfl⟩))
    exact bodyPost_ret (v := .tuple #[.agg #[.int .i64 0, .int .i64 0], .int .i64 20]) (by simp [results, Try.results25, go_sem]) rfl E.out
  · have ha' : ¬ a < 0 := by omega
    go_enter Try.func25, Try.ntmps25
    go_wp2_with (first | (go_at_call 109; refine (none109 hn).mono ?_; rintro e wn ⟨rfl, rfl⟩))
    exact bodyPost_ret (v := .tuple #[.agg #[.int .i64 0, .int .i64 0], .int .i64 20]) (by simp [results, Try.results25, go_sem]) rfl E.out
set_option maxHeartbeats 400000 in
theorem sign25_dig {own : Nat → Prop} {w : World} {p : Nat} {s : List (Int × Int)} (h : LedgerAt own w p s) (a b : Int) (ha : 0 ≤ a ∧ a < 21) (hb : b < 1) : Calls Try.prog 25 #[.pointer (some ⟨p, 0, none⟩), .int .i64 a, .int .i64 b] w (SignPost own w p a b s) := by
  have hE : sgnE a b = 1 := by unfold sgnE; rw [if_neg (by omega), if_pos hb]
  have E := Lib.hid (SignPost.same (a := a) (b := b) (c := 0) (d := 0) (f := 1) h (w' := (w.alloc (.cells #[.int .i64 0, .int .i64 0] 25))) (B.alloc' _ _) (by simp [sgnV, hE]) hE (by simp [sgnS, hE]))
  have hn := h.later (B.alloc' w (.cells #[.int .i64 0, .int .i64 0] 25))
  clear h hE
  obtain ⟨ha1, ha2⟩ := ha
  go_enter Try.func25, Try.ntmps25
  go_wp2_with (first | (go_at_call 109; refine (none109 hn).mono ?_; rintro e wn ⟨rfl, rfl⟩))
  exact bodyPost_ret (v := .tuple #[.agg #[.int .i64 0, .int .i64 0], .int .i64 1]) (by simp [results, Try.results25, go_sem]) rfl E.out
set_option maxHeartbeats 400000 in
theorem sign25_had {own : Nat → Prop} {w : World} {p : Nat} {s : List (Int × Int)} (h : LedgerAt own w p s) (a b : Int) (ha : 0 ≤ a ∧ a < 21) (hb : 1 ≤ b) (hx : (a, b) ∈ s) : Calls Try.prog 25 #[.pointer (some ⟨p, 0, none⟩), .int .i64 a, .int .i64 b] w (SignPost own w p a b s) := by
  have hE : sgnE a b = 0 := by unfold sgnE; rw [if_neg (by omega), if_neg (by omega)]
  have hB : B w ((w.alloc (.cells #[.int .i64 0, .int .i64 0] 25)).alloc (.cells #[.int .i64 a, .int .i64 b] 25)) := (B.alloc' _ _).trans (B.alloc' _ _)
  have hn := h.later (B.alloc' w (.cells #[.int .i64 0, .int .i64 0] 25))
  have E := Lib.hid (fun (w' : World) (hb : B w w') => SignPost.same (a := a) (b := b) (c := a) (d := b) (f := 0) h hb (by simp [sgnV, hE]) hE (by simp [sgnS, hE, ins, hx]))
  obtain ⟨m, hf⟩ := Ledger.facts h
  have l1 : ∀ w', B ((w.alloc (.cells #[.int .i64 0, .int .i64 0] 25)).alloc (.cells #[.int .i64 a, .int .i64 b] 25)) w' → w'.cell? ⟨p, 1, none⟩ = some (.map (some m)) := fun w' hb => (hf w' (hB.trans hb)).2.1
  have l2 : ∀ w', B ((w.alloc (.cells #[.int .i64 0, .int .i64 0] 25)).alloc (.cells #[.int .i64 a, .int .i64 b] 25)) w' → (Instr.lookup 107 (.map (some m)) (.agg #[.int .i64 a, .int .i64 b]) false).run Try.prog w' = .ok (.bool true) w' := fun w' hb => by
    have := (hf w' (hB.trans hb)).2.2 (a, b)
    simpa [hx] using this
  have l3 : ∀ w', B ((w.alloc (.cells #[.int .i64 0, .int .i64 0] 25)).alloc (.cells #[.int .i64 a, .int .i64 b] 25)) w' → w'.cell? ⟨w.heap.size + 1, 0, none⟩ = some (.int .i64 a) := fun w' hb => by have := (Own2.mk.later hb).1; simpa using this
  have l4 : ∀ w', B ((w.alloc (.cells #[.int .i64 0, .int .i64 0] 25)).alloc (.cells #[.int .i64 a, .int .i64 b] 25)) w' → w'.cell? ⟨w.heap.size + 1, 1, none⟩ = some (.int .i64 b) := fun w' hb => by have := (Own2.mk.later hb).2.1; simpa using this
  clear hf h hE hx
  obtain ⟨ha1, ha2⟩ := ha
  go_enter Try.func25, Try.ntmps25
  go_wp2_with (first | (go_at_call 109; refine (none109 hn).mono ?_; rintro e wn ⟨rfl, rfl⟩))
  go_region_held3 (fun w' => B ((w.alloc (.cells #[.int .i64 0, .int .i64 0] 25)).alloc (.cells #[.int .i64 a, .int .i64 b] 25)) w') (first | assumption | exact (Below.refl _ _).drew) (fail)
  go_wp2
  exact bodyPost_ret (v := .tuple #[.agg #[.int .i64 a, .int .i64 b], .int .i64 0]) (by simp [results, Try.results25, go_sem]) rfl (E.out _ ((B.alloc' _ _).trans (B.alloc' _ _)).drew)

theorem cell_two_new (w : World) (x y : Value) (t : TypeId) : ∀ j u, [x, y][j]? = some u → (w.alloc (.cells #[x, y] t)).drew.cell? ((⟨w.heap.size, 0, none⟩ : Addr).add j) = some u := by
  intro j u h
  match j, h with
  | 0, h => simp [Addr.add] at h ⊢; exact h
  | 1, h => simp [Addr.add] at h ⊢; exact h
  | j + 2, h => simp at h
set_option maxHeartbeats 1000000 in
theorem sign25_new {own : Nat → Prop} {w : World} {p : Nat} {s : List (Int × Int)} (h : LedgerAt own w p s) (a b : Int) (ha : 0 ≤ a ∧ a < 21) (hb : 1 ≤ b) (hx : (a, b) ∉ s) (hroom : (s.length + 1) * 16 ≤ 140737488355328) : Calls Try.prog 25 #[.pointer (some ⟨p, 0, none⟩), .int .i64 a, .int .i64 b] w (SignPost own w p a b s) := by
  have hE : sgnE a b = 0 := by unfold sgnE; rw [if_neg (by omega), if_neg (by omega)]
  have E1 := Lib.hid (show sgnV a b = (a, b) by simp [sgnV, hE])
  have E2 := Lib.hid (show sgnS a b s = s ++ [(a, b)] by simp [sgnS, hE, ins, hx])
  have E3 := Lib.hid hE
  have hB : B w ((w.alloc (.cells #[.int .i64 0, .int .i64 0] 25)).alloc (.cells #[.int .i64 a, .int .i64 b] 25)) := (B.alloc' _ _).trans (B.alloc' _ _)
  have hn := h.later (B.alloc' w (.cells #[.int .i64 0, .int .i64 0] 25))
  obtain ⟨m, hf⟩ := Ledger.facts h
  have l1 : ∀ w', B ((w.alloc (.cells #[.int .i64 0, .int .i64 0] 25)).alloc (.cells #[.int .i64 a, .int .i64 b] 25)) w' → w'.cell? ⟨p, 1, none⟩ = some (.map (some m)) := fun w' hb => (hf w' (hB.trans hb)).2.1
  have l2 : ∀ w', B ((w.alloc (.cells #[.int .i64 0, .int .i64 0] 25)).alloc (.cells #[.int .i64 a, .int .i64 b] 25)) w' → (Instr.lookup 107 (.map (some m)) (.agg #[.int .i64 a, .int .i64 b]) false).run Try.prog w' = .ok (.bool false) w' := fun w' hb => by
    have := (hf w' (hB.trans hb)).2.2 (a, b)
    simpa [hx] using this
  have l3 : ∀ w', B ((w.alloc (.cells #[.int .i64 0, .int .i64 0] 25)).alloc (.cells #[.int .i64 a, .int .i64 b] 25)) w' → w'.cell? ⟨w.heap.size + 1, 0, none⟩ = some (.int .i64 a) := fun w' hb => by have := (Own2.mk.later hb).1; simpa using this
  have l4 : ∀ w', B ((w.alloc (.cells #[.int .i64 0, .int .i64 0] 25)).alloc (.cells #[.int .i64 a, .int .i64 b] 25)) w' → w'.cell? ⟨w.heap.size + 1, 1, none⟩ = some (.int .i64 b) := fun w' hb => by have := (Own2.mk.later hb).2.1; simpa using this
  clear hf hE
  have hxx := Lib.hid hx
  clear hx
  obtain ⟨ha1, ha2⟩ := ha
  go_enter Try.func25, Try.ntmps25
  go_wp2_with (first | (go_at_call 109; refine (none109 hn).mono ?_; rintro e wn ⟨rfl, rfl⟩))
  go_region_held3 (fun w' => B ((w.alloc (.cells #[.int .i64 0, .int .i64 0] 25)).alloc (.cells #[.int .i64 a, .int .i64 b] 25)) w') (first | assumption | exact (Below.refl _ _).drew) (fail)
  clear l1 l2 l3 l4
  go_wp2
  -- the second stretch: the map's store, the append
  have hA : B w ((w.alloc (.cells #[.int .i64 0, .int .i64 0] 25)).alloc (.cells #[.int .i64 a, .int .i64 b] 25)).drew := hB.drew
  have oR : Own2 ((w.alloc (.cells #[.int .i64 0, .int .i64 0] 25)).alloc (.cells #[.int .i64 a, .int .i64 b] 25)).drew w.heap.size (.int .i64 0) (.int .i64 0) := Own2.mk.later ((Below.refl _ _).alloc (Nat.le_refl _) _).drew
  have oS : Own2 ((w.alloc (.cells #[.int .i64 0, .int .i64 0] 25)).alloc (.cells #[.int .i64 a, .int .i64 b] 25)).drew (w.heap.size + 1) (.int .i64 a) (.int .i64 b) := by
    have := (Own2.mk (w := w.alloc (.cells #[.int .i64 0, .int .i64 0] 25)) (x := .int .i64 a) (y := .int .i64 b) (T := 25)).later (Below.refl _ _).drew
    simpa using this
  obtain ⟨m', v, k1, k2, k3, k4, k5, k6⟩ := h
  have rlt := fun g => row_lt k6 (g := g)
  have plt := k4.lt
  have mlt := k5.lt
  have k4 := k4.later hA
  have k5 := k5.later hA
  have k6 := row_later k6 hA
  clear hn hB ‹B ((w.alloc _).alloc _) _›
  generalize ((w.alloc (.cells #[.int .i64 0, .int .i64 0] 25)).alloc (.cells #[.int .i64 a, .int .i64 b] 25)).drew = wA at *
  obtain ⟨wB, hup, k5', hx1⟩ := update107 (w := wA.drew) k5 (a, b) hxx.out
  have c1 := k4.cell 1
  simp at c1
  obtain ⟨d1, d2, d3, d4, d5⟩ := id oS
  have mR : ¬ w.heap.size = m' := k5.no oR.1
  have mS : ¬ w.heap.size + 1 = m' := k5.no oS.1
  have mP : ¬ p = m' := fun e => k5.ne k4 e.symm
  go_region
  go_wp2
  have hx0 : Ext own w wB := ((Ext.of_B (own := own) hA).drew).trans hx1 (fun x hx e => by subst e; exact k2)
  have oR := Own2.ext (w := wA.drew) oR hx1 mR
  have oS := Own2.ext (w := wA.drew) oS hx1 mS
  have k4 := Blk.ext (w := wA.drew) k4 hx1 mP
  have rM : ∀ g, v.ownBlock = some g → ¬ g = m' := fun g hg e => by
    subst e
    rcases k6.2 with ⟨rfl, _⟩ | ⟨g', cap, cur, rfl, _, hh, _⟩
    · simp [Value.ownBlock] at hg
    · have : g' = g := by simpa [Value.ownBlock] using hg
      subst this
      exact k5.ne (t := 25) hh rfl
  have k6 := row_ext (w := wA.drew) k6 hx1 rM
  clear c1 d1 d2 d3 d4 d5 hup
  -- the append
  obtain ⟨i0, hi, hz0, hz1, hz2⟩ := info_parts info25
  have kx4 := (k4.alloc (.cells #[.int .i64 a, .int .i64 b] 25)).drew
  have hpl := k4.lt
  obtain ⟨v', wC, hrun, q6, hg, _, hv⟩ := run_append_own_at (P := Try.prog) (wB.alloc (.cells #[.int .i64 a, .int .i64 b] 25)).drew 0 22 22 25 i0 (.agg #[.int .i64 0, .int .i64 0]) 2 16 Try.underlying22 hi hz0 hz1 hz2 rfl (by omega) v s.length (flat s) (row_later k6 ((B.alloc' _ _).drew)) ⟨wB.heap.size, 0, none⟩ 1 1 [.int .i64 a, .int .i64 b] rfl (cell_two_new _ _ _ _) (by simp [Value.oneCell']) (by unfold maxLen; omega) hroom (by omega)
  obtain ⟨gn, cap', rfl, _, hgl⟩ := q6.form (by omega)
  obtain ⟨d1, d2, d3, d4, d5⟩ := id oS
  have c0 := k4.cell 0
  simp at c0
  have q4 := kx4.grown hg (fun e => row_ne k6 k4 (by decide) e.symm)
  have p0 := q4.cell 0
  have pf := q4.frozen 0
  simp at p0
  go_region_law (refine step_append_run rfl (.tmp 44) (.tmp 46) 22 rfl rfl rfl hrun ?_)
  all_goals
    have oR' := (((oR.alloc (.cells #[.int .i64 a, .int .i64 b] 25)).later (Below.refl _ _).drew).grown hg (fun e => by have := rlt _ e.symm; omega)).other (b' := p) (by omega) 0 (.slice (some ⟨gn, 0, none⟩) (s.length + 1) cap')
    have oS' := (((oS.alloc (.cells #[.int .i64 a, .int .i64 b] 25)).later (Below.refl _ _).drew).grown hg (fun e => by have := rlt _ e.symm; omega)).other (b' := p) (by omega) 0 (.slice (some ⟨gn, 0, none⟩) (s.length + 1) cap')
    have q4' := q4.set_ 0 (.slice (some ⟨gn, 0, none⟩) (s.length + 1) cap')
    have hxF := ((((hx0.alloc (.cells #[.int .i64 a, .int .i64 b] 25)).drew).grown hg (fun g e _ => k3 g e)).set (p := ⟨p, 0, none⟩) (fun _ => k1) (.slice (some ⟨gn, 0, none⟩) (s.length + 1) cap'))
    have q5' : Mp (wC.setCell ⟨p, 0, none⟩ (.slice (some ⟨gn, 0, none⟩) (s.length + 1) cap')) m' (entsF (s ++ [(a, b)]) 0).toArray (s ++ [(a, b)]).length := by
      refine Mp.ext (Mp.ext (Mp.later k5' (B.alloc' _ (.cells #[.int .i64 a, .int .i64 b] 25)).drew) ((Ext.refl (fun g => some g = v.ownBlock) _).grown hg (fun g e _ => e.symm)) (fun e => rM _ e.symm rfl)) ((Ext.refl (fun g => g = p) _).set (p := ⟨p, 0, none⟩) (fun _ => rfl) _) (fun e => mP e.symm)
    have q6' := row_ext q6 ((Ext.refl (fun g => g = p) _).set (p := ⟨p, 0, none⟩) (fun _ => rfl) (.slice (some ⟨gn, 0, none⟩) (s.length + 1) cap')) (fun g hg' e => row_ne q6 q4 (by decide) (by rw [hg', e]))
    have hgn : own gn ∨ w.heap.size ≤ gn := by
      rcases hv with e | e
      · exact .inl (k3 gn (by rw [← e]; rfl))
      · right
        have e1 : gn = ((wB.alloc (.cells #[.int .i64 a, .int .i64 b] 25)).drew).heap.size := by simpa [Value.ownBlock] using e
        have := hx0.size
        simp at e1
        omega
    have hgs : gn ≠ w.heap.size := by
      rcases hv with e | e
      · have := rlt gn (by rw [← e]; rfl); omega
      · have e1 : gn = ((wB.alloc (.cells #[.int .i64 a, .int .i64 b] 25)).drew).heap.size := by simpa [Value.ownBlock] using e
        have := hx0.size
        simp at e1
        omega
    have hvb : ∀ g, (Value.slice (some ⟨gn, 0, none⟩) (s.length + 1) cap').ownBlock = some g → g = gn := fun g h => by simpa [Value.ownBlock] using h.symm
    have hL : LedgerAt (fun x => x ≠ w.heap.size ∧ (own x ∨ w.heap.size ≤ x)) (wC.setCell ⟨p, 0, none⟩ (.slice (some ⟨gn, 0, none⟩) (s.length + 1) cap')) p (s ++ [(a, b)]) :=
      ⟨m', .slice (some ⟨gn, 0, none⟩) (s.length + 1) cap', ⟨by omega, .inl k1⟩, ⟨by omega, .inl k2⟩, fun g hg' => by rw [hvb g hg']; exact ⟨hgs, hgn⟩, by simpa using q4', by simpa using q5', by simpa [flat_snoc] using q6'⟩
    obtain ⟨d1, d2, d3, d4, d5⟩ := id oS'
    obtain ⟨e1, e2, e3, e4, e5⟩ := id oR'
    clear c0 p0 pf hrun
    go_wp2
    have hE := ((Ext.refl (fun x => x = w.heap.size) (wC.setCell ⟨p, 0, none⟩ (.slice (some ⟨gn, 0, none⟩) (s.length + 1) cap'))).set (p := ⟨w.heap.size, 0, none⟩) (fun _ => rfl) (.int .i64 a)).set (p := ⟨w.heap.size, 1, none⟩) (fun _ => rfl) (.int .i64 b)
    exact bodyPost_ret (v := .tuple #[.agg #[.int .i64 a, .int .i64 b], .int .i64 0]) (by simp [results, Try.results25, go_sem, *]) rfl
      ⟨by rw [E1.out, E3.out], by rw [E2.out]; exact (hL.ext hE (fun x hx e => hx.1 e)).mono (fun _ hx => hx.2), hxF.trans hE (fun x hx e => by omega)⟩

theorem sign25 {own : Nat → Prop} {w : World} {p : Nat} {s : List (Int × Int)} (h : LedgerAt own w p s) (a b : Int) (hroom : (s.length + 1) * 16 ≤ 140737488355328) : Calls Try.prog 25 #[.pointer (some ⟨p, 0, none⟩), .int .i64 a, .int .i64 b] w (SignPost own w p a b s) := by
  by_cases ha : a < 0 ∨ 21 ≤ a
  · exact sign25_key h a b ha
  · by_cases hb : b < 1
    · exact sign25_dig h a b (by omega) hb
    · by_cases hx : (a, b) ∈ s
      · exact sign25_had h a b (by omega) (by omega) hx
      · exact sign25_new h a b (by omega) (by omega) hx hroom
end Go.Proofs.Ythgpkbhilkdckaa

/- The law's 'begun' of chapter 2: it returns true. -/
namespace Go.Proofs.Ythgpkbhilkdckaa
open Go.RowKit
set_option linter.unusedVariables false

theorem TableAt.bound {own : Nat → Prop} {w : World} {p : Nat} {M : List (List UInt8)} (h : TableAt own w p M) : TableAt (fun x => own x ∧ x < w.heap.size) w p M := by
  obtain ⟨m, v, vs, h1, h2, h3, h4, h5, h6, h7⟩ := h
  exact ⟨m, v, vs, ⟨h1, h4.lt⟩, ⟨h2, h5.lt⟩, fun g hg => ⟨h3 g hg, row_lt h6 hg⟩, h4, h5, h6, h7.1, fun i v b hv hm => let ⟨r1, r2, r3⟩ := h7.2 i v b hv hm; ⟨r1, r2, fun g hg => ⟨r3 g hg, row_lt r1 hg⟩⟩⟩
theorem LedgerAt.bound {own : Nat → Prop} {w : World} {p : Nat} {s : List (Int × Int)} (h : LedgerAt own w p s) : LedgerAt (fun x => own x ∧ x < w.heap.size) w p s := by
  obtain ⟨m, v, h1, h2, h3, h4, h5, h6⟩ := h
  exact ⟨m, v, ⟨h1, h4.lt⟩, ⟨h2, h5.lt⟩, fun g hg => ⟨h3 g hg, row_lt h6 hg⟩, h4, h5, h6⟩

/-- a one-letter constant as bytes -/
theorem strArg (w : World) (c : UInt8) (i : Int) (hc : (c.toNat : Int) = i) : ∃ wc, (convert 47 47 (.slice (some ⟨w.heap.size, 0, none⟩) 1 1)).run Try.prog (w.alloc (.cells #[.int .u8 i] 5)) = .ok (.slice (some ⟨w.heap.size, 0, none⟩) 1 1) wc ∧ B w wc ∧ Bs wc (.slice (some ⟨w.heap.size, 0, none⟩) 1 1) [c] := by
  subst hc
  have hb := Blk.new w 5 #[.int .u8 c.toNat]
  unfold Blk at hb
  have hsh : (w.alloc (.cells #[.int .u8 c.toNat] 5)).shape? w.heap.size = some (5, 1) := by
    simp only [World.shape?]
    rw [hb]; rfl
  have hfr : ((w.alloc (.cells #[.int .u8 c.toNat] 5)).freeze ⟨w.heap.size, 1, none⟩ 1).heap[w.heap.size]? = some (.cells #[.int .u8 c.toNat] 5 (1, 2)) := by
    show (Array.modify _ _ _)[w.heap.size]? = _
    rw [Array.getElem?_modify, if_pos rfl, hb]; rfl
  refine ⟨(w.alloc (.cells #[.int .u8 c.toNat] 5)).freeze ⟨w.heap.size, 1, none⟩ 1, ?_, ?_, ?_⟩
  · simp [convert, run_underlying Try.underlying47, run_underlying Try.underlying5, markStringish, shape, freeze, Sem.run, hsh]
  · refine ⟨rfl, rfl, rfl, by simp [World.freeze], fun b hb => ?_⟩
    show (Array.modify _ _ _)[b]? = _
    rw [Array.getElem?_modify, if_neg (by simp; omega)]
    exact Below.heap_alloc _ _ _ hb
  · refine ⟨⟨_, 1, rfl, fun e => (by cases e), Nat.le_refl _, by unfold maxLen; omega, fun ad had => ?_⟩, by simp [big]⟩
    cases had
    refine ⟨fun _ => by simp [World.freeze], fun j u hu => ?_⟩
    match j, hu with
    | 0, hu =>
      simp [cellsB] at hu
      subst hu
      simp only [World.cell?, Addr.add, if_true]
      rw [hfr]; rfl
    | j + 1, hu => simp [cellsB] at hu

theorem B.trans' {own : Nat → Prop} {a b c : World} (h : B a b) (k : Ext own b c) (hs : ∀ x, x < a.heap.size → own x → False) : B a c :=
  (((Ext.of_B (own := own) h).trans_ k).to_B (fun x hx e => hs x hx e))

set_option maxHeartbeats 1000000 in
theorem begun24 (w : World) : Calls Try.prog 24 #[] w fun e w' => e = .returned (.bool true) ∧ B w w' := by
  go_enter Try.func24, Try.ntmps24
  go_wp2_with fail
  refine (newTable61 _).mono ?_
  rintro e w1 ⟨rfl, hw1⟩
  have ht := TableAt.new w
  rw [← hw1] at ht
  have hb1 : B w w1 := by rw [hw1]; exact (B.alloc' _ _).trans (B.alloc' _ _)
  have z1 : w1.heap.size = w.heap.size + 2 := by rw [hw1]; simp
  clear hw1
  have Z1 := Lib.hid z1
  clear z1
  go_wp2_with fail
  refine (newLedger23 _).mono ?_
  rintro e w2 ⟨rfl, hw2⟩
  have hl := LedgerAt.new w1
  rw [← hw2] at hl
  have hb2 : B w1 w2 := by rw [hw2]; exact (B.alloc' _ _).trans (B.alloc' _ _)
  have Z2 := Lib.hid (show w2.heap.size = w.heap.size + 4 by rw [hw2]; simp [Z1.out])
  clear hw2
  have ht := (ht.later hb2).bound
  obtain ⟨w3, q3, hb3, bs3⟩ := strArg w2 97 97 rfl
  go_wp2_with fail
  refine (sum52 (ht.later hb3) bs3 (fun g hg _ => (by have : w2.heap.size = g := (by simpa [Value.ownBlock] using hg); omega))).mono ?_
  rintro e w4 ⟨rfl, ht4, hx4⟩
  simp only [show sumN [] [97] = 1 from by decide]
  have ht4 := ht4.bound
  have hl4 := (hl.later hb3).ext hx4 (fun x hx e => by have := Z1.out; omega)
  have hB4 : B w w4 := (((hb1.trans hb2).trans hb3)).trans' hx4 (fun x hx e => by omega)
  obtain ⟨w5, q5, hb5, bs5⟩ := strArg w4 98 98 rfl
  have S4 := Lib.hid hx4.size
  have S3 := Lib.hid hb3.size
  clear q3 bs3 hl ht hx4
  go_wp2_with fail
  refine (sum52 (ht4.later hb5) bs5 (fun g hg _ => (by have : w4.heap.size = g := (by simpa [Value.ownBlock] using hg); omega))).mono ?_
  rintro e w6 ⟨rfl, ht6, hx6⟩
  simp only [show sumN (sumM [] [97]) [98] = 2 from by decide]
  have ht6 := ht6.bound
  have S6 := Lib.hid hx6.size
  have S5 := Lib.hid hb5.size
  have hl6 := (hl4.later hb5).ext hx6 (fun x hx e => by have := Z1.out; have := Z2.out; have := S3.out; omega)
  have hB6 : B w w6 := (hB4.trans hb5).trans' hx6 (fun x hx e => by have := Z2.out; have := S3.out; omega)
  obtain ⟨w7, q7, hb7, bs7⟩ := strArg w6 97 97 rfl
  clear q5 bs5 hl4 ht4 hx6
  go_wp2_with fail
  refine (sum52 (ht6.later hb7) bs7 (fun g hg _ => (by have : w6.heap.size = g := (by simpa [Value.ownBlock] using hg); omega))).mono ?_
  rintro e w8 ⟨rfl, ht8, hx8⟩
  simp only [show sumN (sumM (sumM [] [97]) [98]) [97] = 1 from by decide]
  have hl8 := (hl6.later hb7).ext hx8 (fun x hx e => by have := Z1.out; have := Z2.out; have := S3.out; have := S4.out; have := S5.out; omega)
  have hB8 : B w w8 := (hB6.trans hb7).trans' hx8 (fun x hx e => by have := Z2.out; have := S3.out; have := S4.out; have := S5.out; omega)
  clear q7 bs7 hl6 ht6 hx8 ht8 hB4 hB6
  go_wp2_with fail
  refine (sign25 hl8 3 1 (by simp)).mono ?_
  rintro e w9 ⟨rfl, hl9, hx9⟩
  simp only [show sgnV 3 1 = (3, 1) from by decide, show sgnE 3 1 = 0 from by decide]
  have hB9 : B w w9 := hB8.trans' hx9 (fun x hx e => by have := Z1.out; omega)
  clear hl8 hx9 hb1 hb2 hb3 hb5 hb7 S3 S4 S5 S6 Z2
  have hs1 := Lib.hid (fun w' (hb : B (w9.alloc (.cells #[.int .i64 3, .int .i64 1] 25)) w') => signed26 (hl9.later ((B.alloc' _ _).trans hb)) 3 1)
  have hs2 := Lib.hid (fun w' (hb : B (w9.alloc (.cells #[.int .i64 3, .int .i64 1] 25)) w') => signed26 (hl9.later ((B.alloc' _ _).trans hb)) 4 1)
  have l1 : ∀ w', B (w9.alloc (.cells #[.int .i64 3, .int .i64 1] 25)) w' → w'.cell? ⟨w9.heap.size, 0, none⟩ = some (.int .i64 3) := fun w' hb => (Own2.mk.later hb).1
  have l2 : ∀ w', B (w9.alloc (.cells #[.int .i64 3, .int .i64 1] 25)) w' → w'.cell? ⟨w9.heap.size, 1, none⟩ = some (.int .i64 1) := fun w' hb => (Own2.mk.later hb).2.1
  have e1 : decide ((3, 1) ∈ sgnS 3 1 []) = true := by decide
  have e2 : decide ((4, 1) ∈ sgnS 3 1 []) = false := by decide
  go_wp2_with fail
  refine (hs1.out _ (Below.refl _ _)).mono ?_
  rintro e wa ⟨rfl, hba⟩
  simp only [e1]
  have l3 := l1 _ hba
  have l4 := l2 _ hba
  go_wp2_with fail
  refine (hs2.out _ hba).mono ?_
  rintro e wb ⟨rfl, hbb⟩
  simp only [e2]
  go_wp2
  go_ret
  exact ⟨rfl, ((hB9.trans (B.alloc' _ _)).trans hba).trans hbb⟩
end Go.Proofs.Ythgpkbhilkdckaa

/- The reference's table. -/
namespace Go.Proofs.Ythgpkbhilkdckaa
open Go.RowKit
set_option linter.unusedVariables false

theorem look_at {b : List UInt8} {M : List (List UInt8)} {q : Nat} (h : b ∉ M.take q) (hq : M[q]? = some b) (i : Nat) : look b M i = some (i + q + 1) := by
  induction M generalizing q i with
  | nil => simp at hq
  | cons x r ih =>
    cases q with
    | zero => simp at hq; subst hq; simp [look]
    | succ q =>
      simp only [List.take_succ_cons, List.mem_cons, not_or] at h
      rw [look, if_neg (fun e => h.1 e.symm), ih h.2 (by simpa using hq)]
      congr 1; omega

def RefT (own : Nat → Prop) (w : World) (p : Nat) (M : List (List UInt8)) : Prop :=
  ∃ (v : Value) (vs : List Value), own p ∧ (∀ g, v.ownBlock = some g → own g) ∧ Blk w p 59 #[v] ∧ w.ownsRow 0 47 1 v M.length vs ∧ Els own w vs M
theorem RefT.ext {own own' : Nat → Prop} {w w' : World} {p : Nat} {M : List (List UInt8)} (h : RefT own w p M) (hb : Ext own' w w') (hd : ∀ b, own b → ¬ own' b) : RefT own w' p M := by
  obtain ⟨v, vs, h1, h3, h4, h6, h7⟩ := h
  exact ⟨v, vs, h1, h3, h4.ext hb (hd _ h1), row_ext h6 hb (fun g hg => hd _ (h3 g hg)), h7.ext hb (fun g _ hg _ => hd g hg)⟩
theorem RefT.later {own : Nat → Prop} {w w' : World} {p : Nat} {M : List (List UInt8)} (h : RefT own w p M) (hb : B w w') : RefT own w' p M := h.ext (Ext.of_B (own := fun _ => False) hb) (fun _ _ => id)
theorem RefT.mono {own own' : Nat → Prop} {w : World} {p : Nat} {M : List (List UInt8)} (h : RefT own w p M) (hs : ∀ b, own b → own' b) : RefT own' w p M := by
  obtain ⟨v, vs, h1, h3, h4, h6, h7⟩ := h
  exact ⟨v, vs, hs _ h1, fun g hg => hs _ (h3 g hg), h4, h6, h7.mono hs⟩
theorem RefT.bound {own : Nat → Prop} {w : World} {p : Nat} {M : List (List UInt8)} (h : RefT own w p M) : RefT (fun x => own x ∧ x < w.heap.size) w p M := by
  obtain ⟨v, vs, h1, h3, h4, h6, h7⟩ := h
  exact ⟨v, vs, ⟨h1, h4.lt⟩, fun g hg => ⟨h3 g hg, row_lt h6 hg⟩, h4, h6, h7.1, fun i v b hv hm => let ⟨r1, r2, r3⟩ := h7.2 i v b hv hm; ⟨r1, r2, fun g hg => ⟨r3 g hg, row_lt r1 hg⟩⟩⟩
theorem RefT.new (w : World) : RefT (fun b => b = w.heap.size) (w.alloc (.cells #[.slice none 0 0] 59)) w.heap.size [] :=
  ⟨_, [], rfl, fun g hg => by simp [Value.ownBlock] at hg, Blk.new w _ _, ownNil _ _ _ _, Els.nil _ _⟩
theorem RefT.lss {own : Nat → Prop} {w : World} {p : Nat} {M : List (List UInt8)} (h : RefT own w p M) : ∃ v, w.cell? ⟨p, 0, none⟩ = some v ∧ Lss own w v M := by
  obtain ⟨v, vs, h1, h3, h4, h6, h7⟩ := h
  exact ⟨v, by rw [h4.cell]; rfl, Lss.of_own h6 h7 h3⟩

set_option maxHeartbeats 1000000 in
theorem rlook67 {own : Nat → Prop} {w : World} {p : Nat} {M : List (List UInt8)} (h : RefT own w p M) (hlen : M.length ≤ 9223372036854775806) {v : Value} {b : List UInt8} (hb : Bs w v b) :
    Calls Try.prog 67 #[.pointer (some ⟨p, 0, none⟩), v] w fun e w' => e = .returned (.tuple #[.int .i64 (lkN M b), .bool (lkB M b)]) ∧ w = w' := by
  obtain ⟨u, c0, hL⟩ := h.lss
  obtain ⟨A, cap, rfl, hn, hc, hm, hr⟩ := hL
  have HR := Lib.hid hr
  clear hr hn hc hm h
  go_enter Try.func67, Try.ntmps67
  go_wp2_with fail
  go_loop [6] (fun i => ∃ q : Nat, q ≤ M.length ∧ i = .int .i64 q ∧ b ∉ M.take q) (fun i => M.length - (intOf i).toNat)
  case atStart => exact ⟨0, Nat.zero_le _, rfl, by simp⟩
  case round =>
    obtain ⟨q, hq, rfl, hno⟩ := hrel
    have HN := Lib.hid hno
    clear hno
    by_cases hlt : q < M.length
    · obtain ⟨b', off, rfl, hb', _, hx⟩ := HR.out (by omega)
      obtain ⟨u, k1, k2, _⟩ := hx q _ (List.getElem?_eq_getElem hlt)
      have hqi : (q : Int) < M.length := by omega
      have HG := Lib.hid (List.getElem?_eq_getElem hlt)
      generalize M[q] = x at *
      clear hx
      go_wp2_with fail
      refine (same112 k2 hb).mono ?_
      rintro e wn ⟨rfl, rfl⟩
      by_cases e : x = b
      · have e1 : (x == b) = true := by simpa using e
        have E := Lib.hid (look_at (i := 0) HN.out (by rw [HG.out, e]))
        have E1 := Lib.hid (show ((q : Int) + 1) = lkN M b by unfold lkN; rw [E.out]; simp)
        have E2 := Lib.hid (show true = lkB M b by unfold lkB; rw [E.out]; rfl)
        simp only [e1]
        clear e
        go_wp2_with fail
        go_ret2
        exact ⟨by rw [← E1.out, ← E2.out]; rfl, rfl⟩
      · have e1 : (x == b) = false := by simpa using e
        have E := Lib.hid (show b ∉ M.take (q + 1) by rw [List.take_add_one, HG.out]; simp only [Option.toList, List.mem_append, List.mem_singleton, not_or]; exact ⟨HN.out, fun h => e h.symm⟩)
        simp only [e1]
        clear e
        go_wp2_with fail
        go_round
        case rel => exact ⟨q + 1, by omega, by go_num, E.out⟩
        case measure => simp [intOf]; omega
    · have hqi : ¬ (q : Int) < M.length := by omega
      have E := Lib.hid (look_none (i := 0).2 (show b ∉ M by have := HN.out; rwa [List.take_of_length_le (by omega)] at this))
      have E1 := Lib.hid (show (0 : Int) = lkN M b by unfold lkN; rw [E.out]; rfl)
      have E2 := Lib.hid (show false = lkB M b by unfold lkB; rw [E.out]; rfl)
      go_wp2_with fail
      go_ret2
      exact ⟨by rw [← E1.out, ← E2.out]; rfl, rfl⟩

def RSumPost (own : Nat → Prop) (w : World) (p : Nat) (M : List (List UInt8)) (b : List UInt8) (e : Ending) (w' : World) : Prop :=
  e = .returned (.int .i64 (sumN M b)) ∧ RefT (fun x => own x ∨ w.heap.size ≤ x) w' p (sumM M b) ∧ Ext own w w'
theorem lkB_iff {M : List (List UInt8)} {b : List UInt8} : lkB M b = decide (b ∈ M) := by
  unfold lkB
  cases h : look b M 0 with
  | none => rw [decide_eq_false (look_none.1 h)]; rfl
  | some d =>
    by_cases hm : b ∈ M
    · rw [decide_eq_true hm]; rfl
    · rw [look_none.2 hm] at h; cases h
set_option maxRecDepth 20000 in
set_option maxHeartbeats 1000000 in
theorem rsum53 {own : Nat → Prop} {w : World} {p : Nat} {M : List (List UInt8)} (h : RefT own w p M) (hlen : M.length ≤ 9223372036854775806) {v : Value} {b : List UInt8} (hb : Bs w v b) :
    Calls Try.prog 53 #[.pointer (some ⟨p, 0, none⟩), v] w (RSumPost own w p M b) := by
  have HL := Lib.hid (rlook67 h hlen hb)
  obtain ⟨u, vs, h1, h3, h4, h6, h7⟩ := id h
  obtain ⟨A, cap, rfl⟩ := own_slice h6
  have c0 := h4.cell 0
  simp at c0
  by_cases hm : b ∈ M
  · have E := Lib.hid (show RSumPost own w p M b (.returned (.int .i64 (lkN M b))) w from ⟨by simp [sumN, hm], by simp only [sumM, if_pos hm]; exact h.mono (fun _ => .inl), Ext.refl _ _⟩)
    have e1 : lkB M b = true := by rw [lkB_iff]; simpa using hm
    clear h h3 h4 h6 h7 hm hb
    go_enter Try.func53, Try.ntmps53
    go_wp2_with (first | (go_at_call 67; refine HL.out.mono ?_; rintro e wn ⟨rfl, rfl⟩; simp only [e1]))
    go_ret
    exact E.out
  · have e1 : lkB M b = false := by rw [lkB_iff]; simpa using hm
    by_cases hn : 1048576 ≤ M.length
    · have E := Lib.hid (show RSumPost own w p M b (.returned (.int .i64 0)) w from ⟨by simp [sumN, hm, hn], by simp only [sumM, if_neg hm, if_pos hn]; exact h.mono (fun _ => .inl), Ext.refl _ _⟩)
      have hd : decide ((1048576 : Int) ≤ (M.length : Int)) = true := decide_eq_true (by omega)
      clear h h3 h4 h6 h7 hm hb hn
      go_enter Try.func53, Try.ntmps53
      go_wp2_with (first | (go_at_call 67; refine HL.out.mono ?_; rintro e wn ⟨rfl, rfl⟩; simp only [e1]))
      go_ret
      exact E.out
    · have hd : decide ((1048576 : Int) ≤ (M.length : Int)) = false := decide_eq_false (by omega)
      have E1 := Lib.hid (show ((M.length + 1 : Nat) : Int) = sumN M b by unfold sumN; rw [if_neg hm, if_neg hn])
      have E2 := Lib.hid (show M ++ [b] = sumM M b by unfold sumM; rw [if_neg hm, if_neg hn])
      have HN := Lib.hid (show M.length < 1048576 by omega)
      have hbl := Lib.hid hb.len
      have g1 : 0 + M.length ≤ maxLen := by unfold maxLen; omega
      have g2 : (0 + M.length) * 24 ≤ 140737488355328 := by omega
      have g3 : 0 + b.length ≤ maxLen := by have := hb.len; unfold big at this; unfold maxLen; omega
      have g4 : (0 + b.length) * 1 ≤ 140737488355328 := by have := hb.len; unfold big at this; omega
      have g5 : M.length + 1 ≤ maxLen := by unfold maxLen; omega
      have g6 : (M.length + 1) * 24 ≤ 140737488355328 := by omega
      have nn : ∀ g, some g ≠ (Value.slice none 0 0).ownBlock := fun g => by simp [Value.ownBlock]
      have glt := fun g => row_lt h6 (g := g)
      have plt := h4.lt
      have ho1 := h7.one
      clear hm hn h
      go_enter Try.func53, Try.ntmps53
      go_wp2_with (first
        | (go_at_call 67; refine HL.out.mono ?_; rintro e wn ⟨rfl, rfl⟩; simp only [e1])
        | (refine wpList_append_Rd (v := .slice none 0 0) rfl (.const (.slice none 0 0)) (.tmp 25) 46 rfl Try.underlying46 info47 rfl Nat.zero_lt_one rfl rfl (ownNil _ 0 47 1) (Rd.of_own h6) ho1 g1 g2 (Nat.zero_le _) ?_; intro A1 c1 w1 r1 x1 y1; simp only [Nat.zero_add, List.nil_append] at r1 y1; have hB1 : B w w1 := B.grown (Below.refl _ _) x1 (fun k hk => by simp [Value.ownBlock] at hk))
        | (refine wpList_append_Rd (v := .slice none 0 0) rfl (.const (.slice none 0 0)) (.tmp 27) 47 rfl Try.underlying47 info5 rfl Nat.zero_lt_one rfl rfl (ownNil _ 0 5 1) (hb.later hB1).rd (cellsB_one b) g3 g4 (Nat.zero_le _) ?_; intro A2 c2 w2 r2 x2 y2; simp only [Nat.zero_add, List.nil_append] at r2 y2; have hB2 : B w1 w2 := B.grown (Below.refl _ _) x2 (fun k hk => by simp [Value.ownBlock] at hk))
        | (refine wpList_append_Rd (v := .slice A1 M.length c1) rfl (.tmp 26) (.tmp 29) 46 rfl Try.underlying46 info47 rfl Nat.zero_lt_one rfl rfl (row_later (row_later r1 hB2) (B.alloc' _ _)) (Rd.one _ _ _) (by simp [Value.oneCell']) g5 g6 (Nat.zero_le _) ?_; intro A3 c3 w3 r3 x3 y3; have kP := ((h4.later (hB1.trans hB2)).alloc (.cells #[.slice A2 b.length c2] 47)).grown x3 (fun e => row_ne (row_later r1 hB2) (h4.later (hB1.trans hB2)) (by decide) e.symm); have p0 := kP.cell 0; have pf := kP.frozen 0; simp at p0))
      have hBa : B w (w2.alloc (.cells #[.slice A2 b.length c2] 47)) := (hB1.trans hB2).trans (B.alloc' _ _)
      have q1 := row_later (row_later r1 hB2) (B.alloc' w2 (.cells #[.slice A2 b.length c2] 47))
      have q2 := row_later r2 (B.alloc' w2 (.cells #[.slice A2 b.length c2] 47))
      have g1' : ∀ g, (Value.slice A1 M.length c1).ownBlock = some g → w.heap.size ≤ g := fun g hg => by
        rcases y1 with e | e
        · rw [e] at hg; simp [Value.ownBlock] at hg
        · rw [e] at hg; simp at hg; omega
      have s1 := hB1.size
      have s2 := hB2.size
      have g2' : ∀ g, (Value.slice A2 b.length c2).ownBlock = some g → w.heap.size ≤ g := fun g hg => by
        rcases y2 with e | e
        · rw [e] at hg; simp [Value.ownBlock] at hg
        · rw [e] at hg; simp at hg; omega
      have g3' : ∀ g, (Value.slice A3 (M.length + 1) c3).ownBlock = some g → w.heap.size ≤ g := fun g hg => by
        rcases y3 with e | e
        · rw [e] at hg; exact g1' g hg
        · rw [e] at hg; simp at hg; omega
      have hgx : Ext (fun g => some g = (Value.slice A1 M.length c1).ownBlock) (w2.alloc (.cells #[.slice A2 b.length c2] 47)) w3 := (Ext.refl _ _).grown x3 (fun g e _ => e.symm)
      have hsx : Ext (fun g => g = p) w3 (w3.setCell ⟨p, 0, none⟩ (.slice A3 (M.length + 1) c3)) := (Ext.refl (fun g => g = p) w3).set (p := ⟨p, 0, none⟩) (fun _ => rfl) _
      have f4 := kP.set_ 0 (.slice A3 (M.length + 1) c3)
      have f6 := row_ext r3 hsx (fun g hg e => row_ne r3 kP (by decide) (by rw [hg, e]))
      have f7 := ((h7.later hBa).ext hgx (fun g cs _ hB' e => row_ne q1 hB' (by decide) e.symm)).ext hsx (fun g cs _ hB' e => by subst e; exact Blk.ne hB' kP (by decide) rfl)
      have q3 := row_ext q2 hgx (fun g hg e => row_row q1 q2 (by decide) e.symm hg)
      have f8 := row_ext q3 hsx (fun g hg e => row_ne q3 kP (by decide) (by rw [hg, e]))
      have hx : Ext own w (w3.setCell ⟨p, 0, none⟩ (.slice A3 (M.length + 1) c3)) := ((Ext.of_B hBa).grown x3 (fun g e hlt => by have := g1' g e; omega)).set (p := ⟨p, 0, none⟩) (fun _ => h1) _
      clear c0 p0 pf
      go_wp2
      go_ret
      refine ⟨retI E1.out, ?_, hx⟩
      rw [← E2.out]
      exact ⟨.slice A3 (M.length + 1) c3, vs ++ [.slice A2 b.length c2], .inl h1, fun g hg => .inr (g3' g hg), by simpa using f4, by simpa using f6, (f7.mono (fun _ => .inl)).snoc f8 hb.len (fun g hg => .inr (g2' g hg))⟩
end Go.Proofs.Ythgpkbhilkdckaa

/- Open, SameAll, Plain of the two tables. -/
namespace Go.Proofs.Ythgpkbhilkdckaa
open Go.RowKit
set_option linter.unusedVariables false

theorem TableAt.lss {own : Nat → Prop} {w : World} {p : Nat} {M : List (List UInt8)} (h : TableAt own w p M) : ∃ v, w.cell? ⟨p, 0, none⟩ = some v ∧ Lss own w v M := by
  obtain ⟨m, v, vs, h1, h2, h3, h4, h5, h6, h7⟩ := h
  exact ⟨v, by rw [h4.cell]; rfl, Lss.of_own h6 h7 h3⟩

/-- which bytes a number opens -/
def opB (M : List (List UInt8)) (d : Int) : Bool := decide (1 ≤ d) && decide (d ≤ M.length)
def opV (M : List (List UInt8)) (d : Int) : List UInt8 := if opB M d then M.getD (d - 1).toNat [] else []
def OpenPost (w : World) (M : List (List UInt8)) (d : Int) (e : Ending) (w' : World) : Prop :=
  ∃ v', e = .returned (.tuple #[v', .bool (opB M d)]) ∧ w'.ownsRow w.heap.size 5 1 v' (opV M d).length (cellsB (opV M d)) ∧ (opV M d).length ≤ big ∧ B w w'
theorem op_no {M : List (List UInt8)} {d : Int} (h : d < 1 ∨ (M.length : Int) < d) : opB M d = false ∧ opV M d = [] := by
  have : opB M d = false := by unfold opB; simp; omega
  exact ⟨this, by unfold opV; rw [this]; rfl⟩
theorem op_yes {M : List (List UInt8)} {d : Int} (h1 : 1 ≤ d) (h2 : d ≤ M.length) (x : List UInt8) (hx : M[(d - 1).toNat]? = some x) : opB M d = true ∧ opV M d = x := by
  have : opB M d = true := by unfold opB; simp; omega
  exact ⟨this, by unfold opV; rw [this, List.getD_eq_getElem?_getD, hx]; rfl⟩
theorem OpenPost.no {w : World} {M : List (List UInt8)} {d : Int} (h : d < 1 ∨ (M.length : Int) < d) : OpenPost w M d (.returned (.tuple #[.slice none 0 0, .bool false])) w := by
  obtain ⟨h1, h2⟩ := op_no h
  exact ⟨_, by rw [h1], by rw [h2]; exact ownNil _ _ _ _, by rw [h2]; simp [big], Below.refl _ _⟩

set_option maxRecDepth 4000 in
set_option maxHeartbeats 1000000 in
theorem open64 {own : Nat → Prop} {w : World} {p : Nat} {M : List (List UInt8)} (h : TableAt own w p M) (hlen : M.length ≤ 9223372036854775806) (d : Int) (hd : -9223372036854775808 ≤ d ∧ d ≤ 9223372036854775807) :
    Calls Try.prog 64 #[.pointer (some ⟨p, 0, none⟩), .int .i64 d] w (OpenPost w M d) := by
  obtain ⟨u, c0, hL⟩ := h.lss
  obtain ⟨A, cap, rfl, hn, hc, hm, hr⟩ := hL
  obtain ⟨hd1, hd2⟩ := hd
  by_cases h1 : d < 1
  · have E := Lib.hid (OpenPost.no (w := w) (M := M) (.inl h1))
    clear hr hn hc hm
    go_enter Try.func64, Try.ntmps64
    go_wp2_with (first | (go_at_call 113; refine (tnone113 h).mono ?_; rintro e wn ⟨rfl, rfl⟩))
    go_ret2
    exact E.out
  · by_cases h2 : (M.length : Int) < d
    · have E := Lib.hid (OpenPost.no (w := w) (M := M) (.inr h2))
      clear hr hn hc hm
      go_enter Try.func64, Try.ntmps64
      go_wp2_with (first | (go_at_call 113; refine (tnone113 h).mono ?_; rintro e wn ⟨rfl, rfl⟩))
      go_ret2
      exact E.out
    · obtain ⟨k, hk⟩ := Int.eq_ofNat_of_zero_le (show 0 ≤ d - 1 by omega)
      obtain rfl : d = (k : Int) + 1 := by omega
      have hkl : k < M.length := by omega
      obtain ⟨b, off, rfl, hb, _, hx⟩ := hr (by omega)
      obtain ⟨u, k1, k2, _⟩ := hx k _ (List.getElem?_eq_getElem hkl)
      have hO := op_yes (M := M) (d := (k : Int) + 1) (by omega) (by omega) _ (show M[((k : Int) + 1 - 1).toNat]? = some M[k] by rw [show ((k : Int) + 1 - 1).toNat = k by omega]; exact List.getElem?_eq_getElem hkl)
      have HO := Lib.hid hO
      have hki : (k : Int) < M.length := by omega
      generalize M[k] = x at *
      have d3 : wrap64 (k : Int) = k := by unfold wrap64; omega
      have d4 : (0:Int) ≤ k := by omega
      have d1 : decide ((k : Int) + 1 < 1) = false := by simp; omega
      have d2 : decide ((M.length : Int) < (k : Int) + 1) = false := by simp; omega
      have H := Lib.hid h
      clear hr hx hO hn hc hm hk h1 h2 hd1 hd2 h hb hlen
      go_enter Try.func64, Try.ntmps64
      go_wp2_with (first | (go_at_call 113; refine (tnone113 H.out).mono ?_; rintro e wn ⟨rfl, rfl⟩) | (go_at_call 89; refine (clone89 k2).mono ?_; rintro e wn ⟨v', rfl, ho, hb'⟩))
      go_ret2
      exact ⟨v', by rw [HO.out.1]; rfl, by rw [HO.out.2]; exact ho, by rw [HO.out.2]; exact k2.len, hb'⟩
set_option maxHeartbeats 1000000 in
theorem open65 {own : Nat → Prop} {w : World} {p : Nat} {M : List (List UInt8)} (h : RefT own w p M) (hlen : M.length ≤ 9223372036854775806) (d : Int) (hd : -9223372036854775808 ≤ d ∧ d ≤ 9223372036854775807) :
    Calls Try.prog 65 #[.pointer (some ⟨p, 0, none⟩), .int .i64 d] w (OpenPost w M d) := by
  obtain ⟨u, c0, hL⟩ := h.lss
  obtain ⟨A, cap, rfl, hn, hc, hm, hr⟩ := hL
  obtain ⟨hd1, hd2⟩ := hd
  by_cases h1 : d < 1
  · have E := Lib.hid (OpenPost.no (w := w) (M := M) (.inl h1))
    clear hr hn hc hm h
    go_enter Try.func65, Try.ntmps65
    go_wp2
    go_ret2
    exact E.out
  · by_cases h2 : (M.length : Int) < d
    · have E := Lib.hid (OpenPost.no (w := w) (M := M) (.inr h2))
      clear hr hn hc hm h
      go_enter Try.func65, Try.ntmps65
      go_wp2
      go_ret2
      exact E.out
    · obtain ⟨k, hk⟩ := Int.eq_ofNat_of_zero_le (show 0 ≤ d - 1 by omega)
      obtain rfl : d = (k : Int) + 1 := by omega
      have hkl : k < M.length := by omega
      obtain ⟨b, off, rfl, hb, _, hx⟩ := hr (by omega)
      obtain ⟨u, k1, k2, _⟩ := hx k _ (List.getElem?_eq_getElem hkl)
      have hO := op_yes (M := M) (d := (k : Int) + 1) (by omega) (by omega) _ (show M[((k : Int) + 1 - 1).toNat]? = some M[k] by rw [show ((k : Int) + 1 - 1).toNat = k by omega]; exact List.getElem?_eq_getElem hkl)
      have HO := Lib.hid hO
      have hki : (k : Int) < M.length := by omega
      generalize M[k] = x at *
      have g3 : 0 + x.length ≤ maxLen := by have := k2.len; unfold big at this; unfold maxLen; omega
      have g4 : (0 + x.length) * 1 ≤ 140737488355328 := by have := k2.len; unfold big at this; omega
      clear hr hx hO hn hc hm hk h
      go_enter Try.func65, Try.ntmps65
      go_wp2_with (first | (refine wpList_append_Rd (v := .slice none 0 0) (base := w.heap.size) rfl (.const (.slice none 0 0)) (.tmp 24) 47 rfl Try.underlying47 info5 rfl Nat.zero_lt_one rfl rfl (ownNil _ _ 5 1) k2.rd (cellsB_one x) g3 g4 (Nat.le_refl _) ?_; intro A2 c2 w2 r2 x2 y2; simp only [Nat.zero_add, List.nil_append] at r2 y2; have hB2 : B w w2 := B.grown (Below.refl _ _) x2 (fun k hk => by simp [Value.ownBlock] at hk)))
      go_ret2
      exact ⟨_, by rw [HO.out.1]; rfl, by rw [HO.out.2]; exact r2, by rw [HO.out.2]; exact k2.len, hB2⟩

set_option maxHeartbeats 1000000 in
theorem sameAll50 {inn inn' : Nat → Prop} {w : World} {v u : Value} {s t : List (List UInt8)} (h : Lss inn w v s) (k : Lss inn' w u t) : Calls Try.prog 50 #[v, u] w fun e w' => e = .returned (.bool (decide (s = t))) ∧ B w w' := by
  obtain ⟨A, c, rfl, _, hc1, hm1, hr⟩ := h
  obtain ⟨A', c', rfl, _, _, _, hr'⟩ := k
  have HR := Lib.hid hr
  have HR' := Lib.hid hr'
  have hs : s.length ≤ 9223372036854775807 := by unfold maxLen at hm1; omega
  clear hr hr' hc1 hm1
  by_cases hl : s.length = t.length
  · have q1 : ((s.length : Int) != (t.length : Int)) = false := by simp; omega
    rw [← hl]
    have HL := Lib.hid hl
    clear hl
    go_enter Try.func50, Try.ntmps50
    go_wp2_with fail
    go_loopw [5] (fun i wr => ∃ q : Nat, q ≤ s.length ∧ i = .int .i64 q ∧ (∀ j, j < q → s[j]? = t[j]?) ∧ B w wr) (fun i _ => s.length - (intOf i).toNat)
    case atStart => exact ⟨0, Nat.zero_le _, rfl, fun j h => by omega, Below.refl _ _⟩
    case round =>
      obtain ⟨q, hq, rfl, hp, hB⟩ := hrel
      have HP := Lib.hid hp
      clear hp
      by_cases hlt : q < s.length
      · obtain ⟨b, off, rfl, hb, _, hc⟩ := HR.out (by omega)
        obtain ⟨b', off', rfl, hb', _, hc'⟩ := HR'.out (by have := HL.out; omega)
        have hq' : q < t.length := by have := HL.out; omega
        obtain ⟨u1, k1, k2, _⟩ := hc q _ (List.getElem?_eq_getElem hlt)
        obtain ⟨u2, k3, k4, _⟩ := hc' q _ (List.getElem?_eq_getElem hq')
        have k1 := hB.cell k1
        have k3 := hB.cell k3
        have k2 := k2.later hB
        have k4 := k4.later hB
        have HS := Lib.hid (List.getElem?_eq_getElem hlt)
        have HT := Lib.hid (List.getElem?_eq_getElem hq')
        have hqi : (q : Int) < s.length := by omega
        generalize s[q] = x at *
        generalize t[q] = y at *
        clear hc hc' hq'
        have HSM := Lib.hid (same112 (w := wr.drew) (k2.later (Below.refl _ _).drew) (k4.later (Below.refl _ _).drew))
        by_cases e1 : x = y
        · have g1 : (x == y) = true := by simpa using e1
          have E := Lib.hid e1
          clear e1
          go_wp2_with fail
          go_region_with (go_at_call 112; refine HSM.out.mono ?_; rintro e wn ⟨rfl, rfl⟩; simp only [g1])
          all_goals (
            go_wp2_with fail
            go_roundw
            case rel => exact ⟨q + 1, by omega, by go_num, fun j hj => by
              by_cases e : j = q
              · rw [e, HS.out, HT.out, E.out]
              · exact HP.out j (by omega), hB.trans (Below.refl _ _).drew⟩
            case measure => simp [intOf]; omega)
        · have g1 : (x == y) = false := by simpa using e1
          have E := Lib.hid (show decide (s = t) = false from decide_eq_false (fun e => e1 (by have h1 := HS.out; rw [e, HT.out] at h1; injection h1 with h1; rw [h1])))
          clear e1
          go_wp2_with fail
          go_region_with (go_at_call 112; refine HSM.out.mono ?_; rintro e wn ⟨rfl, rfl⟩; simp only [g1])
          all_goals (
            go_wp2_with fail
            go_ret
            exact ⟨retB E.out.symm, hB.trans (Below.refl _ _).drew⟩)
      · have E := Lib.hid (show decide (s = t) = true from decide_eq_true (List.ext_getElem? fun j => by
          by_cases hj : j < q
          · exact HP.out j hj
          · rw [List.getElem?_eq_none (by omega), List.getElem?_eq_none (by have := HL.out; omega)]))
        have hqi : ¬ (q : Int) < s.length := by omega
        go_wp2_with fail
        go_ret
        exact ⟨retB E.out.symm, hB⟩
  · have q1 : ((s.length : Int) != (t.length : Int)) = true := by simp; omega
    have E := Lib.hid (show decide (s = t) = false from decide_eq_false (fun e => hl (by rw [e])))
    clear hl
    go_enter Try.func50, Try.ntmps50
    go_wp2
    go_ret
    exact ⟨retB E.out.symm, Below.refl _ _⟩
end Go.Proofs.Ythgpkbhilkdckaa

/- From of the two tables. -/
namespace Go.Proofs.Ythgpkbhilkdckaa
open Go.RowKit
set_option linter.unusedVariables false

/-- the code From answers -/
def fromC (L : List (List UInt8)) : Int := if 1048576 < L.length then 3 else if L.Nodup then 0 else 5
def FromPost (TA : (Nat → Prop) → World → Nat → List (List UInt8) → Prop) (w : World) (L : List (List UInt8)) (e : Ending) (w' : World) : Prop :=
  B w w' ∧ ((fromC L = 0 ∧ ∃ p, e = .returned (.tuple #[.pointer (some ⟨p, 0, none⟩), .int .i64 0]) ∧ TA (fun x => w.heap.size ≤ x) w' p L) ∨ (fromC L ≠ 0 ∧ e = .returned (.tuple #[.pointer none, .int .i64 (fromC L)])))
theorem B_of_ext {own : Nat → Prop} {w0 w w' : World} (h : B w0 w) (hx : Ext own w w') (ho : ∀ x, own x → w0.heap.size ≤ x) : B w0 w' :=
  h.trans' hx (fun x hx h => by have := ho x h; omega)
theorem fromC_dup {L : List (List UInt8)} {q : Nat} {x : List UInt8} (hl : L.length ≤ 1048576) (hx : L[q]? = some x) (hm : x ∈ L.take q) : fromC L = 5 := by
  unfold fromC
  rw [if_neg (by omega), if_neg]
  intro hn
  obtain ⟨j, hj, e⟩ := List.mem_iff_getElem.1 hm
  have hj' : j < q ∧ j < L.length := by simp at hj; omega
  have hq : q < L.length := by
    rcases Nat.lt_or_ge q L.length with h | h
    · exact h
    · rw [List.getElem?_eq_none h] at hx; cases hx
  have e2 : L[q] = x := by rw [List.getElem?_eq_getElem hq] at hx; simpa using hx
  have e1 : L[j] = x := by rw [← e]; simp
  have := (List.getElem_inj hn).1 (e1.trans e2.symm)
  omega
theorem nodup_snoc {L : List (List UInt8)} {q : Nat} {x : List UInt8} (hx : L[q]? = some x) (hm : x ∉ L.take q) (h : (L.take q).Nodup) : (L.take (q + 1)).Nodup := by
  rw [List.take_add_one, hx]
  simp only [Option.toList]
  rw [List.nodup_append]
  exact ⟨h, by simp, fun a ha b hb => by simp at hb; subst hb; exact fun e => hm (e ▸ ha)⟩
theorem fromC_all {L : List (List UInt8)} {q : Nat} (hl : L.length ≤ 1048576) (hq : ¬ q < L.length) (h : (L.take q).Nodup) : fromC L = 0 ∧ L.take q = L := by
  rw [List.take_of_length_le (by omega)] at *
  unfold fromC
  rw [if_neg (by omega), if_pos h]
  exact ⟨rfl, rfl⟩
theorem lkB_true {M : List (List UInt8)} {b : List UInt8} (h : b ∈ M) : lkB M b = true := by rw [lkB_iff]; simpa using h
theorem lkB_false {M : List (List UInt8)} {b : List UInt8} (h : b ∉ M) : lkB M b = false := by rw [lkB_iff]; simpa using h
theorem sumM_new {L : List (List UInt8)} {q : Nat} {x : List UInt8} (hl : L.length ≤ 1048576) (hx : L[q]? = some x) (hm : x ∉ L.take q) : sumM (L.take q) x = L.take (q + 1) := by
  have hq : q < L.length := by
    rcases Nat.lt_or_ge q L.length with h | h
    · exact h
    · rw [List.getElem?_eq_none h] at hx; cases hx
  unfold sumM
  rw [if_neg hm, if_neg (by simp; omega), List.take_add_one, hx]
  rfl

set_option maxRecDepth 20000 in
set_option maxHeartbeats 1000000 in
theorem from48 {inn : Nat → Prop} {w : World} {v : Value} {L : List (List UInt8)} (h : Lss inn w v L) : Calls Try.prog 48 #[v] w (FromPost TableAt w L) := by
  obtain ⟨A, c, rfl, _, hc1, hm1, hr⟩ := h
  have HR := Lib.hid hr
  have hs : (L.length : Int) ≤ 9223372036854775807 := by unfold maxLen at hm1; omega
  clear hr hc1 hm1
  by_cases hl : 1048576 < L.length
  · have E := Lib.hid (show FromPost TableAt w L (.returned (.tuple #[.pointer none, .int .i64 3])) w from ⟨Below.refl _ _, .inr (by unfold fromC; rw [if_pos hl]; exact ⟨by decide, rfl⟩)⟩)
    have hd : decide ((1048576 : Int) < (L.length : Int)) = true := decide_eq_true (by omega)
    clear hl
    go_enter Try.func48, Try.ntmps48
    go_wp2
    go_ret2
    exact E.out
  · have hd : decide ((1048576 : Int) < (L.length : Int)) = false := decide_eq_false (by omega)
    have HL := Lib.hid (show L.length ≤ 1048576 by omega)
    clear hl
    go_enter Try.func48, Try.ntmps48
    go_wp2_with (first | (go_at_call 61; refine (newTable61 w).mono ?_; rintro e w1 ⟨rfl, hw1⟩; have T1 := (TableAt.new w).mono (own' := fun x => w.heap.size ≤ x) (fun b hb => by omega); have B1 : B w ((w.alloc (.map #[] 0)).alloc (.cells #[.slice none 0 0, .map (some w.heap.size)] 105)) := (B.alloc' _ _).trans (B.alloc' _ _); rw [← hw1] at T1 B1; clear hw1))
    generalize w.heap.size + 1 = p at *
    go_loopw [15] (fun i wr => ∃ q : Nat, q ≤ L.length ∧ i = .int .i64 q ∧ (L.take q).Nodup ∧ TableAt (fun x => w.heap.size ≤ x) wr p (L.take q) ∧ B w wr) (fun i _ => L.length - (intOf i).toNat)
    case atStart => exact ⟨0, Nat.zero_le _, rfl, by simp, by simpa using T1, B1⟩
    case round =>
      obtain ⟨q, hq, rfl, hnd, hT, hB⟩ := hrel
      have HN := Lib.hid hnd
      have HT := Lib.hid hT
      clear hnd hT T1 B1
      by_cases hlt : q < L.length
      · obtain ⟨b, off, rfl, hb, _, hc⟩ := HR.out (by omega)
        obtain ⟨u1, k1, k2, k3⟩ := hc q _ (List.getElem?_eq_getElem hlt)
        have k1 := hB.cell k1
        have K2 := Lib.hid k2
        have K3 := Lib.hid k3
        have k4 := k2.later hB
        have HS := Lib.hid (List.getElem?_eq_getElem hlt)
        have hqi : (q : Int) < L.length := by omega
        generalize L[q] = x at *
        clear hc k2 k3
        have hvo := Lib.hid (show ∀ g, u1.ownBlock = some g → x ≠ [] → ¬ w.heap.size ≤ g from fun g hg hne h => by have := K2.out.lt hne hg; omega)
        by_cases e1 : x ∈ L.take q
        · have g1 := lkB_true e1
          have E := Lib.hid (fromC_dup HL.out HS.out e1)
          clear e1
          go_wp2_with (first | (go_at_call 66; refine (look66 HT.out k4).mono ?_; rintro e wn ⟨rfl, hbn⟩; simp only [g1]))
          go_ret2
          exact ⟨hB.trans hbn, .inr ⟨by rw [E.out]; decide, by rw [E.out]; rfl⟩⟩
        · have g1 := lkB_false e1
          have E := Lib.hid (sumM_new HL.out HS.out e1)
          have E2 := Lib.hid (nodup_snoc HS.out e1 HN.out)
          clear e1
          go_wp2_with (first
            | (go_at_call 66; refine (look66 HT.out k4).mono ?_; rintro e wn ⟨rfl, hbn⟩; simp only [g1])
            | (go_at_call 52; refine (sum52 (HT.out.later hbn) (k4.later hbn) hvo.out).mono ?_; rintro e wm ⟨rfl, hTm, hxm⟩))
          rw [E.out] at hTm
          have hBm := B_of_ext (hB.trans hbn) hxm (fun x h => h)
          have hTm := hTm.mono (own' := fun x => w.heap.size ≤ x) (fun x h => by have := (hB.trans hbn).size; omega)
          go_roundw
          case rel => exact ⟨q + 1, by omega, by go_num, E2.out, hTm, hBm⟩
          case measure => simp [intOf]; omega
      · have E := Lib.hid (fromC_all HL.out hlt HN.out)
        have hT := HT.out
        rw [E.out.2] at hT
        have hqi : ¬ (q : Int) < L.length := by omega
        go_wp2_with fail
        go_ret2
        exact ⟨hB, .inl ⟨E.out.1, p, rfl, hT⟩⟩

set_option maxRecDepth 20000 in
set_option maxHeartbeats 2000000 in
theorem from49 {inn : Nat → Prop} {w : World} {v : Value} {L : List (List UInt8)} (h : Lss inn w v L) : Calls Try.prog 49 #[v] w (FromPost RefT w L) := by
  obtain ⟨A, c, rfl, _, hc1, hm1, hr⟩ := h
  have HR := Lib.hid hr
  have hs : (L.length : Int) ≤ 9223372036854775807 := by unfold maxLen at hm1; omega
  clear hr hc1 hm1
  by_cases hl : 1048576 < L.length
  · have E := Lib.hid (show FromPost RefT w L (.returned (.tuple #[.pointer none, .int .i64 3])) w from ⟨Below.refl _ _, .inr (by unfold fromC; rw [if_pos hl]; exact ⟨by decide, rfl⟩)⟩)
    have hd : decide ((1048576 : Int) < (L.length : Int)) = true := decide_eq_true (by omega)
    clear hl
    go_enter Try.func49, Try.ntmps49
    go_wp2
    go_ret2
    exact E.out
  · have hd : decide ((1048576 : Int) < (L.length : Int)) = false := decide_eq_false (by omega)
    have HL := Lib.hid (show L.length ≤ 1048576 by omega)
    clear hl
    have T1 := (RefT.new w).mono (own' := fun x => w.heap.size ≤ x) (fun b hb => by omega)
    have B1 : B w (w.alloc (.cells #[.slice none 0 0] 59)) := B.alloc' _ _
    go_enter Try.func49, Try.ntmps49
    go_wp2_with fail
    generalize w.alloc (.cells #[.slice none 0 0] 59) = w1 at *
    generalize hp0 : w.heap.size = p0 at *
    have HP0 := Lib.hid hp0
    clear hp0
    go_loopw [5] (fun i wr => ∃ q : Nat, q ≤ L.length ∧ i = .int .i64 q ∧ (L.take q).Nodup ∧ RefT (fun x => p0 ≤ x) wr p0 (L.take q) ∧ B w wr) (fun i _ => L.length - (intOf i).toNat)
    case atStart => exact ⟨0, Nat.zero_le _, rfl, by simp, by simpa using T1, B1⟩
    case round =>
      obtain ⟨q, hq, rfl, hnd, hT, hB⟩ := hrel
      have HN := Lib.hid hnd
      have HT := Lib.hid hT
      clear hnd hT T1 B1
      by_cases hlt : q < L.length
      · obtain ⟨b, off, rfl, hb, _, hc⟩ := HR.out (by omega)
        obtain ⟨u1, k1, k2, k3⟩ := hc q _ (List.getElem?_eq_getElem hlt)
        have k1 := hB.cell k1
        have k4 := k2.later hB
        have HS := Lib.hid (List.getElem?_eq_getElem hlt)
        have hqi : (q : Int) < L.length := by omega
        have hMl : (L.take q).length = q := by simp; omega
        have hMs : (L.take q).length < 1048576 := by have := HL.out; omega
        generalize L[q] = x at *
        clear hc k2 k3
        by_cases e1 : x ∈ L.take q
        · have g1 := lkB_true e1
          have E := Lib.hid (fromC_dup HL.out HS.out e1)
          have hLk := Lib.hid (rlook67 HT.out (by omega) k4)
          clear e1 hMl hMs
          go_wp2_with (first | (go_at_call 67; refine hLk.out.mono ?_; rintro e wn ⟨rfl, rfl⟩; simp only [g1]))
          go_ret2
          exact ⟨hB, .inr ⟨by rw [E.out]; decide, by rw [E.out]; rfl⟩⟩
        · have g1 := lkB_false e1
          have E := Lib.hid (show L.take q ++ [x] = L.take (q + 1) by rw [List.take_add_one, HS.out]; rfl)
          have E2 := Lib.hid (nodup_snoc HS.out e1 HN.out)
          have hLk := Lib.hid (rlook67 HT.out (by omega) k4)
          have hT := HT.out
          clear e1 HN HT HS
          generalize L.take q = M at *
          obtain ⟨v0, vs, m1, m3, m4, m6, m7⟩ := id hT
          obtain ⟨A0, cap, rfl⟩ := own_slice m6
          have l0 : ∀ w', B wr w' → w'.cell? ⟨p0, 0, none⟩ = some (.slice A0 M.length cap) := fun w' hb => by have := (m4.later hb).cell 0; simpa using this
          have c0 := l0 wr (Below.refl _ _)
          have hBd : B wr wr.drew := (Below.refl _ _).drew
          have G1 := Lib.hid hMs
          have g3 : 0 + x.length ≤ maxLen := by have := k4.len; unfold big at this; unfold maxLen; omega
          have g4 : (0 + x.length) * 1 ≤ 140737488355328 := by have := k4.len; unfold big at this; omega
          have g5 : M.length + 1 ≤ maxLen := by unfold maxLen; omega
          have g6 : (M.length + 1) * 24 ≤ 140737488355328 := by omega
          have ho2 : ∀ (A : Option Addr) (n c : Nat), ∀ x ∈ [Value.slice A n c], x.oneCell' = true := fun A n c => by simp [Value.oneCell']
          have hz : ∀ (g k : Nat), (Value.slice none 0 0).ownBlock = some k → g ≤ k := fun g k hk => by simp [Value.ownBlock] at hk
          have HM := Lib.hid hMl
          have hP : p0 < wr.heap.size := m4.lt
          clear hMl hMs
          go_wp2_with (first | (go_at_call 67; refine hLk.out.mono ?_; rintro e wn ⟨rfl, rfl⟩; simp only [g1]))
          go_region_law (first
            | (refine step_append_Rd (v := .slice none 0 0) (base := 0) rfl (.const (.slice none 0 0)) (.tmp 37) 47 rfl Try.underlying47 info5 rfl Nat.zero_lt_one rfl rfl (ownNil _ 0 5 1) (k4.later hBd).rd (cellsB_one x) g3 g4 (Nat.zero_le _) ?_; intro A2 c2 w2 r2 x2 y2; simp only [Nat.zero_add, List.nil_append] at r2 y2; have hB2 : B wr w2 := B.grown hBd x2 (hz _); have pa := l0 _ hB2; have pb := l0 _ (hB2.trans (B.alloc' _ (.cells #[.slice A2 x.length c2] 47))))
            | (refine step_append_Rd (v := .slice A0 M.length cap) rfl (.tmp 33) (.tmp 39) 46 rfl Try.underlying46 info47 rfl Nat.zero_lt_one rfl rfl (row_later m6 (hB2.trans (B.alloc' _ _))) (Rd.one _ _ _) (ho2 _ _ _) g5 g6 (Nat.zero_le _) ?_; intro A3 c3 w3 r3 x3 y3; have kP := ((m4.later hB2).alloc (.cells #[.slice A2 x.length c2] 47)).grown x3 (fun e => row_ne m6 m4 (by decide) e.symm); have p0' := kP.cell 0; have pf := kP.frozen 0; simp at p0'))
          all_goals
            have hBa : B wr (w2.alloc (.cells #[.slice A2 x.length c2] 47)) := hB2.trans (B.alloc' _ _)
            have q1 := row_later m6 hBa
            have q2 := row_later r2 (B.alloc' w2 (.cells #[.slice A2 x.length c2] 47))
            have g2' : ∀ g, (Value.slice A2 x.length c2).ownBlock = some g → p0 ≤ g := fun g hg => by
              rcases y2 with e | e
              · rw [e] at hg; simp [Value.ownBlock] at hg
              · rw [e] at hg; simp at hg; omega
            have s2 := hB2.size
            have g3' : ∀ g, (Value.slice A3 (M.length + 1) c3).ownBlock = some g → p0 ≤ g := fun g hg => by
              rcases y3 with e | e
              · rw [e] at hg; exact m3 g hg
              · rw [e] at hg; simp at hg; omega
            have hgx : Ext (fun g => some g = (Value.slice A0 M.length cap).ownBlock) (w2.alloc (.cells #[.slice A2 x.length c2] 47)) w3 := (Ext.refl _ _).grown x3 (fun g e _ => e.symm)
            have hsx : Ext (fun g => g = p0) w3 (w3.setCell ⟨p0, 0, none⟩ (.slice A3 (M.length + 1) c3)) := (Ext.refl (fun g => g = p0) w3).set (p := ⟨p0, 0, none⟩) (fun _ => rfl) _
            have f4 := kP.set_ 0 (.slice A3 (M.length + 1) c3)
            have f6 := row_ext r3 hsx (fun g hg e => row_ne r3 kP (by decide) (by rw [hg, e]))
            have f7 := ((m7.later hBa).ext hgx (fun g cs _ hB' e => row_ne q1 hB' (by decide) e.symm)).ext hsx (fun g cs _ hB' e => by subst e; exact Blk.ne hB' kP (by decide) rfl)
            have q3 := row_ext q2 hgx (fun g hg e => row_row q1 q2 (by decide) e.symm hg)
            have f8 := row_ext q3 hsx (fun g hg e => row_ne q3 kP (by decide) (by rw [hg, e]))
            have hx : Ext (fun x => p0 ≤ x) wr (w3.setCell ⟨p0, 0, none⟩ (.slice A3 (M.length + 1) c3)) := ((Ext.of_B hBa).grown x3 (fun g e _ => m3 g e)).set (p := ⟨p0, 0, none⟩) (fun _ => m1) _
            have hBf := B_of_ext hB hx (fun x h => by rw [HP0.out]; exact h)
            have hF : RefT (fun x => p0 ≤ x) (w3.setCell ⟨p0, 0, none⟩ (.slice A3 (M.length + 1) c3)) p0 (M ++ [x]) :=
              ⟨.slice A3 (M.length + 1) c3, vs ++ [.slice A2 x.length c2], m1, g3', by simpa using f4, by simpa using f6, f7.snoc f8 k4.len g2'⟩
            rw [E.out] at hF
            clear pa pb p0' pf c0 l0 g1 k1 hsx hgx hx
            go_wp2_with fail
            go_roundw
            case rel => exact ⟨q + 1, by omega, by go_num, E2.out, hF, hBf⟩
            case measure => simp [intOf]; omega
      · have E := Lib.hid (fromC_all HL.out hlt HN.out)
        have hT := HT.out
        rw [E.out.2] at hT
        have hqi : ¬ (q : Int) < L.length := by omega
        go_wp2_with fail
        go_ret2
        exact ⟨hB, .inl ⟨E.out.1, p0, rfl, by rw [HP0.out]; exact hT⟩⟩
end Go.Proofs.Ythgpkbhilkdckaa

/- Plain and Clone of package ideal's table. -/
namespace Go.Proofs.Ythgpkbhilkdckaa
open Go.RowKit
set_option linter.unusedVariables false

def PlainPost (w : World) (M : List (List UInt8)) (e : Ending) (w' : World) : Prop := ∃ v', e = .returned v' ∧ Lss (fun g => w.heap.size ≤ g) w' v' M ∧ B w w'
set_option maxRecDepth 20000 in
set_option maxHeartbeats 1000000 in
theorem plain51 {own : Nat → Prop} {w : World} {p : Nat} {M : List (List UInt8)} (h : TableAt own w p M) (hlen : M.length ≤ 1048576) : Calls Try.prog 51 #[.pointer (some ⟨p, 0, none⟩)] w (PlainPost w M) := by
  obtain ⟨u, c0, hL⟩ := h.lss
  obtain ⟨A, cap, rfl, hn, hc, hm, hr⟩ := hL
  have HR := Lib.hid hr
  have H := Lib.hid h
  have HL := Lib.hid hlen
  clear hr hn hc hm h hlen
  go_enter Try.func51, Try.ntmps51
  go_wp2_with (first | (go_at_call 113; refine (tnone113 H.out).mono ?_; rintro e wn ⟨rfl, rfl⟩))
  clear c0
  go_loopw [3, 14] (fun v i wr => ∃ (q : Nat) (vs : List Value), q ≤ M.length ∧ i = .int .i64 q ∧ wr.ownsRow w.heap.size 47 1 v q vs ∧ Els (fun g => w.heap.size ≤ g) wr vs (M.take q) ∧ B w wr) (fun _ i _ => M.length - (intOf i).toNat)
  case atStart => exact ⟨0, [], Nat.zero_le _, rfl, ownNil _ _ _ _, Els.nil _ _, Below.refl _ _⟩
  case round =>
    obtain ⟨q, vs, hq, rfl, ho, hE, hB⟩ := hrel
    by_cases hlt : q < M.length
    · obtain ⟨b, off, rfl, hb, _, hc⟩ := HR.out (by omega)
      obtain ⟨u1, k1, k2, _⟩ := hc q _ (List.getElem?_eq_getElem hlt)
      have k1 := hB.cell k1
      have k4 := k2.later hB
      have HS := Lib.hid (List.getElem?_eq_getElem hlt)
      have hqi : (q : Int) < M.length := by omega
      generalize M[q] = x at *
      have hMl : (M.take q).length = q := by simp; omega
      have E := Lib.hid (show M.take q ++ [x] = M.take (q + 1) by rw [List.take_add_one, HS.out]; rfl)
      have HM := Lib.hid hMl
      have g5 : q + 1 ≤ maxLen := by have := HL.out; unfold maxLen; omega
      have g6 : (q + 1) * 24 ≤ 140737488355328 := by have := HL.out; omega
      have ho2 : ∀ (A : Option Addr) (n c : Nat), ∀ x ∈ [Value.slice A n c], x.oneCell' = true := fun A n c => by simp [Value.oneCell']
      obtain ⟨A3, c3, rfl⟩ := own_slice ho
      have HO := Lib.hid ho
      have hBs := hB.size
      have hcl := Lib.hid (clone89 k4)
      have K4L := Lib.hid k4.len
      clear hc k2 hMl ho k4
      go_wp2_with (first
        | (go_at_call 89; refine hcl.out.mono ?_; rintro e w1 ⟨v1, rfl, r1, hb1⟩; obtain ⟨A1, c1, rfl⟩ := own_slice r1; have hb1s := hb1.size; have hq1 := row_later HO.out (hb1.trans (B.alloc' _ (.cells #[.slice A1 x.length c1] 47))))
        | (refine wpList_append_Rd (v := .slice A3 q c3) rfl (.tmp 18) (.tmp 21) 46 rfl Try.underlying46 info47 rfl Nat.zero_lt_one rfl rfl hq1 (Rd.one _ _ _) (ho2 _ _ _) g5 g6 (Nat.le_trans hBs (Nat.le_trans hb1s (B.alloc' _ _).size)) ?_; intro A4 c4 w4 r4 x4 y4))
      have hBa := hb1.trans (B.alloc' w1 (.cells #[.slice A1 x.length c1] 47))
      have hgx : Ext (fun g => some g = (Value.slice A3 q c3).ownBlock) (w1.alloc (.cells #[.slice A1 x.length c1] 47)) w4 := (Ext.refl _ _).grown x4 (fun g e _ => e.symm)
      have hB4 : B w w4 := B.grown (hB.trans hBa) x4 (fun k hk => row_ge HO.out hk)
      have f7 := (hE.later hBa).ext hgx (fun g cs _ hB' e => row_ne hq1 hB' (by decide) e.symm)
      have q2 := row_later r1 (B.alloc' w1 (.cells #[.slice A1 x.length c1] 47))
      have q3 := row_ext q2 hgx (fun g hg e => row_row hq1 q2 (by decide) e.symm hg)
      have f8 := f7.snoc (row_base q3 (Nat.zero_le _)) K4L.out (fun g hg => by have := row_ge q2 hg; omega)
      rw [E.out] at f8
      clear k1 hE hq1 q2 q3 f7 hgx x4 r1
      go_roundw
      case rel => exact ⟨q + 1, _, by omega, by go_num, r4, f8, hB4⟩
      case measure => simp [intOf]; omega
    · have hqi : ¬ (q : Int) < M.length := by omega
      have e1 : q = M.length := by omega
      subst e1
      rw [List.take_length] at hE
      have hz := Lss.of_own ho hE (fun g hg => row_ge ho hg)
      go_wp2_with fail
      go_ret
      exact ⟨_, rfl, hz, hB⟩

/-- what Clone gives back -/
def TCPost (w : World) (M : List (List UInt8)) (e : Ending) (w' : World) : Prop := ∃ p, e = .returned (.pointer (some ⟨p, 0, none⟩)) ∧ TableAt (fun x => w.heap.size ≤ x) w' p M ∧ B w w'
theorem tclone62 {own : Nat → Prop} {w : World} {p : Nat} {M : List (List UInt8)} (h : TableAt own w p M) (hM : fromC M = 0) : Calls Try.prog 62 #[.pointer (some ⟨p, 0, none⟩)] w (TCPost w M) := by
  obtain ⟨u, c0, hL⟩ := h.lss
  have HF := Lib.hid (show Calls Try.prog 48 #[u] w (fun e w' => ∃ p', e = .returned (.tuple #[.pointer (some ⟨p', 0, none⟩), .int .i64 0]) ∧ TableAt (fun x => w.heap.size ≤ x) w' p' M ∧ B w w') from (from48 hL).mono fun e w' ⟨hb, hc⟩ => by
    rcases hc with ⟨_, p', he, hT⟩ | ⟨hn, _⟩
    · exact ⟨p', he, hT, hb⟩
    · exact absurd hM hn)
  clear hL hM
  go_enter Try.func62, Try.ntmps62
  go_wp2_with (first | (go_at_call 113; refine (tnone113 h).mono ?_; rintro e wn ⟨rfl, rfl⟩) | (go_at_call 48; refine HF.out.mono ?_; rintro e wn ⟨p', rfl, hT, hb⟩))
  go_ret
  exact ⟨p', rfl, hT, hb⟩
end Go.Proofs.Ythgpkbhilkdckaa

/- Arguments opened: []byte, [][]byte. No program here. -/
namespace Go.Proofs.Ythgpkbhilkdckaa
open Go.ChangeShapes Go.WideShapes Go.ChangeAt Go.RowKit Go.Deep
set_option linter.unusedVariables false

theorem weights_all {H : Type} {P : Program} {e : TypeId} {elems : List (DataW H)} {i : Nat} {d : DataW H} (h : elems[i]? = some d) {x : Nat} (hx : x ∈ d.weights P e) : x ∈ DataW.weightsAll P e elems := by
  induction elems generalizing i with
  | nil => simp at h
  | cons y r ih =>
    rw [DataW.weightsAll, List.mem_append]
    cases i with
    | zero => simp at h; subst h; exact .inl hx
    | succ i => exact .inr (ih (by simpa using h))
section
variable {H : Type} {enc : TypeId × Value → H} {P : Program} {w : World} {base : Nat} {held : Bool} {spare : Nat → Bool}
theorem bs_of_sized {fuel : Nat} {t e : TypeId} {c : Value} {x : DataW H × List MemPlace} (ht : P.underlying t = some (.slice e)) (he : P.underlying e = some (.int .u8)) (hC : P.cellsOf e = 1) (h1 : P.bytesOf e = 1)
    (h : DataW.trod enc P w base spare held fuel t [c] = some x) (hw : ∀ n ∈ x.1.weights P t, n ≤ reachBytes) : ∃ bs, Bs w c bs := by
  refine bs_of_trod ht he hC h (fun len cap a hc => ?_)
  subst hc
  rcases open_slice ht h with ⟨h2, h3⟩ | ⟨a, len, cap, m, n, D, Pl, hcs, hb, hl, hm, hmm, rfl, hi⟩
  · simp at h2
    rw [h2.2.1]; simp [big]
  · simp at hcs
    obtain ⟨_, rfl, _⟩ := hcs
    have := hw ((len + (m - len)) * P.bytesOf e) (by simp [DataW.weights, ht])
    have hr := reachBytes_lt
    rw [h1] at this
    unfold big
    omega
theorem open_bs {r : Reach} {b0 : Nat} {t e : TypeId} {v : Value} {d : DataW H} {p : List MemPlace} (ht : P.underlying t = some (.slice e)) (he : P.underlying e = some (.int .u8)) (hC : P.cellsOf e = 1) (h1 : P.bytesOf e = 1)
    (hv : Value.okWide P w r b0 t v) (h : DataW.Trod enc P w base spare held t v d p) (hw : ∀ n ∈ d.weights P t, n ≤ reachBytes) : ∃ bs, Bs w v bs := by
  obtain ⟨A, len, cap, rfl⟩ := okWide_slice ht hv
  obtain ⟨fuel, hf⟩ := h
  simp only [Value.cells] at hf
  exact bs_of_sized ht he hC h1 hf hw
theorem open_bss {r : Reach} {b0 : Nat} {T t e : TypeId} {v : Value} {d : DataW H} {p : List MemPlace} (hT : P.underlying T = some (.slice t)) (ht : P.underlying t = some (.slice e)) (he : P.underlying e = some (.int .u8)) (hCt : P.cellsOf t = 1) (hC : P.cellsOf e = 1) (h1 : P.bytesOf e = 1)
    (hv : Value.okWide P w r b0 T v) (h : DataW.Trod enc P w base spare held T v d p) (hw : ∀ n ∈ d.weights P T, n ≤ reachBytes) : ∃ L, Lss (fun g => g < w.heap.size) w v L := by
  obtain ⟨A, len, cap, rfl⟩ := okWide_slice hT hv
  obtain ⟨fuel, hf⟩ := h
  rcases open_slice1 hT hCt hf with ⟨h2, h3⟩ | ⟨a, len', cap', m, n, V, D, Pl, hcs, hb, hl, hm, hmm, hx, hi⟩
  · simp [Value.cells] at h2
    obtain ⟨rfl, rfl, rfl⟩ := h2
    exact ⟨[], none, 0, rfl, fun _ => ⟨rfl, rfl⟩, Nat.le_refl _, by unfold maxLen; omega, fun h => by simp at h⟩
  · simp [Value.cells] at hcs
    obtain ⟨rfl, rfl, rfl⟩ := hcs
    have hlm : len ≤ m := by rw [hmm]; split <;> omega
    simp only [Prod.mk.injEq] at hx
    obtain ⟨L, hLl, hL⟩ := list_choose (P := fun i (x : List UInt8) => ∃ u, w.cell? (a.add i) = some u ∧ Bs w u x) len (fun i hil => by
      obtain ⟨hc, htr⟩ := hi i (by omega)
      obtain ⟨bs, hbs⟩ := bs_of_sized ht he hC h1 htr (fun k hk => hw k (by
        rw [hx.1]
        simp only [DataW.weights, hT, List.mem_cons, List.mem_append]
        exact .inr (.inl (weights_all (i := i) (by simp [hil]) hk))))
      exact ⟨bs, V i, hc, hbs⟩)
    refine ⟨L, some a, cap, by rw [hLl], fun h => (by cases h), by omega, hm, fun hn => ?_⟩
    obtain ⟨u0, z, _⟩ := hL 0 _ (List.getElem?_eq_getElem hn)
    have za : a = ⟨a.block, a.off, none⟩ := by
      have := cell_spot z
      simp [Addr.add] at this
      exact this
    have hblt := World.block_lt_of_cell? w _ z
    rw [block_of_add] at hblt
    refine ⟨a.block, a.off, by rw [← za], hblt, hblt, fun i x hx => ?_⟩
    obtain ⟨u, h1, h2⟩ := hL i x hx
    rw [za, addr_add] at h1
    exact ⟨u, h1, h2, fun g hg hne => h2.lt hne hg⟩
end
end Go.Proofs.Ythgpkbhilkdckaa

/- The tables and ledgers as objects apart, and their methods' contracts over 'St'. -/
namespace Go.Proofs.Ythgpkbhilkdckaa
open Go.RowKit
set_option linter.unusedVariables false

theorem Lss.bound {own : Nat → Prop} {w : World} {v : Value} {L : List (List UInt8)} (h : Lss own w v L) : Lss (fun x => own x ∧ x < w.heap.size) w v L := by
  obtain ⟨A, cap, rfl, hn, hc, hm, hr⟩ := h
  refine ⟨A, cap, rfl, hn, hc, hm, fun h0 => ?_⟩
  obtain ⟨b, off, rfl, hb1, hi, hx⟩ := hr h0
  refine ⟨b, off, rfl, hb1, ⟨hi, hb1⟩, fun i x hix => ?_⟩
  obtain ⟨u, h1, h2, h3⟩ := hx i x hix
  exact ⟨u, h1, h2, fun g hg hne => ⟨h3 g hg hne, h2.lt hne hg⟩⟩
def aTab (p : Nat) (M : List (List UInt8)) : Asn := ⟨fun own w => TableAt own w p M, fun h hx hd => h.ext hx hd, fun h => h.bound⟩
def aRef (p : Nat) (M : List (List UInt8)) : Asn := ⟨fun own w => RefT own w p M, fun h hx hd => h.ext hx hd, fun h => h.bound⟩
def aLss (v : Value) (M : List (List UInt8)) : Asn := ⟨fun own w => Lss own w v M, fun h hx hd => h.ext hx hd, fun h => h.bound⟩
section
variable {W w : World} {p : Nat} {M : List (List UInt8)} {L : List Asn} {v : Value} {b : List UInt8}
theorem St.sum52 (h : St W w (aTab p M :: L)) (hb : Bs w v b) (hv : ∀ g, v.ownBlock = some g → b ≠ [] → g < W.heap.size) :
    Calls Try.prog 52 #[.pointer (some ⟨p, 0, none⟩), v] w fun e w' => e = .returned (.int .i64 (sumN M b)) ∧ St W w' (aTab p (sumM M b) :: L) := by
  obtain ⟨own, ht, ho, hback⟩ := h.focus
  exact (Go.Proofs.Ythgpkbhilkdckaa.sum52 ht hb (fun g hg hne e => by have := hv g hg hne; have := (ho g e).1; omega)).mono fun e w' ⟨he, hT, hx⟩ => ⟨he, hback w' (aTab p _) hx hT⟩
/-- what is summed is an object itself -/
theorem St.sum52' (h : St W w (aTab p M :: aBs v b :: L)) :
    Calls Try.prog 52 #[.pointer (some ⟨p, 0, none⟩), v] w fun e w' => e = .returned (.int .i64 (sumN M b)) ∧ St W w' (aTab p (sumM M b) :: aBs v b :: L) := by
  obtain ⟨own, o', ht, hv, ho, hd, hback⟩ := h.focus2
  exact (Go.Proofs.Ythgpkbhilkdckaa.sum52 ht hv.1 (fun g hg hne => hd g (hv.2 g hg hne))).mono fun e w' ⟨he, hT, hx⟩ => ⟨he, hback w' (aTab p _) hx hT⟩
theorem St.rsum53 (h : St W w (aRef p M :: L)) (hl : M.length ≤ 9223372036854775806) (hb : Bs w v b) :
    Calls Try.prog 53 #[.pointer (some ⟨p, 0, none⟩), v] w fun e w' => e = .returned (.int .i64 (sumN M b)) ∧ St W w' (aRef p (sumM M b) :: L) := by
  obtain ⟨own, ht, ho, hback⟩ := h.focus
  exact (Go.Proofs.Ythgpkbhilkdckaa.rsum53 ht hl hb).mono fun e w' ⟨he, hT, hx⟩ => ⟨he, hback w' (aRef p _) hx hT⟩
theorem St.newTable61 (h : St W w L) : Calls Try.prog 61 #[] w fun e w' => ∃ p, e = .returned (.pointer (some ⟨p, 0, none⟩)) ∧ St W w' (aTab p [] :: L) :=
  (Go.Proofs.Ythgpkbhilkdckaa.newTable61 w).mono fun e w' ⟨he, hw⟩ => ⟨_, he, by subst hw; exact h.add ((B.alloc' _ _).trans (B.alloc' _ _)) (A := aTab _ []) (own := fun b => b = w.heap.size ∨ b = w.heap.size + 1) (TableAt.new w) (fun x e => by omega)⟩
theorem St.tclone62 (h : St W w (aTab p M :: L)) (hM : fromC M = 0) : Calls Try.prog 62 #[.pointer (some ⟨p, 0, none⟩)] w fun e w' => ∃ p', e = .returned (.pointer (some ⟨p', 0, none⟩)) ∧ St W w' (aTab p' M :: aTab p M :: L) := by
  obtain ⟨own, ht, ho⟩ := h.get
  exact (Go.Proofs.Ythgpkbhilkdckaa.tclone62 ht hM).mono fun e w' ⟨p', he, hT, hb⟩ => ⟨p', he, h.add hb (A := aTab p' M) hT (fun x e => e)⟩
theorem St.begun24 (h : St W w L) : Calls Try.prog 24 #[] w fun e w' => e = .returned (.bool true) ∧ St W w' L :=
  (Go.Proofs.Ythgpkbhilkdckaa.begun24 w).mono fun e w' ⟨he, hb⟩ => ⟨he, h.later hb⟩
theorem St.len54 (h : St W w (aTab p M :: L)) : Calls Try.prog 54 #[.pointer (some ⟨p, 0, none⟩)] w fun e w' => e = .returned (.int .i64 (M.length : Int)) ∧ w = w' := by
  obtain ⟨own, ht, ho⟩ := h.get
  exact Go.Proofs.Ythgpkbhilkdckaa.len54 ht
end
end Go.Proofs.Ythgpkbhilkdckaa

/- IdealFrom: the law returns true for every list of byte strings and every byte string. -/
namespace Go.Proofs.Ythgpkbhilkdckaa
open Go.ChangeShapes Go.WideShapes Go.ChangeAt Go.RowKit Go.Deep
set_option linter.unusedVariables false

section
variable {W w : World} {p : Nat} {M : List (List UInt8)} {X : List Asn} {v u : Value} {b : List UInt8} {inn inn' : Nat → Prop}
theorem St.from48_ok (h : St W w X) (hv : Lss inn w v M) (h0 : fromC M = 0) :
    Calls Try.prog 48 #[v] w fun e w' => ∃ p, e = .returned (.tuple #[.pointer (some ⟨p, 0, none⟩), .int .i64 0]) ∧ St W w' (aTab p M :: X) :=
  (from48 hv).mono fun e w' ⟨hb, hc⟩ => by
    rcases hc with ⟨_, p, he, hT⟩ | ⟨hn, _⟩
    · exact ⟨p, he, h.add hb (A := aTab p M) hT (fun x e => e)⟩
    · exact absurd h0 hn
theorem St.from48_no (h : St W w X) (hv : Lss inn w v M) (h0 : fromC M ≠ 0) :
    Calls Try.prog 48 #[v] w fun e w' => e = .returned (.tuple #[.pointer none, .int .i64 (fromC M)]) ∧ St W w' X :=
  (from48 hv).mono fun e w' ⟨hb, hc⟩ => by
    rcases hc with ⟨hn, _⟩ | ⟨hn, he⟩
    · exact absurd hn h0
    · exact ⟨he, h.later hb⟩
theorem St.from49_ok (h : St W w X) (hv : Lss inn w v M) (h0 : fromC M = 0) :
    Calls Try.prog 49 #[v] w fun e w' => ∃ p, e = .returned (.tuple #[.pointer (some ⟨p, 0, none⟩), .int .i64 0]) ∧ St W w' (aRef p M :: X) :=
  (from49 hv).mono fun e w' ⟨hb, hc⟩ => by
    rcases hc with ⟨_, p, he, hT⟩ | ⟨hn, _⟩
    · exact ⟨p, he, h.add hb (A := aRef p M) hT (fun x e => e)⟩
    · exact absurd h0 hn
theorem St.from49_no (h : St W w X) (hv : Lss inn w v M) (h0 : fromC M ≠ 0) :
    Calls Try.prog 49 #[v] w fun e w' => e = .returned (.tuple #[.pointer none, .int .i64 (fromC M)]) ∧ St W w' X :=
  (from49 hv).mono fun e w' ⟨hb, hc⟩ => by
    rcases hc with ⟨hn, _⟩ | ⟨hn, he⟩
    · exact absurd hn h0
    · exact ⟨he, h.later hb⟩
theorem St.plain51 (h : St W w (aTab p M :: X)) (hlen : M.length ≤ 1048576) :
    Calls Try.prog 51 #[.pointer (some ⟨p, 0, none⟩)] w fun e w' => ∃ v, e = .returned v ∧ Lss (fun g => w.heap.size ≤ g) w' v M ∧ St W w' (aTab p M :: X) := by
  obtain ⟨own, ht, ho⟩ := h.get
  exact (Go.Proofs.Ythgpkbhilkdckaa.plain51 ht hlen).mono fun e w' ⟨v, he, hL, hb⟩ => ⟨v, he, hL, h.later hb⟩
theorem St.same50 (h : St W w X) (hv : Lss inn w v M) (hu : Lss inn' w u M) :
    Calls Try.prog 50 #[v, u] w fun e w' => e = .returned (.bool true) ∧ St W w' X :=
  (sameAll50 hv hu).mono fun e w' ⟨he, hb⟩ => ⟨by rw [he, decide_eq_true rfl], h.later hb⟩
theorem St.rcell (h : St W w (aRef p M :: X)) : ∃ A cap, w.cell? ⟨p, 0, none⟩ = some (.slice A M.length cap) := by
  obtain ⟨own, ht, ho⟩ := h.get
  obtain ⟨v, vs, h1, h3, h4, h6, h7⟩ := ht
  obtain ⟨A, c, e⟩ := own_slice h6
  exact ⟨A, c, by rw [h4.cell]; simp [e]⟩
end
theorem fromC_le {M : List (List UInt8)} (h : fromC M = 0) : M.length ≤ 1048576 ∧ M.Nodup := by
  unfold fromC at h
  split at h
  · simp at h
  · split at h
    · exact ⟨by omega, by assumption⟩
    · simp at h

theorem sz_at {H : Type} {P : Program} {ts : List TypeId} {ds : List (DataW H)} (h : (DataW.weightsEach P ts ds).all (· ≤ reachBytes) = true) {j : Nat} {t : TypeId} {d : DataW H} (ht : ts[j]? = some t) (hd : ds[j]? = some d) : ∀ n ∈ d.weights P t, n ≤ reachBytes := fun n hn => by
  have := List.all_eq_true.1 h n (DataW.weights_mem_each ht hd n hn)
  simpa using this
theorem B.drewN (w : World) (n : Nat) : B w (w.drewN n) := ⟨rfl, rfl, rfl, Nat.le_refl _, fun _ _ => rfl⟩
set_option maxRecDepth 20000 in
set_option maxHeartbeats 2000000 in
theorem idealFrom_no {W : World} {v u : Value} {L : List (List UInt8)} {b : List UInt8} (hv : Lss (fun g => g < W.heap.size) W v L) (hu : Bs W u b) (h0 : fromC L ≠ 0) :
    Calls Try.prog 7 #[v, u] W fun e w' => e = .returned (.bool true) ∧ B W w' := by
  have HV := Lib.hid hv
  have HU := Lib.hid hu
  have H0 := Lib.hid h0
  clear hv hu h0
  go_enter Try.func7, Try.ntmps7
  go_wp2_with (first
    | (go_at_call 48; refine (St.from48_no (St.nil W) HV.out H0.out).mono ?_; rintro e w1 ⟨rfl, hS⟩; have HS1 := Lib.hid hS; clear hS)
    | (go_at_call 49; refine (St.from49_no HS1.out (HV.out.later HS1.out.b) H0.out).mono ?_; rintro e w2 ⟨rfl, hS⟩; have HS2 := Lib.hid hS; clear hS)
    | (go_at_call 24; refine (St.begun24 HS2.out).mono ?_; rintro e w3 ⟨rfl, hS⟩; have HS3 := Lib.hid hS; clear hS))
  go_quiet (fail)
  go_wp2_with fail
  go_ret
  exact ⟨by simp, HS3.out.b.trans (B.drewN _ _)⟩
set_option maxRecDepth 20000 in
set_option maxHeartbeats 4000000 in
theorem idealFrom_ok {W : World} {v u : Value} {L : List (List UInt8)} {b : List UInt8} (hv : Lss (fun g => g < W.heap.size) W v L) (hu : Bs W u b) (h0 : fromC L = 0) :
    Calls Try.prog 7 #[v, u] W fun e w' => e = .returned (.bool true) ∧ B W w' := by
  have HV := Lib.hid hv
  have HU := Lib.hid hu
  have H0 := Lib.hid h0
  have HL := Lib.hid (fromC_le h0)
  clear hv hu h0
  go_enter Try.func7, Try.ntmps7
  go_wp2_with (first
    | (go_at_call 48; refine (St.from48_ok (St.nil W) HV.out H0.out).mono ?_; rintro e w1 ⟨p, rfl, hS⟩; have HS1 := Lib.hid hS; clear hS)
    | (go_at_call 49; refine (St.from49_ok HS1.out (HV.out.later HS1.out.b) H0.out).mono ?_; rintro e w2 ⟨p2, rfl, hS⟩; have HS2 := Lib.hid hS; clear hS)
    | (go_at_call 24; refine (St.begun24 HS2.out).mono ?_; rintro e w3 ⟨rfl, hS⟩; have HS3 := Lib.hid (hS.later (Below.refl _ _).drew); clear hS))
  go_region_with (first
    | (go_at_call 51; refine (St.plain51 HS3.out.swap HL.out.1).mono ?_; rintro e w4 ⟨v4, rfl, hv4, hS⟩; have HS4 := Lib.hid hS; have HV4 := Lib.hid hv4; clear hS hv4)
    | (go_at_call 50; refine (St.same50 HS4.out HV4.out (HV.out.later HS4.out.b)).mono ?_; rintro e w5 ⟨rfl, hS⟩; have HS5 := Lib.hid hS; clear hS)
    | (go_at_call 52; refine (St.sum52 HS5.out (HU.out.later HS5.out.b) (fun g hg hne => HU.out.lt hne hg)).mono ?_; rintro e w6 ⟨rfl, hS⟩; have HS6 := Lib.hid hS; clear hS)
    | (go_at_call 53; refine (St.rsum53 HS6.out.swap (by have := HL.out.1; omega) (HU.out.later HS6.out.b)).mono ?_; rintro e w7 ⟨rfl, hS⟩; have HS7 := Lib.hid hS; obtain ⟨A7, c7, hc7⟩ := hS.rcell; clear hS)
    | (go_at_call 54; refine (St.len54 HS7.out.swap).mono ?_; rintro e w8 ⟨rfl, rfl⟩))
  all_goals
    go_wp2_with fail
    go_ret
    exact ⟨by simp [Act.put], HS7.out.b⟩
theorem idealFrom_walk {W : World} {v u : Value} {L : List (List UInt8)} {b : List UInt8} (hv : Lss (fun g => g < W.heap.size) W v L) (hu : Bs W u b) :
    Calls Try.prog 7 #[v, u] W fun e w' => e = .returned (.bool true) ∧ B W w' := by
  by_cases h0 : fromC L = 0
  · exact idealFrom_ok hv hu h0
  · exact idealFrom_no hv hu h0
end Go.Proofs.Ythgpkbhilkdckaa

/- Arguments opened, with their lengths: []byte, [][]byte. No program here. -/
namespace Go.Proofs.Ythgpkbhilkdckaa
open Go.ChangeShapes Go.WideShapes Go.ChangeAt Go.RowKit Go.Deep
set_option linter.unusedVariables false

section
variable {H : Type} {enc : TypeId × Value → H} {P : Program} {w : World} {base : Nat} {held : Bool} {spare : Nat → Bool}
theorem bs_sized {fuel : Nat} {t e : TypeId} {c : Value} {x : DataW H × List MemPlace} (ht : P.underlying t = some (.slice e)) (he : P.underlying e = some (.int .u8)) (hC : P.cellsOf e = 1) (h1 : P.bytesOf e = 1)
    (h : DataW.trod enc P w base spare held fuel t [c] = some x) (hw : ∀ n ∈ x.1.weights P t, n ≤ reachBytes) : ∃ bs, Bs w c bs ∧ bs.length ≤ reachBytes := by
  obtain ⟨bs, hb⟩ := bs_of_sized ht he hC h1 h hw
  refine ⟨bs, hb, ?_⟩
  obtain ⟨⟨A, cap0, hv, _⟩, _⟩ := hb
  rcases open_slice ht h with ⟨h2, h3⟩ | ⟨a, len, cap, m, n, D, Pl, hcs, hb, hl, hm, hmm, rfl, hi⟩
  · subst hv
    simp at h2
    omega
  · subst hv
    simp at hcs
    obtain ⟨_, rfl, _⟩ := hcs
    have := hw ((bs.length + (m - bs.length)) * P.bytesOf e) (by simp [DataW.weights, ht])
    rw [h1] at this
    omega
theorem open_bs' {r : Reach} {b0 : Nat} {t e : TypeId} {v : Value} {d : DataW H} {p : List MemPlace} (ht : P.underlying t = some (.slice e)) (he : P.underlying e = some (.int .u8)) (hC : P.cellsOf e = 1) (h1 : P.bytesOf e = 1)
    (hv : Value.okWide P w r b0 t v) (h : DataW.Trod enc P w base spare held t v d p) (hw : ∀ n ∈ d.weights P t, n ≤ reachBytes) : ∃ bs, Bs w v bs ∧ bs.length ≤ reachBytes := by
  obtain ⟨A, len, cap, rfl⟩ := okWide_slice ht hv
  obtain ⟨fuel, hf⟩ := h
  simp only [Value.cells] at hf
  exact bs_sized ht he hC h1 hf hw
theorem open_bss' {r : Reach} {b0 : Nat} {T t e : TypeId} {v : Value} {d : DataW H} {p : List MemPlace} (hT : P.underlying T = some (.slice t)) (ht : P.underlying t = some (.slice e)) (he : P.underlying e = some (.int .u8)) (hCt : P.cellsOf t = 1) (hC : P.cellsOf e = 1) (h1 : P.bytesOf e = 1)
    (hv : Value.okWide P w r b0 T v) (h : DataW.Trod enc P w base spare held T v d p) (hw : ∀ n ∈ d.weights P T, n ≤ reachBytes) : ∃ L, Lss (fun g => g < w.heap.size) w v L ∧ ∀ x ∈ L, x.length ≤ reachBytes := by
  obtain ⟨A, len, cap, rfl⟩ := okWide_slice hT hv
  obtain ⟨fuel, hf⟩ := h
  rcases open_slice1 hT hCt hf with ⟨h2, h3⟩ | ⟨a, len', cap', m, n, V, D, Pl, hcs, hb, hl, hm, hmm, hx, hi⟩
  · simp [Value.cells] at h2
    obtain ⟨rfl, rfl, rfl⟩ := h2
    exact ⟨[], ⟨none, 0, rfl, fun _ => ⟨rfl, rfl⟩, Nat.le_refl _, by unfold maxLen; omega, fun h => by simp at h⟩, by simp⟩
  · simp [Value.cells] at hcs
    obtain ⟨rfl, rfl, rfl⟩ := hcs
    have hlm : len ≤ m := by rw [hmm]; split <;> omega
    simp only [Prod.mk.injEq] at hx
    obtain ⟨L, hLl, hL⟩ := list_choose (P := fun i (x : List UInt8) => (∃ u, w.cell? (a.add i) = some u ∧ Bs w u x) ∧ x.length ≤ reachBytes) len (fun i hil => by
      obtain ⟨hc, htr⟩ := hi i (by omega)
      obtain ⟨bs, hbs, hbl⟩ := bs_sized ht he hC h1 htr (fun k hk => hw k (by
        rw [hx.1]
        simp only [DataW.weights, hT, List.mem_cons, List.mem_append]
        exact .inr (.inl (weights_all (i := i) (by simp [hil]) hk))))
      exact ⟨bs, ⟨V i, hc, hbs⟩, hbl⟩)
    refine ⟨L, ⟨some a, cap, by rw [hLl], fun h => (by cases h), by omega, hm, fun hn => ?_⟩, fun x hx => ?_⟩
    · obtain ⟨⟨u0, z, _⟩, _⟩ := hL 0 _ (List.getElem?_eq_getElem hn)
      have za : a = ⟨a.block, a.off, none⟩ := by
        have := cell_spot z
        simp [Addr.add] at this
        exact this
      have hblt := World.block_lt_of_cell? w _ z
      rw [block_of_add] at hblt
      refine ⟨a.block, a.off, by rw [← za], hblt, hblt, fun i x hx => ?_⟩
      obtain ⟨⟨u, h1, h2⟩, _⟩ := hL i x hx
      rw [za, addr_add] at h1
      exact ⟨u, h1, h2, fun g hg hne => h2.lt hne hg⟩
    · obtain ⟨i, hi, rfl⟩ := List.mem_iff_getElem.1 hx
      exact (hL i _ (List.getElem?_eq_getElem hi)).2
end
end Go.Proofs.Ythgpkbhilkdckaa

/- IdealSums: the walk. -/
namespace Go.Proofs.Ythgpkbhilkdckaa
open Go.RowKit
set_option linter.unusedVariables false

section
variable {P : Program} {W w : World} {ops : Array Oper} {rest : List Oper} {o : Oper} {a : Act} {Q : Exit → Act → World → Prop} {L : List Asn}
/-- append onto a row that is an object of its own -/
theorem wpList_append_St (hgd : o.guard = none) (s x : Operand) (t : TypeId) (ho : o.op = .call { callee := .builtin .append, args := #[s, x], argTypes := #[t, t] })
    {e : TypeId} {z : Value} {sz bytes : Nat} (ht : P.underlying t = some (.slice e)) (hie : (P.info? e).map (fun i => (i.zero, i.size, i.bytes)) = some (some z, sz, bytes)) (hz : z.cells.size = sz) (hsz : 0 < sz)
    {n m : Nat} {v u : Value} {xs news : List Value} (hs : a.eval s = v) (hx : a.eval x = u) (hown : St W w (aRow e sz v n xs :: L)) (hu : Rd w u m sz news) (h1 : ∀ x ∈ news, x.oneCell' = true) (h63 : n + m ≤ maxLen) (hroom : (n + m) * bytes ≤ 140737488355328)
    (h : ∀ A c w', St W w' (aRow e sz (.slice A (n + m) c) (n + m) (xs ++ news) :: L) → wpList P ops Q rest (a.put o.dst (.slice A (n + m) c)) w') :
    wpList P ops Q (o :: rest) a w := by
  obtain ⟨own, hr, ho', hback⟩ := hown.focus
  refine wpList_append_Rd hgd s x t ho ht hie hz hsz hs hx hr.1 hu h1 h63 hroom (Nat.zero_le _) fun A c w' r1 x1 y1 => ?_
  refine h A c w' (hback w' (aRow e sz (.slice A (n + m) c) (n + m) (xs ++ news)) ((Ext.refl own w).grown x1 (fun g e' _ => hr.2 g e')) ⟨r1, fun g hg => ?_⟩)
  rcases y1 with e' | e'
  · exact .inl (hr.2 g (by rw [← e', hg]))
  · right; rw [e'] at hg; injection hg with hg; omega
theorem Rd.lit (w : World) (cs : Array Value) (t : TypeId) (n : Nat) (hn : cs.size = n) : Rd (w.alloc (.cells cs t)) (.slice (some ⟨w.heap.size, 0, none⟩) n n) n 1 cs.toList := by
  refine ⟨by simp [hn], _, n, rfl, fun e => (by cases e), Nat.le_refl _, fun ad had => ?_⟩
  cases had
  refine ⟨fun _ => by simp, fun j x hx => ?_⟩
  have ea : (⟨w.heap.size, 0, none⟩ : Addr).add j = ⟨w.heap.size, j, none⟩ := by unfold Addr.add; split <;> simp_all
  rw [ea, (Blk.new w t cs).cell]
  simpa using hx
theorem aRow.bs {v : Value} {bs : List UInt8} (hl : bs.length ≤ big) (h : St W w (aRow 5 1 v bs.length (cellsB bs) :: L)) : St W w (aBs v bs :: L) :=
  h.conv fun own h => ⟨Bs.of_own h.1 hl, fun g hg _ => h.2 g hg⟩
theorem aRow.bs_app {v : Value} {x y : List UInt8} {n m : Nat} (hn : n = x.length) (hm : m = y.length) (hl : (x ++ y).length ≤ big) (h : St W w (aRow 5 1 v (n + m) (cellsB x ++ cellsB y) :: L)) : St W w (aBs v (x ++ y) :: L) := by
  subst hn hm
  rw [← cellsB_app, ← List.length_append] at h
  exact aRow.bs hl h
theorem St.addRow (h : St W w L) {w' : World} (hb : B w w') {v : Value} {e : TypeId} {sz n : Nat} {xs : List Value} (hr : w'.ownsRow w.heap.size e sz v n xs) : St W w' (aRow e sz v n xs :: L) :=
  h.add hb (A := aRow e sz v n xs) (own := fun x => w.heap.size ≤ x) ⟨row_base hr (Nat.zero_le _), fun g hg => row_ge hr hg⟩ (fun x e => e)
end
section
variable {W w : World} {p : Nat} {M : List (List UInt8)} {X : List Asn} {v u : Value} {b : List UInt8} {inn inn' : Nat → Prop}
theorem St.open64 (h : St W w (aTab p M :: X)) (hlen : M.length ≤ 9223372036854775806) (d : Int) (hd : -9223372036854775808 ≤ d ∧ d ≤ 9223372036854775807) :
    Calls Try.prog 64 #[.pointer (some ⟨p, 0, none⟩), .int .i64 d] w fun e w' => ∃ v', e = .returned (.tuple #[v', .bool (opB M d)]) ∧ Bs w' v' (opV M d) ∧ St W w' (aTab p M :: X) := by
  obtain ⟨own, ht, ho⟩ := h.get
  exact (Go.Proofs.Ythgpkbhilkdckaa.open64 ht hlen d hd).mono fun e w' ⟨v', he, hr, hl, hb⟩ => ⟨v', he, Bs.of_own hr hl, h.later hb⟩
theorem St.open65 (h : St W w (aRef p M :: X)) (hlen : M.length ≤ 9223372036854775806) (d : Int) (hd : -9223372036854775808 ≤ d ∧ d ≤ 9223372036854775807) :
    Calls Try.prog 65 #[.pointer (some ⟨p, 0, none⟩), .int .i64 d] w fun e w' => ∃ v', e = .returned (.tuple #[v', .bool (opB M d)]) ∧ Bs w' v' (opV M d) ∧ B w w' ∧ St W w' (aRef p M :: X) := by
  obtain ⟨own, ht, ho⟩ := h.get
  exact (Go.Proofs.Ythgpkbhilkdckaa.open65 ht hlen d hd).mono fun e w' ⟨v', he, hr, hl, hb⟩ => ⟨v', he, Bs.of_own hr hl, hb, h.later hb⟩
theorem St.look66 (h : St W w (aTab p M :: X)) (hb : Bs w v b) :
    Calls Try.prog 66 #[.pointer (some ⟨p, 0, none⟩), v] w fun e w' => e = .returned (.tuple #[.int .i64 (lkN M b), .bool (lkB M b)]) ∧ B w w' ∧ St W w' (aTab p M :: X) := by
  obtain ⟨own, ht, ho⟩ := h.get
  exact (Go.Proofs.Ythgpkbhilkdckaa.look66 ht hb).mono fun e w' ⟨he, hb⟩ => ⟨he, hb, h.later hb⟩
theorem St.rlook67 (h : St W w (aRef p M :: X)) (hlen : M.length ≤ 9223372036854775806) (hb : Bs w v b) :
    Calls Try.prog 67 #[.pointer (some ⟨p, 0, none⟩), v] w fun e w' => e = .returned (.tuple #[.int .i64 (lkN M b), .bool (lkB M b)]) ∧ w = w' := by
  obtain ⟨own, ht, ho⟩ := h.get
  exact Go.Proofs.Ythgpkbhilkdckaa.rlook67 ht hlen hb
end
theorem fromC_mk {M : List (List UInt8)} (h1 : M.length ≤ 1048576) (h2 : M.Nodup) : fromC M = 0 := by
  unfold fromC; rw [if_neg (by omega), if_pos h2]
theorem fromC_sum {M : List (List UInt8)} (h : fromC M = 0) (x : List UInt8) : fromC (sumM M x) = 0 := by
  obtain ⟨h1, h2⟩ := fromC_le h
  unfold sumM
  split
  · exact h
  · split
    · exact h
    · refine fromC_mk (by simp; omega) ?_
      rw [List.nodup_append]
      exact ⟨h2, by simp, fun a ha b hb => by simp at hb; subst hb; exact fun e => by subst e; contradiction⟩

set_option maxRecDepth 20000 in
set_option maxHeartbeats 4000000 in
theorem idealSums_walk {W : World} {v u : Value} {L : List (List UInt8)} {d : Int} {b : List UInt8} (hv : Lss (fun g => g < W.heap.size) W v L) (hlen : ∀ x ∈ L, x.length ≤ 140737488351232) (hd : -9223372036854775808 ≤ d ∧ d ≤ 9223372036854775807) (hu : Bs W u b) :
    Calls Try.prog 9 #[v, .int .i64 d, u] W fun e w' => e = .returned (.bool true) ∧ B W w' := by
  have HU := Lib.hid hu
  have HLN := Lib.hid hlen
  have HD := Lib.hid hd
  obtain ⟨A, c, rfl, _, hc1, hm1, hr⟩ := hv
  have HR := Lib.hid hr
  have hs : (L.length : Int) ≤ 9223372036854775807 := by unfold maxLen at hm1; omega
  clear hr hc1 hm1 hu hlen hd
  go_enter Try.func9, Try.ntmps9
  go_wp2_with (first
    | (go_at_call 61; refine (St.newTable61 (St.nil W)).mono ?_; rintro e w1 ⟨p, rfl, hS⟩; have HS1 := Lib.hid hS; clear hS)
    | (go_at_call 24; refine (St.begun24 (HS1.out.add (B.alloc' _ _) (A := aRef w1.heap.size []) (own := fun b => b = w1.heap.size) (RefT.new w1) (fun x e => by omega))).mono ?_; rintro e w2 ⟨rfl, hS⟩; have HS2 := Lib.hid hS.swap; clear hS))
  generalize w1.heap.size = p2 at *
  clear HS1
  go_loopw [7, 31] (fun t i wr => ∃ (q p' : Nat) (M : List (List UInt8)), q ≤ L.length ∧ i = .int .i64 q ∧ t = .pointer (some ⟨p', 0, none⟩) ∧ fromC M = 0 ∧ St W wr [aTab p' M, aRef p2 M]) (fun _ i _ => L.length - (intOf i).toNat)
  case atStart => exact ⟨0, p, [], Nat.zero_le _, rfl, rfl, by decide, HS2.out⟩
  case round =>
    obtain ⟨q, p', M, hq, rfl, rfl, hM, hS⟩ := hrel
    have HM := Lib.hid hM
    have HS := Lib.hid hS
    have HML := Lib.hid (show M.length ≤ 9223372036854775806 by have := (fromC_le hM).1; omega)
    clear HS2 hM
    by_cases hlt : q < L.length
    · obtain ⟨b', off, rfl, hb, _, hc⟩ := HR.out (by omega)
      obtain ⟨u1, k1, k2, k3⟩ := hc q _ (List.getElem?_eq_getElem hlt)
      have k1 := hS.b.cell k1
      have HK := Lib.hid k2
      have HX := Lib.hid (HLN.out _ (List.getElem_mem hlt))
      have HO := Lib.hid (show ∀ g, u1.ownBlock = some g → L[q] ≠ [] → g < W.heap.size from fun g hg hne => k3 g hg hne)
      have hqi : (q : Int) < L.length := by omega
      generalize L[q] = x at *
      clear hc k2 k3 hS
      by_cases h5 : (q : Int) % 5 = 4
      · have g5 : ((q : Int) % 5 == 4) = true := by simpa using h5
        have g1 : x.length + 3 ≤ maxLen := by have := HX.out; unfold maxLen; omega
        have g2 : (x.length + 3) * 1 ≤ 140737488355328 := by have := HX.out; omega
        have o1 : ∀ y ∈ cellsB [1, 2, 3], y.oneCell' = true := cellsB_one _
        have g3 : (x ++ [1, 2, 3]).length ≤ big := by have := HX.out; unfold big; simp; omega
        have G3 := Lib.hid g3
        clear h5 g3
        go_wp2_with (first
          | (go_at_call 62; refine (St.tclone62 HS.out HM.out).mono ?_; rintro e w3 ⟨p3, rfl, hS⟩; have HS3 := Lib.hid hS; clear hS)
          | (go_at_call 63; refine (clone63 (HK.out.later HS3.out.b)).mono ?_; rintro e w4 ⟨v4, rfl, r4, hb4⟩; obtain ⟨A4, c4, rfl⟩ := own_slice r4; have HS4 := Lib.hid ((HS3.out.addRow hb4 r4).later (B.alloc' _ (.cells #[.int .u8 1, .int .u8 2, .int .u8 3] 5))); clear hb4 r4)
          | (refine wpList_append_St rfl (.tmp 45) (.tmp 46) 47 rfl Try.underlying47 info5 rfl Nat.zero_lt_one rfl rfl HS4.out (show Rd _ _ 3 1 (cellsB [1, 2, 3]) from Rd.lit w4 #[.int .u8 1, .int .u8 2, .int .u8 3] 5 3 rfl) o1 g1 g2 ?_; intro A5 c5 w5 hS; have HS5 := Lib.hid (St.rot3 (aRow.bs_app rfl rfl G3.out hS)); clear hS)
          | (go_at_call 52; refine (St.sum52' (b := x ++ [1, 2, 3]) HS5.out).mono ?_; rintro e w6 ⟨rfl, hS⟩; have HS6 := Lib.hid (hS.drop.drop.later (Below.refl _ _).drew); clear hS))
        go_region_with (first
          | (go_at_call 52; refine (St.sum52 HS6.out (HK.out.later HS6.out.b) HO.out).mono ?_; rintro e w7 ⟨rfl, hS⟩; have HS7 := Lib.hid hS.swap; clear hS)
          | (go_at_call 53; refine (St.rsum53 HS7.out HML.out (HK.out.later HS7.out.b)).mono ?_; rintro e w8 ⟨rfl, hS⟩; have HS8 := Lib.hid hS; obtain ⟨A7, c7, hc7⟩ := hS.rcell; clear hS)
          | (go_at_call 54; refine (St.len54 HS8.out.swap).mono ?_; rintro e w9 ⟨rfl, rfl⟩))
        all_goals
          go_wp2_with fail
          go_roundw
          case rel => exact ⟨q + 1, p3, sumM M x, by omega, by go_num, rfl, fromC_sum HM.out x, HS8.out.swap⟩
          case measure => simp [intOf]; omega
      · have g5 : ((q : Int) % 5 == 4) = false := by simpa using h5
        have HS6 := Lib.hid (HS.out.later (Below.refl _ _).drew)
        clear h5
        go_wp2_with fail
        go_region_with (first
          | (go_at_call 52; refine (St.sum52 HS6.out (HK.out.later HS6.out.b) HO.out).mono ?_; rintro e w7 ⟨rfl, hS⟩; have HS7 := Lib.hid hS.swap; clear hS)
          | (go_at_call 53; refine (St.rsum53 HS7.out HML.out (HK.out.later HS7.out.b)).mono ?_; rintro e w8 ⟨rfl, hS⟩; have HS8 := Lib.hid hS; obtain ⟨A7, c7, hc7⟩ := hS.rcell; clear hS)
          | (go_at_call 54; refine (St.len54 HS8.out.swap).mono ?_; rintro e w9 ⟨rfl, rfl⟩))
        all_goals
          go_wp2_with fail
          go_roundw
          case rel => exact ⟨q + 1, p', sumM M x, by omega, by go_num, rfl, fromC_sum HM.out x, HS8.out.swap⟩
          case measure => simp [intOf]; omega
    · have hqi : ¬ (q : Int) < L.length := by omega
      go_wp2_with (first
        | (go_at_call 64; refine (St.open64 HS.out HML.out d HD.out).mono ?_; rintro e w3 ⟨v3, rfl, hb3, hS⟩; have HS3 := Lib.hid hS.swap; have HB3 := Lib.hid hb3; clear hS hb3)
        | (go_at_call 65; refine (St.open65 HS3.out HML.out d HD.out).mono ?_; rintro e w4 ⟨v4, rfl, hb4, hbb, hS⟩; have HS4 := Lib.hid hS.swap; have HB4 := Lib.hid hb4; have HBB := Lib.hid hbb; clear hS hb4 hbb)
        | (go_at_call 66; refine (St.look66 HS4.out (HU.out.later HS4.out.b)).mono ?_; rintro e w5 ⟨rfl, hb5, hS⟩; have HS5 := Lib.hid hS.swap; have HB5 := Lib.hid hb5; clear hS hb5)
        | (go_at_call 67; refine (St.rlook67 HS5.out HML.out (HU.out.later HS5.out.b)).mono ?_; rintro e w6 ⟨rfl, rfl⟩))
      obtain ⟨own, hT, ho⟩ := HS5.out.swap.get
      obtain ⟨own2, hT2, ho2⟩ := HS5.out.get
      obtain ⟨vr, hcr, hLr⟩ := RefT.lss hT2
      obtain ⟨Ar, cr, rfl, _⟩ := id hLr
      have HC := Lib.hid hcr
      have l1 : ∀ w', B w5 w' → w'.cell? ⟨p2, 0, none⟩ = some (.slice Ar M.length cr) := fun w' hb => hb.cell HC.out
      have c68 := Lib.hid (fun w' (hb : B w5 w') => equal68 ((HB3.out.later HBB.out).later (HB5.out.trans hb)) (HB4.out.later (HB5.out.trans hb)))
      have c51 := Lib.hid (fun w' (hb : B w5 w') => Go.Proofs.Ythgpkbhilkdckaa.plain51 (TableAt.later (show TableAt own w5 p' M from hT) hb) (fromC_le HM.out).1)
      have c50 := Lib.hid (fun w' (hb : B w5 w') {inn : Nat → Prop} {vP : Value} (hP : Lss inn w' vP M) => sameAll50 hP (hLr.later hb))
      have es : decide (M = M) = true := decide_eq_true rfl
      have eo : (opV M d == opV M d) = true := by simp
      have HB5 := Lib.hid HS5.out.b
      generalize lkN M b = n1 at *
      generalize lkB M b = n2 at *
      clear hcr hLr
      go_region_held3 (fun w' => B w5 w') (first | exact B.trans (by assumption) hb | exact (Below.refl _ _).drew | assumption) (first
        | (go_at_call 68; refine (c68.out _ (by assumption)).mono ?_; rintro e wn ⟨rfl, rfl⟩; simp only [eo])
        | (go_at_call 51; refine (c51.out _ (by assumption)).mono ?_; rintro e wn ⟨vP, rfl, hP, hb⟩)
        | (go_at_call 50; refine (c50.out _ (by assumption) hP).mono ?_; rintro e wn ⟨rfl, hb⟩; simp only [es]))
      have hlast := ‹B w5 _›
      go_wp2_with fail
      go_ret
      exact ⟨by simp, HS5.out.b.trans hlast⟩
end Go.Proofs.Ythgpkbhilkdckaa
