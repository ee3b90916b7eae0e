/- Lemmas and contracts, part 2. -/
import Derived.Test.YtoikjgcggmemaaaGreatDoorZb1
import Derived.Maps.AppendAt
import Derived.Deep.AppendLies
import Derived.Laws.Rows
import Derived.Deep.RegionLaw
/- Memory words for the walks: what a call may turn (Ext), blocks known whole (Blk), slices that read as lists (Rd). No program here. -/
namespace Go.Proofs.YtoikjgcggmemaaaGreatDoor
open Go.RowKit
set_option linter.unusedVariables false

/-- of the old blocks only those in 'own' may have turned -/
structure Ext (own : Nat → Prop) (w w' : World) : Prop where
  os : w'.os = w.os
  tape : w'.tape = w.tape
  output : w'.output = w.output
  size : w.heap.size ≤ w'.heap.size
  block : ∀ b, b < w.heap.size → ¬ own b → w'.heap[b]? = w.heap[b]?

theorem Ext.refl (own : Nat → Prop) (w : World) : Ext own w w := ⟨rfl, rfl, rfl, Nat.le_refl _, fun _ _ _ => rfl⟩
theorem Ext.of_B {own : Nat → Prop} {w w' : World} (h : B w w') : Ext own w w' := ⟨h.os, h.tape, h.output, h.size, fun b hb _ => h.block b hb⟩
theorem Ext.to_B {own : Nat → Prop} {w w' : World} (h : Ext own w w') (hn : ∀ b, b < w.heap.size → ¬ own b) : B w w' := ⟨h.os, h.tape, h.output, h.size, fun b hb => h.block b hb (hn b hb)⟩
/-- the second step may turn more, but nothing old -/
theorem Ext.trans {own own' : Nat → Prop} {a b c : World} (h : Ext own a b) (k : Ext own' b c) (hs : ∀ x, x < a.heap.size → own' x → own x) : Ext own a c :=
  ⟨k.os.trans h.os, k.tape.trans h.tape, k.output.trans h.output, Nat.le_trans h.size k.size, fun x hx hn => (k.block x (Nat.lt_of_lt_of_le hx h.size) (fun e => hn (hs x hx e))).trans (h.block x hx hn)⟩
theorem Ext.trans_ {own : Nat → Prop} {a b c : World} (h : Ext own a b) (k : Ext own b c) : Ext own a c := h.trans k fun _ _ e => e
theorem Ext.mono {own own' : Nat → Prop} {w w' : World} (h : Ext own w w') (hs : ∀ x, x < w.heap.size → own x → own' x) : Ext own' w w' :=
  ⟨h.os, h.tape, h.output, h.size, fun x hx hn => h.block x hx (fun e => hn (hs x hx e))⟩
theorem Ext.drew {own : Nat → Prop} {a w : World} (h : Ext own a w) : Ext own a w.drew := ⟨h.os, h.tape, h.output, h.size, h.block⟩
theorem Ext.drewN {own : Nat → Prop} {a w : World} (h : Ext own a w) (n : Nat) : Ext own a (w.drewN n) := ⟨h.os, h.tape, h.output, h.size, h.block⟩
theorem Ext.alloc {own : Nat → Prop} {a w : World} (h : Ext own a w) (o : Obj) : Ext own a (w.alloc o) := h.trans (Ext.of_B (B.alloc' w o)) (own' := own) fun _ _ e => e
theorem Ext.set {own : Nat → Prop} {a w : World} (h : Ext own a w) {p : Addr} (hp : p.block < a.heap.size → own p.block) (u : Value) : Ext own a (w.setCell p u) :=
  h.trans (own' := fun b => b = p.block) ⟨rfl, rfl, rfl, by simp, fun b hb hn => Below.heap_setCell _ _ _ _ hn⟩ (fun x hx e => by subst e; exact hp hx)
theorem Ext.grown {own : Nat → Prop} {a w w' : World} {row : Option Nat} (h : Ext own a w) (hg : w.grownBy w' row) (hr : ∀ g, row = some g → g < a.heap.size → own g) : Ext own a w' :=
  h.trans (own' := fun b => some b = row) ⟨hg.os, hg.tape, hg.output, hg.size, fun b hb hn => hg.block b hb hn⟩ (fun x hx e => hr x e.symm hx)
theorem Ext.setMap {own : Nat → Prop} {a w : World} (h : Ext own a w) {m : Nat} (hm : m < a.heap.size → own m) (o : Obj) : Ext own a { w with heap := w.heap.setIfInBounds m o } :=
  h.trans (own' := fun b => b = m) ⟨rfl, rfl, rfl, by simp, fun b hb hn => by simp [Ne.symm hn]⟩ (fun x hx e => by subst e; exact hm hx)
theorem Ext.cell {own : Nat → Prop} {w w' : World} (h : Ext own w w') {a : Addr} {v : Value} (hn : ¬ own a.block) (hv : w.cell? a = some v) : w'.cell? a = some v := by
  rw [World.cell?_of_block (w := w) (h.block _ (World.block_lt_of_cell? w a hv) hn)]; exact hv
theorem Ext.frozen {own : Nat → Prop} {w w' : World} (h : Ext own w w') {a : Addr} (hl : a.block < w.heap.size) (hn : ¬ own a.block) : w'.frozen? a = w.frozen? a :=
  World.frozen?_of_block (w := w) (h.block _ hl hn)
theorem Own2.ext {own : Nat → Prop} {w w' : World} {b : Nat} {x y : Value} (h : Own2 w b x y) (hb : Ext own w w') (hn : ¬ own b) : Own2 w' b x y :=
  ⟨hb.cell hn h.1, hb.cell hn h.2.1, by rw [hb.frozen h.2.2.2.2 hn]; exact h.2.2.1, by rw [hb.frozen h.2.2.2.2 hn]; exact h.2.2.2.1, Nat.lt_of_lt_of_le h.2.2.2.2 hb.size⟩

/-- block g is just these cells, none frozen -/
def Blk (w : World) (g : Nat) (t : TypeId) (cs : Array Value) : Prop := w.heap[g]? = some (.cells cs t (0, 0))
section
variable {w w' : World} {g : Nat} {t : TypeId} {cs : Array Value}
theorem Blk.lt (h : Blk w g t cs) : g < w.heap.size := by
  rcases Nat.lt_or_ge g w.heap.size with hlt | hge
  · exact hlt
  · unfold Blk at h; rw [Array.getElem?_eq_none hge] at h; cases h
theorem Blk.cell (h : Blk w g t cs) (i : Nat) : w.cell? ⟨g, i, none⟩ = cs[i]? := cell_of_row w g i cs t (0, 0) h
theorem Blk.frozen (h : Blk w g t cs) (i : Nat) : w.frozen? ⟨g, i, none⟩ = false := by
  unfold Blk at h
  simp [World.frozen?, h]
theorem Blk.new (w : World) (t : TypeId) (cs : Array Value) : Blk (w.alloc (.cells cs t)) w.heap.size t cs := heap_alloc_new w _
theorem Blk.drew (h : Blk w g t cs) : Blk w.drew g t cs := h
theorem Blk.alloc (h : Blk w g t cs) (o : Obj) : Blk (w.alloc o) g t cs := (Below.heap_alloc w o g h.lt).trans h
theorem Blk.set_ (h : Blk w g t cs) (i : Nat) (u : Value) : Blk (w.setCell ⟨g, i, none⟩ u) g t (cs.setIfInBounds i u) := by
  unfold Blk at h ⊢
  simp [World.setCell, Array.getElem?_modify, h]
theorem Blk.far (h : Blk w g t cs) {p : Addr} (hp : g ≠ p.block) (u : Value) : Blk (w.setCell p u) g t cs := (Below.heap_setCell w p u g hp).trans h
theorem Blk.ext {own : Nat → Prop} (h : Blk w g t cs) (hb : Ext own w w') (hn : ¬ own g) : Blk w' g t cs := (hb.block g h.lt hn).trans h
theorem Blk.later (h : Blk w g t cs) (hb : B w w') : Blk w' g t cs := (hb.block g h.lt).trans h
theorem Blk.grown {row : Option Nat} (h : Blk w g t cs) (hb : w.grownBy w' row) (hg : some g ≠ row) : Blk w' g t cs := (hb.block g h.lt hg).trans h
theorem Blk.own2 {x y : Value} (h : Blk w g t #[x, y]) : Own2 w g x y := ⟨by rw [h.cell]; rfl, by rw [h.cell]; rfl, h.frozen 0, h.frozen 1, h.lt⟩
end

@[go_sem] theorem heap_drew (w : World) : w.drew.heap = w.heap := rfl
/-- a map block -/
def Mp (w : World) (m : Nat) (es : Array MapEntry) (c : Nat) : Prop := w.heap[m]? = some (.map es c)
theorem Mp.lt {w : World} {m : Nat} {es : Array MapEntry} {c : Nat} (h : Mp w m es c) : m < w.heap.size := by
  rcases Nat.lt_or_ge m w.heap.size with hlt | hge
  · exact hlt
  · unfold Mp at h; rw [Array.getElem?_eq_none hge] at h; cases h
theorem Mp.ext {own : Nat → Prop} {w w' : World} {m : Nat} {es : Array MapEntry} {c : Nat} (h : Mp w m es c) (hb : Ext own w w') (hn : ¬ own m) : Mp w' m es c := (hb.block m h.lt hn).trans h
theorem Mp.later {w w' : World} {m : Nat} {es : Array MapEntry} {c : Nat} (h : Mp w m es c) (hb : B w w') : Mp w' m es c := (hb.block m h.lt).trans h
theorem Mp.new (w : World) (es : Array MapEntry) (c : Nat) : Mp (w.alloc (.map es c)) w.heap.size es c := heap_alloc_new w _
theorem Mp.set (w : World) (m : Nat) (es : Array MapEntry) (c : Nat) (h : m < w.heap.size) : Mp { w with heap := w.heap.setIfInBounds m (.map es c) } m es c := by
  unfold Mp; simp [h]
theorem Mp.ne {w : World} {m g : Nat} {es : Array MapEntry} {c : Nat} {t : TypeId} {cs : Array Value} (h : Mp w m es c) (h' : Blk w g t cs) : m ≠ g := by
  rintro rfl
  unfold Mp at h; unfold Blk at h'
  rw [h] at h'; cases h'
/-- a map block has no cells -/
theorem Mp.no {w : World} {m g : Nat} {es : Array MapEntry} {c : Nat} {o : Nat} {v : Value} (h : Mp w m es c) (h' : w.cell? ⟨g, o, none⟩ = some v) : ¬ g = m := by
  rintro rfl
  unfold Mp at h
  simp [World.cell?, h] at h'
theorem Blk.ne {w : World} {g g' : Nat} {t t' : TypeId} {cs cs' : Array Value} (h : Blk w g t cs) (h' : Blk w g' t' cs') (hne : t ≠ t') : g ≠ g' := by
  rintro rfl
  unfold Blk at h h'
  rw [h] at h'
  injection h' with h'
  injection h' with _ ht
  exact hne ht
theorem row_ext {own : Nat → Prop} {w w' : World} {e : TypeId} {base size n : Nat} {v : Value} {xs : List Value} (h : w.ownsRow base e size v n xs) (hb : Ext own w w') (hd : ∀ g, v.ownBlock = some g → ¬ own g) : w'.ownsRow base e size v n xs := by
  refine ⟨h.1, ?_⟩
  rcases h.2 with h | ⟨g, cap, cur, hv, hg, hh, r⟩
  · exact .inl h
  · exact .inr ⟨g, cap, cur, hv, hg, Blk.ext (t := e) hh hb (hd g (by rw [hv]; rfl)), r⟩
theorem row_later {w w' : World} {e : TypeId} {base size n : Nat} {v : Value} {xs : List Value} (h : w.ownsRow base e size v n xs) (hb : B w w') : w'.ownsRow base e size v n xs :=
  row_ext h (Ext.of_B (own := fun _ => False) hb) (fun _ _ => id)
theorem row_lt {w : World} {e : TypeId} {base size n : Nat} {v : Value} {xs : List Value} (h : w.ownsRow base e size v n xs) {g : Nat} (hg : v.ownBlock = some g) : g < w.heap.size := by
  rcases h.2 with ⟨rfl, _⟩ | ⟨g', cap, cur, rfl, _, hh, r⟩
  · simp [Value.ownBlock] at hg
  · have : g' = g := by simpa [Value.ownBlock] using hg
    subst this
    exact Blk.lt (t := e) hh
theorem row_ne {w : World} {e t : TypeId} {base size n g : Nat} {v : Value} {xs : List Value} {cs : Array Value} (h : w.ownsRow base e size v n xs) (hg : Blk w g t cs) (hne : e ≠ t) : v.ownBlock ≠ some g := by
  rcases h.2 with ⟨rfl, _⟩ | ⟨g', cap, cur, rfl, _, hh, _⟩
  · simp [Value.ownBlock]
  · intro he
    have : g' = g := by simpa [Value.ownBlock] using he
    subst this
    exact Blk.ne (t := e) hh hg hne rfl
theorem own_slice {w : World} {e : TypeId} {base size n : Nat} {v : Value} {xs : List Value} (h : w.ownsRow base e size v n xs) : ∃ A c, v = .slice A n c := by
  rcases h.2 with ⟨rfl, rfl⟩ | ⟨g', cap, cur, rfl, _⟩
  · exact ⟨_, _, rfl⟩
  · exact ⟨_, _, rfl⟩
theorem row_no {w : World} {e : TypeId} {base size n m c : Nat} {v : Value} {xs : List Value} {es : Array MapEntry} (h : w.ownsRow base e size v n xs) (hm : Mp w m es c) {g : Nat} (hg : v.ownBlock = some g) : ¬ g = m := by
  rintro rfl
  rcases h.2 with ⟨rfl, _⟩ | ⟨g', cap, cur, rfl, _, hh, _⟩
  · simp [Value.ownBlock] at hg
  · have : g' = g := by simpa [Value.ownBlock] using hg
    subst this
    exact hm.ne (t := e) hh rfl
/-- two rows of elements of unlike types -/
theorem row_row {w : World} {e e' : TypeId} {b b' size size' n n' : Nat} {v v' : Value} {xs xs' : List Value} (h : w.ownsRow b e size v n xs) (h' : w.ownsRow b' e' size' v' n' xs') (hne : e ≠ e') {g : Nat} (hg : v.ownBlock = some g) (hg' : v'.ownBlock = some g) : False := by
  rcases h'.2 with ⟨rfl, _⟩ | ⟨g', cap, cur, rfl, _, hh, _⟩
  · simp [Value.ownBlock] at hg'
  · have : g' = g := by simpa [Value.ownBlock] using hg'
    subst this
    exact row_ne h (t := e') hh hne hg
theorem row_base {w : World} {e : TypeId} {base base' size n : Nat} {v : Value} {xs : List Value} (h : w.ownsRow base e size v n xs) (hb : base' ≤ base) : w.ownsRow base' e size v n xs := by
  refine ⟨h.1, ?_⟩
  rcases h.2 with h | ⟨g, cap, cur, hv, hg, r⟩
  · exact .inl h
  · exact .inr ⟨g, cap, cur, hv, Nat.le_trans hb hg, r⟩
theorem row_ge {w : World} {e : TypeId} {base size n : Nat} {v : Value} {xs : List Value} (h : w.ownsRow base e size v n xs) {g : Nat} (hg : v.ownBlock = some g) : base ≤ g := by
  rcases h.2 with ⟨rfl, _⟩ | ⟨g', cap, cur, rfl, hb, _⟩
  · simp [Value.ownBlock] at hg
  · have : g' = g := by simpa [Value.ownBlock] using hg
    subst this; exact hb
theorem Own2.grown {w w' : World} {b : Nat} {x y : Value} {row : Option Nat} (h : Own2 w b x y) (hg : w.grownBy w' row) (hn : some b ≠ row) : Own2 w' b x y :=
  h.ext ((Ext.refl (fun g => some g = row) w).grown hg (fun g hg _ => hg.symm)) hn
/-! a built-in append whose run is known -/
section
variable {P : Program} {w : World} {ops : Array Oper} {rest : List Oper} {o : Oper} {a : Act} {K : Act → World → Prop} {Q : Exit → Act → World → Prop} {E : Prop}
theorem wp_append_run (s x : Operand) (t : TypeId) (ho : o.op = .call { callee := .builtin .append, args := #[s, x], argTypes := #[t, t] }) {v u v' : Value} {w' : World} (hs : a.eval s = v) (hx : a.eval x = u)
    (hrun : (Builtin.append_ #[t, t] o.type #[v, u]).run P w = .ok v' w') (h : K (a.put o.dst v') w') : o.wp P a w K Q := by
  unfold Oper.wp execOp
  simp only [ho, resolve, invoke, builtin, Sem.run_bind, Sem.run_pure, Result.andThen_ok, List.map_toArray, List.map_cons, List.map_nil, hs, hx, hrun]
  exact h
theorem wpList_append_run (hgd : o.guard = none) (s x : Operand) (t : TypeId) (ho : o.op = .call { callee := .builtin .append, args := #[s, x], argTypes := #[t, t] }) {v u v' : Value} {w' : World} (hs : a.eval s = v) (hx : a.eval x = u)
    (hrun : (Builtin.append_ #[t, t] o.type #[v, u]).run P w = .ok v' w') (h : wpList P ops Q rest (a.put o.dst v') w') : wpList P ops Q (o :: rest) a w :=
  wpList_plain hgd fun _ hK => wp_append_run s x t ho hs hx hrun (hK _ _ h)
theorem step_append_run (hgd : o.guard = none) (s x : Operand) (t : TypeId) (ho : o.op = .call { callee := .builtin .append, args := #[s, x], argTypes := #[t, t] }) {v u v' : Value} {w' : World} (hs : a.eval s = v) (hx : a.eval x = u)
    (hrun : (Builtin.append_ #[t, t] o.type #[v, u]).run P w = .ok v' w') (h : K (a.put o.dst v') w') : if Region.wanted o (yielded ops a.tmps) = true then Oper.wp P o a w K Q else E := by
  have hw : Region.wanted o (yielded ops a.tmps) = true := by simp [Region.wanted, hgd]
  rw [if_pos hw]
  exact wp_append_run s x t ho hs hx hrun h
/-- a call of a Go function, met by its contract -/
theorem step_call (hgd : o.guard = none) (f : FuncId) (args : Array Operand) (ts : Array TypeId) (ho : o.op = .call { callee := .value (.func f), args := args, argTypes := ts })
    (hf : ∀ (args : Array Value) (w : World), (callFunc f args).run P w = .ok (.enter f args) w) {vs : Array Value} {R : Ending → World → Prop} (hc : Calls P f vs w R) (hv : args.toList.map a.eval = vs.toList) (h : ∀ e w', R e w' → ∃ v, e = .returned v ∧ K (a.put o.dst v) w') :
    if Region.wanted o (yielded ops a.tmps) = true then Oper.wp P o a w K Q else E := by
  have hw : Region.wanted o (yielded ops a.tmps) = true := by simp [Region.wanted, hgd]
  have hv' : args.map a.eval = vs := by
    apply Array.toList_inj.1
    rw [Array.toList_map]; exact hv
  subst hv'
  rw [if_pos hw]
  unfold Oper.wp execOp
  simp only [ho, resolve, Act.eval, Deferred.ofValue, invoke, Sem.run_bind, Sem.run_pure, Result.andThen_ok, hf, Array.append_empty, Array.empty_append]
  exact hc.mono fun e w' hr => by
    obtain ⟨v, rfl, hk⟩ := h e w' hr
    exact hk
end
end Go.Proofs.YtoikjgcggmemaaaGreatDoor
