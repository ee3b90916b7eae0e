/- Objects that lie apart: 'St W w L': what was there at W is as it was, and the objects L lie in blocks made since, no block in two of them. No program here. -/
import Derived.Test.YthgpkbhilkdckaaH2
namespace Go.Proofs.Ythgpkbhilkdckaa
open Go.RowKit
set_option linter.unusedVariables false

/-- an object in memory: what it says of the blocks 'own' alone -/
structure Asn where
  at_ : (Nat → Prop) → World → Prop
  ext : ∀ {own own' : Nat → Prop} {w w' : World}, at_ own w → Ext own' w w' → (∀ b, own b → ¬ own' b) → at_ own w'
  bound : ∀ {own : Nat → Prop} {w : World}, at_ own w → at_ (fun x => own x ∧ x < w.heap.size) w

def Sep (w : World) : (Nat → Prop) → List Asn → Prop
  | _, [] => True
  | U, A :: L => ∃ own : Nat → Prop, (∀ b, own b → U b ∧ b < w.heap.size) ∧ A.at_ own w ∧ Sep w (fun b => U b ∧ ¬ own b) L
theorem Sep.mono {w : World} {U U' : Nat → Prop} {L : List Asn} (h : Sep w U L) (hs : ∀ b, b < w.heap.size → U b → U' b) : Sep w U' L := by
  induction L generalizing U U' with
  | nil => trivial
  | cons A L ih =>
    obtain ⟨own, h1, h2, h3⟩ := h
    exact ⟨own, fun b hb => ⟨hs b (h1 b hb).2 (h1 b hb).1, (h1 b hb).2⟩, h2, ih h3 (fun b hl hb => ⟨hs b hl hb.1, hb.2⟩)⟩
theorem Sep.ext {own : Nat → Prop} {w w' : World} {U : Nat → Prop} {L : List Asn} (h : Sep w U L) (hx : Ext own w w') (hd : ∀ b, b < w.heap.size → U b → ¬ own b) : Sep w' (fun b => U b ∧ b < w.heap.size) L := by
  induction L generalizing U with
  | nil => trivial
  | cons A L ih =>
    obtain ⟨o, h1, h2, h3⟩ := h
    refine ⟨o, fun b hb => ⟨⟨(h1 b hb).1, (h1 b hb).2⟩, Nat.lt_of_lt_of_le (h1 b hb).2 hx.size⟩, A.ext h2 hx (fun b hb => hd b (h1 b hb).2 (h1 b hb).1), ?_⟩
    exact (ih h3 (fun b hl hb => hd b hl hb.1)).mono (fun b _ hb => ⟨⟨hb.1.1, hb.2⟩, hb.1.2⟩)
theorem Sep.swap {w : World} {U : Nat → Prop} {A C : Asn} {L : List Asn} (h : Sep w U (A :: C :: L)) : Sep w U (C :: A :: L) := by
  obtain ⟨o, h1, h2, o', h3, h4, h5⟩ := h
  exact ⟨o', fun b hb => ⟨(h3 b hb).1.1, (h3 b hb).2⟩, h4, o, fun b hb => ⟨⟨(h1 b hb).1, fun e => (h3 b e).1.2 hb⟩, (h1 b hb).2⟩, h2, h5.mono (fun b _ hb => ⟨⟨hb.1.1, hb.2⟩, hb.1.2⟩)⟩

/-- the state of a call that began at W: old memory as it was, the objects L apart -/
def St (W w : World) (L : List Asn) : Prop := B W w ∧ Sep w (fun b => W.heap.size ≤ b) L
section
variable {W w w' : World} {A C D : Asn} {L : List Asn}
theorem St.nil (W : World) : St W W [] := ⟨Below.refl _ _, trivial⟩
theorem St.b (h : St W w L) : B W w := h.1
theorem St.swap (h : St W w (A :: C :: L)) : St W w (C :: A :: L) := ⟨h.1, h.2.swap⟩
theorem St.rot3 (h : St W w (A :: C :: D :: L)) : St W w (D :: A :: C :: L) := by
  obtain ⟨hb, o, h1, h2, h3⟩ := h
  exact St.swap ⟨hb, o, h1, h2, h3.swap⟩
theorem St.drop (h : St W w (A :: L)) : St W w L := by
  obtain ⟨hb, o, h1, h2, h3⟩ := h
  exact ⟨hb, h3.mono (fun b _ hb => hb.1)⟩
theorem St.drop2 (h : St W w (A :: C :: L)) : St W w (A :: L) := h.swap.drop
theorem St.later (h : St W w L) (hb : B w w') : St W w' L :=
  ⟨h.1.trans hb, (h.2.ext (Ext.of_B (own := fun _ => False) hb) (fun _ _ _ => id)).mono (fun b _ hb => hb.1)⟩
/-- a new object -/
theorem St.add (h : St W w L) (hb : B w w') {own : Nat → Prop} (ha : A.at_ own w') (ho : ∀ x, own x → w.heap.size ≤ x) : St W w' (A :: L) := by
  refine ⟨h.1.trans hb, _, fun b hb' => ⟨?_, hb'.2⟩, A.bound ha, ?_⟩
  · have := ho b hb'.1; have := h.1.size; show W.heap.size ≤ b; omega
  · exact (h.2.ext (Ext.of_B (own := fun _ => False) hb) (fun _ _ _ => id)).mono (fun b _ hb' => ⟨hb'.1, fun e => by have := ho b e.1; omega⟩)
theorem St.back {own : Nat → Prop} (hb : B W w) (h1 : ∀ b, own b → W.heap.size ≤ b ∧ b < w.heap.size) (h3 : Sep w (fun b => W.heap.size ≤ b ∧ ¬ own b) L) {w' : World} {A' : Asn} (hx : Ext own w w') (ha : A'.at_ (fun x => own x ∨ w.heap.size ≤ x) w') : St W w' (A' :: L) := by
  refine ⟨?_, _, fun b hb' => ⟨?_, hb'.2⟩, A'.bound ha, ?_⟩
  · exact (((Ext.of_B (own := own) hb).trans_ hx).to_B (fun x hx' e => by have := (h1 x e).1; omega))
  · rcases hb'.1 with e | e
    · exact (h1 b e).1
    · have := hb.size; show W.heap.size ≤ b; omega
  · exact (h3.ext hx (fun b _ hb' => hb'.2)).mono (fun b _ hb' => ⟨hb'.1.1, fun e => e.1.elim (fun e => hb'.1.2 e) (fun e => by omega)⟩)
/-- the first object by itself, and back -/
theorem St.focus (h : St W w (A :: L)) : ∃ own : Nat → Prop, A.at_ own w ∧ (∀ x, own x → W.heap.size ≤ x ∧ x < w.heap.size) ∧
    ∀ (w' : World) (A' : Asn), Ext own w w' → A'.at_ (fun x => own x ∨ w.heap.size ≤ x) w' → St W w' (A' :: L) := by
  obtain ⟨hb, own, h1, h2, h3⟩ := h
  exact ⟨own, h2, h1, fun w' A' hx ha => St.back hb h1 h3 hx ha⟩
/-- the first beside the second -/
theorem St.focus2 (h : St W w (A :: C :: L)) : ∃ own own' : Nat → Prop, A.at_ own w ∧ C.at_ own' w ∧ (∀ x, own x → W.heap.size ≤ x ∧ x < w.heap.size) ∧ (∀ x, own' x → ¬ own x) ∧
    ∀ (w' : World) (A' : Asn), Ext own w w' → A'.at_ (fun x => own x ∨ w.heap.size ≤ x) w' → St W w' (A' :: C :: L) := by
  obtain ⟨hb, own, h1, h2, h3⟩ := h
  obtain ⟨o', k1, k2, k3⟩ := id h3
  exact ⟨own, o', h2, k2, h1, fun x hx => (k1 x hx).1.2, fun w' A' hx ha => St.back hb h1 h3 hx ha⟩
/-- some blocks of its own, known whole -/
theorem St.get (h : St W w (A :: L)) : ∃ own : Nat → Prop, A.at_ own w ∧ (∀ x, own x → W.heap.size ≤ x ∧ x < w.heap.size) := by
  obtain ⟨own, h1, h2, _⟩ := h.focus
  exact ⟨own, h1, h2⟩
/-- another way to say what the first object is -/
theorem St.conv (h : St W w (A :: L)) (hc : ∀ own, A.at_ own w → C.at_ own w) : St W w (C :: L) := by
  obtain ⟨hb, own, h1, h2, h3⟩ := h
  exact ⟨hb, own, h1, hc own h2, h3⟩
end
/-- a block known whole -/
def aBlk (g : Nat) (t : TypeId) (cs : Array Value) : Asn where
  at_ own w := own g ∧ Blk w g t cs
  ext h hx hd := ⟨h.1, h.2.ext hx (hd _ h.1)⟩
  bound h := ⟨⟨h.1, h.2.lt⟩, h.2⟩
theorem aBlk.new {W w : World} {L : List Asn} (h : St W w L) (t : TypeId) (cs : Array Value) : St W (w.alloc (.cells cs t)) (aBlk w.heap.size t cs :: L) :=
  h.add (B.alloc' _ _) (A := aBlk w.heap.size t cs) (own := fun x => x = w.heap.size) ⟨rfl, Blk.new w t cs⟩ (fun x e => by omega)
theorem aBlk.set {W w : World} {L : List Asn} {g : Nat} {t : TypeId} {cs : Array Value} (h : St W w (aBlk g t cs :: L)) (i : Nat) (u : Value) : St W (w.setCell ⟨g, i, none⟩ u) (aBlk g t (cs.setIfInBounds i u) :: L) := by
  obtain ⟨own, h1, h2, h3⟩ := h.focus
  exact h3 _ (aBlk g t (cs.setIfInBounds i u)) ((Ext.refl own w).set (p := ⟨g, i, none⟩) (fun _ => h1.1) _) ⟨.inl h1.1, h1.2.set_ i u⟩
theorem aBlk.get {W w : World} {L : List Asn} {g : Nat} {t : TypeId} {cs : Array Value} (h : St W w (aBlk g t cs :: L)) : Blk w g t cs := by
  obtain ⟨own, h1, h2⟩ := h.get; exact h1.2
/-- a byte slice in blocks of its own -/
def aBs (v : Value) (b : List UInt8) : Asn where
  at_ own w := Bs w v b ∧ ∀ g, v.ownBlock = some g → b ≠ [] → own g
  ext h hx hd := ⟨h.1.ext hx (fun g hg hne => hd g (h.2 g hg hne)), h.2⟩
  bound h := ⟨h.1, fun g hg hne => ⟨h.2 g hg hne, h.1.lt hne hg⟩⟩
/-- a row of its own -/
def aRow (e : TypeId) (sz : Nat) (v : Value) (n : Nat) (xs : List Value) : Asn where
  at_ own w := w.ownsRow 0 e sz v n xs ∧ ∀ g, v.ownBlock = some g → own g
  ext h hx hd := ⟨row_ext h.1 hx (fun g hg => hd g (h.2 g hg)), h.2⟩
  bound h := ⟨h.1, fun g hg => ⟨h.2 g hg, row_lt h.1 hg⟩⟩
end Go.Proofs.Ythgpkbhilkdckaa
