/- Lemmas and contracts, part 9. -/
import Derived.Test.YtbbcepmhkocgbaaGreatDoorZb8
import Derived.Maps.OwnSet
import Derived.Maps.OwnOps
/- Objects in any order; many objects as one; a map as an object. No program here. -/
namespace Go.Proofs.YtbbcepmhkocgbaaGreatDoor
open Go.RowKit
set_option linter.unusedVariables false

theorem Sep.perm {w : World} {L L' : List Asn} (hp : L.Perm L') : ∀ {U : Nat → Prop}, Sep w U L → Sep w U L' := by
  induction hp with
  | nil => intro U h; exact h
  | cons A _ ih =>
    intro U h
    obtain ⟨own, h1, h2, h3⟩ := h
    exact ⟨own, h1, h2, ih h3⟩
  | swap A C L => intro U h; exact h.swap
  | trans _ _ ih1 ih2 => intro U h; exact ih2 (ih1 h)
theorem St.perm {W w : World} {L L' : List Asn} (h : St W w L) (hp : L.Perm L') : St W w L' := ⟨h.1, h.2.perm hp⟩
theorem Sep.append {w : World} {L' : List Asn} : ∀ {L : List Asn} {U : Nat → Prop}, Sep w U (L ++ L') → ∃ own : Nat → Prop, (∀ b, own b → U b ∧ b < w.heap.size) ∧ Sep w own L ∧ Sep w (fun b => U b ∧ ¬ own b) L'
  | [], U, h => ⟨fun _ => False, fun b hb => hb.elim, trivial, h.mono fun b _ hb => ⟨hb, id⟩⟩
  | A :: L, U, h => by
    obtain ⟨o, h1, h2, h3⟩ := h
    obtain ⟨o', k1, k2, k3⟩ := Sep.append h3
    refine ⟨fun b => o b ∨ o' b, fun b hb => hb.elim (fun e => h1 b e) (fun e => ⟨(k1 b e).1.1, (k1 b e).2⟩), ⟨o, fun b hb => ⟨.inl hb, (h1 b hb).2⟩, h2, k2.mono fun b _ hb => ⟨.inr hb, (k1 b hb).1.2⟩⟩, k3.mono fun b _ hb => ⟨hb.1.1, fun e => e.elim hb.1.2 hb.2⟩⟩
theorem Sep.join {w : World} {L' : List Asn} : ∀ {L : List Asn} {U own : Nat → Prop}, (∀ b, own b → U b) → Sep w own L → Sep w (fun b => U b ∧ ¬ own b) L' → Sep w U (L ++ L')
  | [], U, own, h0, h, h' => h'.mono fun b _ hb => hb.1
  | A :: L, U, own, h0, h, h' => by
    obtain ⟨o, h1, h2, h3⟩ := h
    refine ⟨o, fun b hb => ⟨h0 b (h1 b hb).1, (h1 b hb).2⟩, h2, Sep.join (own := fun b => own b ∧ ¬ o b) (fun b hb => ⟨h0 b hb.1, hb.2⟩) h3 (h'.mono fun b _ hb => ⟨⟨hb.1, fun e => hb.2 (h1 b e).1⟩, fun e => hb.2 e.1⟩)⟩
/-- an object that is many, for some datum -/
def aSome {α : Type} (P : α → Prop) (F : α → List Asn) : Asn where
  at_ own w := ∃ a, P a ∧ Sep w own (F a)
  ext h hx hd := by
    obtain ⟨a, ha, h⟩ := h
    exact ⟨a, ha, (h.ext hx (fun b _ hb => hd b hb)).mono fun b _ hb => hb.1⟩
  bound h := by
    obtain ⟨a, ha, h⟩ := h
    exact ⟨a, ha, h.mono fun b hl hb => ⟨hb, hl⟩⟩
theorem St.open_ {W w : World} {α : Type} {P : α → Prop} {F : α → List Asn} {L : List Asn} (h : St W w (aSome P F :: L)) : ∃ a, P a ∧ St W w (F a ++ L) := by
  obtain ⟨hb, own, h1, ⟨a, ha, h2⟩, h3⟩ := h
  exact ⟨a, ha, hb, Sep.join (fun b hb => (h1 b hb).1) h2 h3⟩
theorem St.shut {W w : World} {α : Type} {P : α → Prop} {F : α → List Asn} {L : List Asn} {a : α} (ha : P a) (h : St W w (F a ++ L)) : St W w (aSome P F :: L) := by
  obtain ⟨hb, h⟩ := h
  obtain ⟨own, h1, h2, h3⟩ := Sep.append h
  exact ⟨hb, own, h1, ⟨a, ha, h2⟩, h3⟩
theorem perm_pick {α : Type} {L : List α} {i : Nat} {a : α} (h : L[i]? = some a) : L.Perm (a :: (L.take i ++ L.drop (i + 1))) := by
  have hi : i < L.length := by
    rcases Nat.lt_or_ge i L.length with h' | h'
    · exact h'
    · rw [List.getElem?_eq_none h'] at h; cases h
  have e : L[i] = a := by rw [List.getElem?_eq_getElem hi] at h; exact Option.some.inj h
  have h2 : L = L.take i ++ (a :: L.drop (i + 1)) := by
    rw [← e, ← List.drop_eq_getElem_cons hi, List.take_append_drop]
  conv => lhs; rw [h2]
  exact List.perm_middle
/-- elements that are pointers read as their blocks' numbers -/
def ptrElem : Value → Option (DataW Unit × List MemPlace)
  | .pointer none => some (.nil, [])
  | .pointer (some ⟨g, 0, none⟩) => some (.lit (.int .i64 (g : Int)), [])
  | _ => none
theorem ptrElem_inv {v : Value} {g : Nat} {ps : List MemPlace} (h : ptrElem v = some (.lit (.int .i64 (g : Int)), ps)) : v = .pointer (some ⟨g, 0, none⟩) := by
  unfold ptrElem at h
  split at h
  · cases h
  · rename_i g'
    simp at h
    have : g' = g := by omega
    rw [this]
  · cases h
end Go.Proofs.YtbbcepmhkocgbaaGreatDoor

/- Small words: the same or not (eqB); bytes of a reading. -/
namespace Go.Proofs.YtbbcepmhkocgbaaGreatDoor
open Go.RowKit Go.Deep
set_option linter.unusedVariables false

theorem tY.bs {inn : Nat → Prop} {w : World} {v : Value} {a : List UInt8} (h : tY.rd inn w [v] a) : Bs w v a := by
  obtain ⟨u, e, hb, _⟩ := h
  injection e with e _
  subst e
  exact hb
/-- are two data the same? -/
noncomputable def eqB {α : Type} (a b : α) : Bool := @decide (a = b) (Classical.propDecidable _)
theorem eqB_true {α : Type} {a b : α} (h : a = b) : eqB a b = true := by unfold eqB; exact @decide_eq_true _ (Classical.propDecidable _) h
theorem eqB_false {α : Type} {a b : α} (h : ¬ a = b) : eqB a b = false := by unfold eqB; exact @decide_eq_false _ (Classical.propDecidable _) h
theorem eqB_iff {α : Type} {a b : α} : eqB a b = true ↔ a = b := by unfold eqB; exact @decide_eq_true_iff _ (Classical.propDecidable _)
theorem sameOp_eqB (a b : OpD) : sameOp a b = eqB a b := by
  by_cases h : a = b
  · rw [eqB_true h, sameOp_iff.2 h]
  · rw [eqB_false h]
    cases hs : sameOp a b with
    | false => rfl
    | true => exact absurd (sameOp_iff.1 hs) h
theorem congrSign {a b a' b' : Int} (h : a = a') (k : b = b') : (⟨a, b⟩ : SignD) = ⟨a', b'⟩ := by rw [h, k]
theorem sign_ext {a b : SignD} (h : a.key = b.key) (k : a.digest = b.digest) : a = b := by
  obtain ⟨_, _⟩ := a
  obtain ⟨_, _⟩ := b
  exact congrSign h k
theorem bstr_eqE (a b : List UInt8) : ((bstr a).toList == (bstr b).toList) = eqB a b := by
  rw [bstr_toList, bstr_toList]
  by_cases h : a = b
  · rw [eqB_true h, h]; simp
  · rw [eqB_false h]; simpa using h
end Go.Proofs.YtbbcepmhkocgbaaGreatDoor

/- Worlds told by themselves (BB), and the small methods of the asker of package message: it keeps the first error. -/
namespace Go.Proofs.YtbbcepmhkocgbaaGreatDoor
open Go.RowKit Go.Deep
set_option linter.unusedVariables false

/-- old memory as it was: found by itself -/
class BB (w w' : World) : Prop where
  out : B w w'
instance BB.alloc (w w' : World) (o : Obj) [h : BB w w'] : BB w (w'.alloc o) := ⟨h.out.trans (B.alloc' _ _)⟩
instance BB.drew (w w' : World) [h : BB w w'] : BB w w'.drew := ⟨h.out.trans (Below.refl _ _).drew⟩
instance BB.drewN (w w' : World) (n : Nat) [h : BB w w'] : BB w (w'.drewN n) := ⟨h.out.trans ⟨rfl, rfl, rfl, Nat.le_refl _, fun _ _ => rfl⟩⟩
instance BB.refl (w : World) : BB w w := ⟨Below.refl _ _⟩
theorem St.on {W w w' : World} {L : List Asn} (h : St W w L) [k : BB w w'] : St W w' L := h.later k.out
theorem callsM {P : Program} {f : FuncId} {vs : Array Value} {w : World} {R R' : Ending → World → Prop} (h : Calls P f vs w R) (k : ∀ e w', R e w' → R' e w') : Calls P f vs w R' := h.mono k

section
variable {W w : World} {p : Nat} {e : Int} {X : List Asn}
/-- the asker, with its first error -/
abbrev aAsk (p : Nat) (e : Int) : Asn := aBlk p 195 #[.int .i64 e]
theorem says_c (h : St W w (aAsk p e :: X)) (x : Int) : Calls Tryz.prog 159 #[.pointer (some ⟨p, 0, none⟩), .int .i64 x] w fun r w' => r = .returned (.tuple #[]) ∧ St W w' (aAsk p (orE e x) :: X) := by
  have k0 := (aBlk.get h).cell 0
  have f0 := (aBlk.get h).frozen 0
  simp at k0
  have HS := Lib.hid h
  by_cases e0 : e = 0
  · subst e0
    have E := Lib.hid (show St W (w.setCell ⟨p, 0, none⟩ (.int .i64 x)) (aAsk p (orE 0 x) :: X) from by rw [z_orE]; exact aBlk.set h 0 (.int .i64 x))
    clear h
    go_enter Tryz.func159, Tryz.ntmps159
    go_wp2
    go_end0
    exact ⟨rfl, E.out⟩
  · have E := Lib.hid (show orE e x = e by simp [orE, e0])
    have g0 : (e == 0) = false := by simpa using e0
    clear h e0
    go_enter Tryz.func159, Tryz.ntmps159
    go_wp2
    go_end0
    exact ⟨rfl, by rw [E.out]; exact HS.out⟩
theorem ask_c (h : St W w (aAsk p e :: X)) (n a b : Int) : Calls Tryz.prog 158 #[.pointer (some ⟨p, 0, none⟩), .int .i64 n, .int .i64 a, .int .i64 b] w fun r w' => r = .returned (.tuple #[]) ∧ St W w' (aAsk p (orE e (rangeE n a b)) :: X) := by
  have HS := Lib.hid h
  clear h
  rcases (show (n < a ∧ ¬ b < n) ∨ (n < a ∧ b < n) ∨ (¬ n < a ∧ b < n) ∨ (¬ n < a ∧ ¬ b < n) by omega) with hc | hc | hc | hc
  all_goals
    have E := Lib.hid hc
    obtain ⟨c1, c2⟩ := hc
    go_enter Tryz.func158, Tryz.ntmps158
    go_wp2_with (first | (go_at_call 159; (with_reducible refine callsM (says_c HS.out.on _) ?_); rintro r wn ⟨rfl, hS⟩; replace HS := Lib.hid hS; clear hS))
    go_end0
    refine ⟨rfl, ?_⟩
    have h1 := HS.out
    have h2 := E.out
    unfold rangeE
    split
    · first | exact h1 | (exfalso; omega)
    · first | (rw [orE_z]; exact h1) | (exfalso; omega)
end
end Go.Proofs.YtbbcepmhkocgbaaGreatDoor
