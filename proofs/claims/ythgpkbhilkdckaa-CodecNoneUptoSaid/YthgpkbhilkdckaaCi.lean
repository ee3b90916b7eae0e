/- List of codec's reader; rows of byte slices appended to. -/
import Derived.Test.YthgpkbhilkdckaaCh
namespace Go.Proofs.Ythgpkbhilkdckaa
open Go.RowKit
set_option linter.unusedVariables false

/-- two objects as one -/
def aSep (A C : Asn) : Asn where
  at_ own w := ∃ o1 o2 : Nat → Prop, (∀ x, o1 x → own x) ∧ (∀ x, o2 x → own x) ∧ (∀ x, o1 x → ¬ o2 x) ∧ A.at_ o1 w ∧ C.at_ o2 w
  ext := fun ⟨o1, o2, h1, h2, h3, h4, h5⟩ hx hd => ⟨o1, o2, h1, h2, h3, A.ext h4 hx (fun b hb => hd b (h1 b hb)), C.ext h5 hx (fun b hb => hd b (h2 b hb))⟩
  bound := fun ⟨o1, o2, h1, h2, h3, h4, h5⟩ => ⟨_, _, fun x hx => ⟨h1 x hx.1, hx.2⟩, fun x hx => ⟨h2 x hx.1, hx.2⟩, fun x hx hy => h3 x hx.1 hy.1, A.bound h4, C.bound h5⟩
theorem St.merge {W w : World} {A C : Asn} {L : List Asn} (h : St W w (A :: C :: L)) : St W w (aSep A C :: L) := by
  obtain ⟨hb, o1, h1, h2, o2, h3, h4, h5⟩ := h
  refine ⟨hb, fun x => o1 x ∨ o2 x, fun b hb' => ?_, ⟨o1, o2, fun _ => .inl, fun _ => .inr, fun x hx hy => (h3 x hy).1.2 hx, h2, h4⟩, h5.mono (fun b _ hb' => ⟨hb'.1.1, fun e => e.elim hb'.1.2 hb'.2⟩)⟩
  rcases hb' with e | e
  · exact h1 b e
  · exact ⟨(h3 b e).1.1, (h3 b e).2⟩
theorem St.unmerge {W w : World} {A C : Asn} {L : List Asn} (h : St W w (aSep A C :: L)) : St W w (A :: C :: L) := by
  obtain ⟨hb, own, h1, ⟨o1, o2, k1, k2, k3, k4, k5⟩, h3⟩ := h
  exact ⟨hb, o1, fun b hb' => h1 b (k1 b hb'), k4, o2, fun b hb' => ⟨⟨(h1 b (k2 b hb')).1, fun e => k3 b e hb'⟩, (h1 b (k2 b hb')).2⟩, k5, h3.mono (fun b _ hb' => ⟨⟨hb'.1, fun e => hb'.2 (k1 b e)⟩, fun e => hb'.2 (k2 b e)⟩)⟩
theorem aPl.nil {W w : World} {L : List Asn} (h : St W w L) : St W w (aPl (.slice none 0 0) [] :: L) :=
  h.add (Below.refl _ _) (A := aPl (.slice none 0 0) []) (own := fun _ => False) ⟨[], ⟨ownNil _ _ _ _, fun g hg => by simp [Value.ownBlock] at hg⟩, Els.nil _ _⟩ (fun x e => e.elim)
theorem aPl.slice {W w : World} {v : Value} {M : List (List UInt8)} {L : List Asn} (h : St W w (aPl v M :: L)) : ∃ A c, v = .slice A M.length c := by
  obtain ⟨own, ⟨vs, ⟨h1, h2⟩, h3⟩, ho⟩ := h.get
  exact own_slice h1
/-- 'append(l, x)': a byte slice of its own goes over to the rows -/
theorem St.plAppend {W w : World} {L : List Asn} {x v : Value} {b : List UInt8} {M : List (List UInt8)} {ty : TypeId} (h : St W w (aPl v M :: aBy x b :: L)) (hb : b.length ≤ big) (hl : M.length + 1 ≤ 1099511627776) :
    ∃ A c w', (Builtin.append_ #[46, 46] ty #[v, .slice (some ⟨w.heap.size, 0, none⟩) 1 1]).run Try.prog (w.alloc (.cells #[x] 47)) = .ok (.slice A (M.length + 1) c) w' ∧ St W w' (aPl (.slice A (M.length + 1) c) (M ++ [b]) :: L) := by
  obtain ⟨own, ⟨o1, o2, k1, k2, k3, ⟨vs, ⟨h1, h2⟩, h3⟩, ⟨h4, h5⟩⟩, ho, hback⟩ := h.merge.focus
  obtain ⟨Ax, cx, rfl⟩ := own_slice h4
  have hBa := B.alloc' w (.cells #[.slice Ax b.length cx] 47)
  have hq1 := row_later h1 hBa
  obtain ⟨v', w', hrun, r4, x4, y4⟩ := append_Rd (P := Try.prog) (t := 46) (ty := ty) Try.underlying46 info47 rfl Nat.zero_lt_one hq1 (Rd.one w (.slice Ax b.length cx) 47) (by simp [Value.oneCell']) (by unfold maxLen; omega) (by omega) (Nat.zero_le _)
  obtain ⟨A, c, rfl⟩ := own_slice r4
  refine ⟨A, c, w', hrun, ?_⟩
  have hgx : Ext (fun g => some g = v.ownBlock) (w.alloc (.cells #[.slice Ax b.length cx] 47)) w' := (Ext.refl _ _).grown x4 (fun g e _ => e.symm)
  have f7 := (h3.later hBa).ext hgx (fun g cs _ hB' e => row_ne hq1 hB' (by decide) e.symm)
  have q2 := row_later h4 hBa
  have q3 := row_ext q2 hgx (fun g hg e => row_row hq1 q2 (by decide) e.symm hg)
  have f8 := (f7.mono (own' := fun x => own x ∨ w.heap.size ≤ x) (fun g hg => .inl (k1 g hg))).snoc q3 hb (fun g hg => .inl (k2 g (h5 g hg)))
  refine hback w' (aPl (.slice A (M.length + 1) c) (M ++ [b])) ((Ext.of_B hBa).grown x4 (fun g e _ => k1 g (h2 g e))) ⟨_, ⟨by rw [List.length_append]; exact r4, fun g hg => ?_⟩, f8⟩
  rcases y4 with e | e
  · exact .inl (k1 g (h2 g (by rw [← e, hg])))
  · right; rw [e] at hg; injection hg with hg; simp at hg; omega

def listGo (each : Int) : Nat → List UInt8 → Int → List (List UInt8) → List (List UInt8) × List UInt8 × Int
  | 0, bs, e, acc => (acc, bs, e)
  | n + 1, bs, e, acc => let r := bytesS bs e each; if r.2.2 ≠ 0 then ([], r.2.1, r.2.2) else listGo each n r.2.1 r.2.2 (acc ++ [r.1])
def listS (bs : List UInt8) (e most each : Int) : List (List UInt8) × List UInt8 × Int :=
  let r := numS bs e most.toNat
  listGo each r.1 r.2.1 r.2.2 []
theorem takeS_len (bs : List UInt8) (e n : Int) : (takeS bs e n).2.1.length + (takeS bs e n).1.length ≤ bs.length := by
  unfold takeS
  split
  · simp
  · split
    · simp
    · split
      · simp
      · simp; omega
theorem numGo_len (most : Nat) : ∀ (bs : List UInt8) (i acc : Nat), (numGo most i acc bs).2.1.length ≤ bs.length ∧ ((numGo most i acc bs).2.2 = 0 → (numGo most i acc bs).2.1.length < bs.length)
  | [], _, _ => ⟨by simp [numGo], by simp [numGo]⟩
  | c :: r, i, acc => by
    have ih := numGo_len most r (i + 1) (acc + c.toNat % 128 * 128 ^ i)
    unfold numGo
    split
    · simp
    · split
      · exact ⟨by simp; omega, fun h => by have := ih.2 h; simp; omega⟩
      · split
        · simp
        · simp
theorem bytesS_len (bs : List UInt8) (m : Int) (h : (bytesS bs 0 m).2.2 = 0) : (bytesS bs 0 m).2.1.length + 1 ≤ bs.length := by
  unfold bytesS at h ⊢
  have h1 := numGo_len m.toNat bs 0 0
  simp only [numS, if_pos] at h ⊢
  generalize numGo m.toNat 0 0 bs = r at *
  have h2 := takeS_len r.2.1 r.2.2 (r.1 : Int)
  have : r.2.2 = 0 := by
    by_cases e : r.2.2 = 0
    · exact e
    · simp [takeS, e] at h
  have := h1.2 this
  omega
section
variable {W w : World} {p : Nat} {bs : List UInt8} {e : Int} {L : List Asn}
def ListPost (W : World) (p : Nat) (L : List Asn) (r : List (List UInt8) × List UInt8 × Int) (e' : Ending) (w' : World) : Prop :=
  ∃ v, e' = .returned v ∧ St W w' (aPl v r.1 :: aRd p r.2.1 r.2.2 :: L)
end
end Go.Proofs.Ythgpkbhilkdckaa
