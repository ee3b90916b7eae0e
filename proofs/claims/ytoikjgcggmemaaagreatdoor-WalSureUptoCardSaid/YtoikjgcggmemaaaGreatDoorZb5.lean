/- Lemmas and contracts, part 5. -/
import Derived.Test.YtoikjgcggmemaaaGreatDoorZb4
import Derived.Maps.OwnSet
import Derived.Maps.OwnOps
/- Objects in any order; many objects as one; a map as an object. No program here. -/
namespace Go.Proofs.YtoikjgcggmemaaaGreatDoor
open Go.RowKit
set_option linter.unusedVariables false

theorem Sep.perm {w : World} {L L' : List Asn} (hp : L.Perm L') : ∀ {U : Nat → Prop}, Sep w U L → Sep w U L' := by
  induction hp with
  | nil => intro U h; exact h
  | cons A _ ih =>
    intro U h
    obtain ⟨own, h1, h2, h3⟩ := h
    exact ⟨own, h1, h2, ih h3⟩
  | swap A C L => intro U h; exact h.swap
  | trans _ _ ih1 ih2 => intro U h; exact ih2 (ih1 h)
theorem St.perm {W w : World} {L L' : List Asn} (h : St W w L) (hp : L.Perm L') : St W w L' := ⟨h.1, h.2.perm hp⟩
theorem Sep.append {w : World} {L' : List Asn} : ∀ {L : List Asn} {U : Nat → Prop}, Sep w U (L ++ L') → ∃ own : Nat → Prop, (∀ b, own b → U b ∧ b < w.heap.size) ∧ Sep w own L ∧ Sep w (fun b => U b ∧ ¬ own b) L'
  | [], U, h => ⟨fun _ => False, fun b hb => hb.elim, trivial, h.mono fun b _ hb => ⟨hb, id⟩⟩
  | A :: L, U, h => by
    obtain ⟨o, h1, h2, h3⟩ := h
    obtain ⟨o', k1, k2, k3⟩ := Sep.append h3
    refine ⟨fun b => o b ∨ o' b, fun b hb => hb.elim (fun e => h1 b e) (fun e => ⟨(k1 b e).1.1, (k1 b e).2⟩), ⟨o, fun b hb => ⟨.inl hb, (h1 b hb).2⟩, h2, k2.mono fun b _ hb => ⟨.inr hb, (k1 b hb).1.2⟩⟩, k3.mono fun b _ hb => ⟨hb.1.1, fun e => e.elim hb.1.2 hb.2⟩⟩
theorem Sep.join {w : World} {L' : List Asn} : ∀ {L : List Asn} {U own : Nat → Prop}, (∀ b, own b → U b) → Sep w own L → Sep w (fun b => U b ∧ ¬ own b) L' → Sep w U (L ++ L')
  | [], U, own, h0, h, h' => h'.mono fun b _ hb => hb.1
  | A :: L, U, own, h0, h, h' => by
    obtain ⟨o, h1, h2, h3⟩ := h
    refine ⟨o, fun b hb => ⟨h0 b (h1 b hb).1, (h1 b hb).2⟩, h2, Sep.join (own := fun b => own b ∧ ¬ o b) (fun b hb => ⟨h0 b hb.1, hb.2⟩) h3 (h'.mono fun b _ hb => ⟨⟨hb.1, fun e => hb.2 (h1 b e).1⟩, fun e => hb.2 e.1⟩)⟩
/-- an object that is many, for some datum -/
def aSome {α : Type} (P : α → Prop) (F : α → List Asn) : Asn where
  at_ own w := ∃ a, P a ∧ Sep w own (F a)
  ext h hx hd := by
    obtain ⟨a, ha, h⟩ := h
    exact ⟨a, ha, (h.ext hx (fun b _ hb => hd b hb)).mono fun b _ hb => hb.1⟩
  bound h := by
    obtain ⟨a, ha, h⟩ := h
    exact ⟨a, ha, h.mono fun b hl hb => ⟨hb, hl⟩⟩
theorem St.open_ {W w : World} {α : Type} {P : α → Prop} {F : α → List Asn} {L : List Asn} (h : St W w (aSome P F :: L)) : ∃ a, P a ∧ St W w (F a ++ L) := by
  obtain ⟨hb, own, h1, ⟨a, ha, h2⟩, h3⟩ := h
  exact ⟨a, ha, hb, Sep.join (fun b hb => (h1 b hb).1) h2 h3⟩
theorem St.shut {W w : World} {α : Type} {P : α → Prop} {F : α → List Asn} {L : List Asn} {a : α} (ha : P a) (h : St W w (F a ++ L)) : St W w (aSome P F :: L) := by
  obtain ⟨hb, h⟩ := h
  obtain ⟨own, h1, h2, h3⟩ := Sep.append h
  exact ⟨hb, own, h1, ⟨a, ha, h2⟩, h3⟩
theorem perm_pick {α : Type} {L : List α} {i : Nat} {a : α} (h : L[i]? = some a) : L.Perm (a :: (L.take i ++ L.drop (i + 1))) := by
  have hi : i < L.length := by
    rcases Nat.lt_or_ge i L.length with h' | h'
    · exact h'
    · rw [List.getElem?_eq_none h'] at h; cases h
  have e : L[i] = a := by rw [List.getElem?_eq_getElem hi] at h; exact Option.some.inj h
  have h2 : L = L.take i ++ (a :: L.drop (i + 1)) := by
    rw [← e, ← List.drop_eq_getElem_cons hi, List.take_append_drop]
  conv => lhs; rw [h2]
  exact List.perm_middle
/-- elements that are pointers read as their blocks' numbers -/
def ptrElem : Value → Option (DataW Unit × List MemPlace)
  | .pointer none => some (.nil, [])
  | .pointer (some ⟨g, 0, none⟩) => some (.lit (.int .i64 (g : Int)), [])
  | _ => none
theorem ptrElem_inv {v : Value} {g : Nat} {ps : List MemPlace} (h : ptrElem v = some (.lit (.int .i64 (g : Int)), ps)) : v = .pointer (some ⟨g, 0, none⟩) := by
  unfold ptrElem at h
  split at h
  · cases h
  · rename_i g'
    simp at h
    have : g' = g := by omega
    rw [this]
  · cases h
end Go.Proofs.YtoikjgcggmemaaaGreatDoor

/- A disk in plain Lean: files in rising order of their names; what each call answers and leaves. -/
namespace Go.Proofs.YtoikjgcggmemaaaGreatDoor
set_option linter.unusedVariables false

/-- a file: its name, its bytes, how many are synced -/
structure Fl where
  nm : List UInt8
  b : List UInt8
  sure : Nat
/-- a disk -/
structure Dk where
  R : List Fl
  room : Int
  off : Bool
def ixF (n : List UInt8) : List Fl → Option Nat
  | [] => none
  | f :: r => if f.nm = n then some 0 else (ixF n r).map (· + 1)
def posF (n : List UInt8) : List Fl → Nat
  | [] => 0
  | f :: r => if bytesBefore f.nm n then posF n r + 1 else 0
def usedF (R : List Fl) : Nat := (R.map (fun f => f.b.length)).sum
def mayF (d : Dk) (n : List UInt8) : Option Nat × Int := if d.off then (none, 32) else match ixF n d.R with | none => (none, 4) | some i => (some i, 0)
def createF (d : Dk) (n : List UInt8) : Int × Dk :=
  if d.off then (32, d) else if n = [] then (1, d) else if (ixF n d.R).isSome then (31, d) else if 64 ≤ d.R.length then (6, d) else
    (0, { d with R := d.R.take (posF n d.R) ++ ⟨n, [], 0⟩ :: d.R.drop (posF n d.R) })
/-- the i-th file turned -/
def turnF (d : Dk) (n : List UInt8) (g : Fl → Int × Fl) : Int × Dk :=
  match mayF d n with
  | (some i, _) => match d.R[i]? with
    | some f => ((g f).1, { d with R := d.R.set i (g f).2 })
    | none => (0, d)
  | (none, e) => (e, d)
def writeB (d : Dk) (at_ : Int) (b : List UInt8) (f : Fl) : Int × Fl :=
  if at_ < 0 ∨ (f.b.length : Int) < at_ then (1, f)
  else if d.room - usedF d.R < (b.length : Int) - ((f.b.length : Int) - at_) then (30, f)
  else (0, ⟨f.nm, f.b.take at_.toNat ++ b ++ f.b.drop (at_.toNat + b.length), min f.sure at_.toNat⟩)
def writeF (d : Dk) (n : List UInt8) (at_ : Int) (b : List UInt8) : Int × Dk := turnF d n (writeB d at_ b)
def appendF (d : Dk) (n b : List UInt8) : Int × Dk := turnF d n fun f => if d.room - usedF d.R < (b.length : Int) then (30, f) else (0, ⟨f.nm, f.b ++ b, f.sure⟩)
def syncF (d : Dk) (n : List UInt8) : Int × Dk := turnF d n fun f => (0, ⟨f.nm, f.b, f.b.length⟩)
def truncF (d : Dk) (n : List UInt8) (k : Int) : Int × Dk := turnF d n fun f => if k < 0 ∨ (f.b.length : Int) < k then (1, f) else (0, ⟨f.nm, f.b.take k.toNat, min f.sure k.toNat⟩)
def dropF (n : List UInt8) (R : List Fl) : List Fl := match ixF n R with | some i => R.take i ++ R.drop (i + 1) | none => R
def insF (f : Fl) (R : List Fl) : List Fl := R.take (posF f.nm R) ++ f :: R.drop (posF f.nm R)
def removeF (d : Dk) (n : List UInt8) : Int × Dk :=
  match mayF d n with
  | (some i, _) => (0, { d with R := d.R.take i ++ d.R.drop (i + 1) })
  | (none, e) => (e, d)
def renameF (d : Dk) (n to : List UInt8) : Int × Dk :=
  match mayF d n with
  | (some i, _) => match d.R[i]? with
    | some f => if to = [] then (1, d) else if to = n then (0, d) else (0, { d with R := insF ⟨to, f.b, f.sure⟩ (dropF to (dropF n d.R)) })
    | none => (0, d)
  | (none, e) => (e, d)
def getF (d : Dk) (n : List UInt8) : List UInt8 × Int :=
  match mayF d n with
  | (some i, _) => ((d.R[i]?.map Fl.b).getD [], 0)
  | (none, e) => ([], e)
def syncedF (d : Dk) (n : List UInt8) : Nat × Int :=
  match mayF d n with
  | (some i, _) => ((d.R[i]?.map Fl.sure).getD 0, 0)
  | (none, e) => (0, e)
def bareF (k : Int) : Int := if k = -9223372036854775808 then 0 else if k < 0 then -k else k
def crashB (k : Int) (f : Fl) : Fl :=
  let m := f.sure + (bareF k % ((f.b.length : Int) - f.sure + 1)).toNat
  ⟨f.nm, f.b.take m, m⟩
def crashF (d : Dk) (k : Int) : Int × Dk := if d.off then (32, d) else (0, { d with R := d.R.map (crashB k), off := true })
def restartF (d : Dk) : Int × Dk := if d.off then (0, { d with off := false }) else (1, d)

/-- what is true of every disk -/
structure Dk.ok (d : Dk) : Prop where
  rise : d.R.Pairwise (fun a b => bytesBefore a.nm b.nm = true)
  sure : ∀ f ∈ d.R, f.sure ≤ f.b.length
  used : (usedF d.R : Int) ≤ d.room
  room : 0 ≤ d.room ∧ d.room ≤ 4194304
  many : d.R.length ≤ 64

theorem ixF_some {n : List UInt8} : ∀ {R : List Fl} {i : Nat}, ixF n R = some i → ∃ f, R[i]? = some f ∧ f.nm = n ∧ ∀ j, j < i → ∀ g, R[j]? = some g → g.nm ≠ n
  | [], i, h => by simp [ixF] at h
  | f :: r, i, h => by
    unfold ixF at h
    split at h
    · rename_i e
      simp at h; subst h
      exact ⟨f, rfl, e, fun j hj => by omega⟩
    · rename_i e
      cases hr : ixF n r with
      | none => rw [hr] at h; simp at h
      | some k =>
        rw [hr] at h
        simp at h
        subst h
        obtain ⟨g, h1, h2, h3⟩ := ixF_some hr
        refine ⟨g, by simpa using h1, h2, fun j hj x hx => ?_⟩
        cases j with
        | zero => simp at hx; rw [← hx]; exact e
        | succ j => exact h3 j (by omega) x (by simpa using hx)
theorem ixF_none {n : List UInt8} : ∀ {R : List Fl}, ixF n R = none → ∀ f ∈ R, f.nm ≠ n
  | [], h, f, hf => by simp at hf
  | x :: r, h, f, hf => by
    unfold ixF at h
    split at h
    · simp at h
    · rename_i e
      simp at h
      rcases List.mem_cons.1 hf with rfl | hf
      · exact e
      · exact ixF_none h f hf
theorem bb_irr : ∀ a : List UInt8, bytesBefore a a = false
  | [] => rfl
  | a :: r => by simp [bytesBefore, bb_irr r]
theorem bb_trans : ∀ a b c : List UInt8, bytesBefore a b = true → bytesBefore b c = true → bytesBefore a c = true
  | [], [], _, h, _ => by simp [bytesBefore] at h
  | [], _ :: _, [], _, h => by simp [bytesBefore] at h
  | [], _ :: _, _ :: _, _, _ => rfl
  | _ :: _, [], _, h, _ => by simp [bytesBefore] at h
  | _ :: _, _ :: _, [], _, h => by simp [bytesBefore] at h
  | a :: r, b :: s, c :: t, h, k => by
    simp only [bytesBefore, Bool.or_eq_true, Bool.and_eq_true, decide_eq_true_eq, beq_iff_eq] at h k ⊢
    rcases h with h | ⟨rfl, h⟩
    · rcases k with k | ⟨rfl, k⟩
      · exact .inl (UInt8.lt_trans h k)
      · exact .inl h
    · rcases k with k | ⟨rfl, k⟩
      · exact .inl k
      · exact .inr ⟨rfl, bb_trans r s t h k⟩
theorem bb_tri : ∀ a b : List UInt8, bytesBefore a b = true ∨ a = b ∨ bytesBefore b a = true
  | [], [] => .inr (.inl rfl)
  | [], _ :: _ => .inl rfl
  | _ :: _, [] => .inr (.inr rfl)
  | a :: r, b :: s => by
    simp only [bytesBefore, Bool.or_eq_true, Bool.and_eq_true, decide_eq_true_eq, beq_iff_eq]
    rcases Nat.lt_trichotomy a.toNat b.toNat with h | h | h
    · exact .inl (.inl (UInt8.lt_iff_toNat_lt.2 h))
    · obtain rfl := UInt8.toNat_inj.1 h
      rcases bb_tri r s with k | k | k
      · exact .inl (.inr ⟨rfl, k⟩)
      · subst k; exact .inr (.inl rfl)
      · exact .inr (.inr (.inr ⟨rfl, k⟩))
    · exact .inr (.inr (.inl (UInt8.lt_iff_toNat_lt.2 h)))
theorem posF_le (n : List UInt8) : ∀ R : List Fl, posF n R ≤ R.length
  | [] => Nat.le_refl _
  | f :: r => by unfold posF; split <;> simp <;> have := posF_le n r <;> omega
theorem posF_lt (n : List UInt8) : ∀ (R : List Fl) (j : Nat) (f : Fl), j < posF n R → R[j]? = some f → bytesBefore f.nm n = true
  | [], j, f, h, _ => by simp [posF] at h
  | x :: r, j, f, h, hj => by
    unfold posF at h
    split at h
    · rename_i e
      cases j with
      | zero => simp at hj; rw [← hj]; exact e
      | succ j => exact posF_lt n r j f (by omega) (by simpa using hj)
    · omega
theorem posF_at (n : List UInt8) : ∀ (R : List Fl) (f : Fl), R[posF n R]? = some f → bytesBefore f.nm n = false
  | [], f, h => by simp [posF] at h
  | x :: r, f, h => by
    unfold posF at h
    split at h
    · exact posF_at n r f (by simpa using h)
    · rename_i e
      simp at h; rw [← h]; simpa using e
theorem ins_rise {R : List Fl} (h : R.Pairwise (fun a b => bytesBefore a.nm b.nm = true)) (f : Fl) (hn : ∀ g ∈ R, g.nm ≠ f.nm) : (insF f R).Pairwise (fun a b => bytesBefore a.nm b.nm = true) := by
  unfold insF
  induction R with
  | nil => simp [posF]
  | cons x r ih =>
    rw [List.pairwise_cons] at h
    unfold posF
    split
    · rename_i e
      simp only [List.take_succ_cons, List.drop_succ_cons, List.cons_append, List.pairwise_cons]
      refine ⟨fun g hg => ?_, ih h.2 (fun g hg => hn g (List.mem_cons_of_mem _ hg))⟩
      rcases List.mem_append.1 hg with hg | hg
      · exact h.1 g (List.mem_of_mem_take hg)
      · rcases List.mem_cons.1 hg with rfl | hg
        · exact e
        · exact h.1 g (List.mem_of_mem_drop hg)
    · rename_i e
      simp only [List.take_zero, List.drop_zero, List.nil_append, List.pairwise_cons]
      have hx : bytesBefore f.nm x.nm = true := by
        rcases bb_tri f.nm x.nm with k | k | k
        · exact k
        · exact absurd k.symm (hn x (by simp))
        · exact absurd k e
      refine ⟨fun g hg => ?_, h⟩
      rcases List.mem_cons.1 hg with rfl | hg
      · exact hx
      · exact bb_trans _ _ _ hx (h.1 g hg)
theorem drop_rise {R : List Fl} (h : R.Pairwise (fun a b => bytesBefore a.nm b.nm = true)) (i : Nat) : (R.take i ++ R.drop (i + 1)).Pairwise (fun a b => bytesBefore a.nm b.nm = true) := by
  refine h.sublist ?_
  conv => rhs; rw [← List.take_append_drop i R]
  refine List.Sublist.append (List.Sublist.refl _) ?_
  rw [← List.tail_drop]
  exact List.tail_sublist _
theorem set_rise {R : List Fl} (h : R.Pairwise (fun a b => bytesBefore a.nm b.nm = true)) {i : Nat} {f g : Fl} (hi : R[i]? = some f) (hn : g.nm = f.nm) : (R.set i g).Pairwise (fun a b => bytesBefore a.nm b.nm = true) := by
  have e : (R.set i g).map Fl.nm = R.map Fl.nm := by
    rw [List.map_set]
    apply List.ext_getElem?
    intro j
    rw [List.getElem?_set]
    split
    · rename_i e
      subst e
      have hl : i < R.length := by
        rcases Nat.lt_or_ge i R.length with h' | h'
        · exact h'
        · rw [List.getElem?_eq_none h'] at hi; cases hi
      rw [if_pos (by simpa using hl), List.getElem?_map, hi, hn]; rfl
    · rfl
  have h2 : (R.map Fl.nm).Pairwise (fun a b => bytesBefore a b = true) := List.pairwise_map.2 h
  rw [← e] at h2
  exact List.pairwise_map.1 h2
theorem used_set {R : List Fl} {i : Nat} {f g : Fl} (hi : R[i]? = some f) : usedF (R.set i g) + f.b.length = usedF R + g.b.length := by
  unfold usedF
  induction R generalizing i with
  | nil => simp at hi
  | cons x r ih =>
    cases i with
    | zero => simp at hi; subst hi; simp; omega
    | succ i => have := ih (by simpa using hi); simp only [List.set_cons_succ, List.map_cons, List.sum_cons]; omega
theorem used_drop {R : List Fl} {i : Nat} {f : Fl} (hi : R[i]? = some f) : usedF (R.take i ++ R.drop (i + 1)) + f.b.length = usedF R := by
  unfold usedF
  induction R generalizing i with
  | nil => simp at hi
  | cons x r ih =>
    cases i with
    | zero => simp at hi; subst hi; simp; omega
    | succ i => have := ih (by simpa using hi); simp only [List.take_succ_cons, List.drop_succ_cons, List.cons_append, List.map_cons, List.sum_cons]; omega
theorem used_ins (f : Fl) (R : List Fl) : usedF (insF f R) = usedF R + f.b.length := by
  unfold insF usedF
  have h : (R.take (posF f.nm R)).map (fun f => f.b.length) ++ (R.drop (posF f.nm R)).map (fun f => f.b.length) = R.map (fun f => f.b.length) := by rw [← List.map_append, List.take_append_drop]
  have h2 := congrArg List.sum h
  rw [List.sum_append] at h2
  rw [List.map_append, List.map_cons, List.sum_append, List.sum_cons]
  omega

theorem may_some {d : Dk} {n : List UInt8} {i : Nat} {e : Int} (h : mayF d n = (some i, e)) : e = 0 ∧ d.off = false ∧ ∃ f, d.R[i]? = some f ∧ f.nm = n := by
  unfold mayF at h
  split at h
  · simp at h
  · rename_i ho
    split at h
    · simp at h
    · rename_i k hk
      simp at h
      obtain ⟨rfl, rfl⟩ := h
      obtain ⟨f, h1, h2, _⟩ := ixF_some hk
      exact ⟨rfl, by simpa using ho, f, h1, h2⟩
theorem may_none {d : Dk} {n : List UInt8} {e : Int} (h : mayF d n = (none, e)) : e ≠ 0 := by
  unfold mayF at h
  split at h
  · simp at h; omega
  · split at h
    · simp at h; omega
    · simp at h
theorem mem_set {R : List Fl} {i : Nat} {f g : Fl} (h : g ∈ R.set i f) : g ∈ R ∨ g = f := by
  rcases List.mem_or_eq_of_mem_set h with h | h
  · exact .inl h
  · exact .inr h
theorem turn_ok {d : Dk} (h : d.ok) (n : List UInt8) (g : Fl → Int × Fl) (hg : ∀ f ∈ d.R, (g f).2.nm = f.nm ∧ (g f).2.sure ≤ (g f).2.b.length ∧ (usedF d.R : Int) + (g f).2.b.length - f.b.length ≤ d.room) : (turnF d n g).2.ok := by
  unfold turnF
  split
  · rename_i i e hm
    obtain ⟨_, _, f, hf, _⟩ := may_some hm
    rw [hf]
    simp only
    obtain ⟨h1, h2, h3⟩ := hg f (List.mem_of_getElem? hf)
    refine ⟨set_rise h.rise hf h1, fun x hx => ?_, ?_, h.room, ?_⟩
    · rcases mem_set hx with hx | rfl
      · exact h.sure x hx
      · exact h2
    · have := used_set (g := (g f).2) hf
      show (usedF (d.R.set i (g f).2) : Int) ≤ d.room
      omega
    · show (d.R.set i (g f).2).length ≤ 64
      rw [List.length_set]; exact h.many
  · exact h
theorem write_ok {d : Dk} (h : d.ok) (n : List UInt8) (k : Int) (b : List UInt8) : (writeF d n k b).2.ok := by
  refine turn_ok h n _ fun f hf => ?_
  have hs := h.sure f hf
  have hu := h.used
  unfold writeB
  split
  · exact ⟨rfl, hs, by simp only; omega⟩
  · split
    · exact ⟨rfl, hs, by simp only; omega⟩
    · rename_i h1 h2
      refine ⟨rfl, ?_, ?_⟩
      · simp only [List.length_append, List.length_take, List.length_drop]; omega
      · simp only [List.length_append, List.length_take, List.length_drop]
        by_cases hc : f.b.length ≤ k.toNat + b.length
        · omega
        · omega
theorem append_ok {d : Dk} (h : d.ok) (n b : List UInt8) : (appendF d n b).2.ok := by
  refine turn_ok h n _ fun f hf => ?_
  have hs := h.sure f hf
  have hu := h.used
  split
  · exact ⟨rfl, hs, by simp only; omega⟩
  · exact ⟨rfl, by simp only [List.length_append]; omega, by simp only [List.length_append]; omega⟩
theorem sync_ok {d : Dk} (h : d.ok) (n : List UInt8) : (syncF d n).2.ok := by
  refine turn_ok h n _ fun f hf => ?_
  have hu := h.used
  exact ⟨rfl, Nat.le_refl _, by simp only; omega⟩
theorem trunc_ok {d : Dk} (h : d.ok) (n : List UInt8) (k : Int) : (truncF d n k).2.ok := by
  refine turn_ok h n _ fun f hf => ?_
  have hs := h.sure f hf
  have hu := h.used
  split
  · exact ⟨rfl, hs, by simp only; omega⟩
  · exact ⟨rfl, by simp only [List.length_take]; omega, by simp only [List.length_take]; omega⟩
theorem ixF_isNone {n : List UInt8} {R : List Fl} (h : (ixF n R).isSome = false) : ∀ f ∈ R, f.nm ≠ n := ixF_none (by simpa using h)
theorem create_ok {d : Dk} (h : d.ok) (n : List UInt8) : (createF d n).2.ok := by
  unfold createF
  split
  · exact h
  · split
    · exact h
    · split
      · exact h
      · split
        · exact h
        · rename_i h1 h2 h3 h4
          have hi : insF ⟨n, [], 0⟩ d.R = d.R.take (posF n d.R) ++ ⟨n, [], 0⟩ :: d.R.drop (posF n d.R) := rfl
          rw [← hi]
          have hlen : (insF ⟨n, [], 0⟩ d.R).length = d.R.length + 1 := by
            have := posF_le n d.R
            rw [hi]; simp; omega
          refine ⟨ins_rise h.rise _ (ixF_isNone (by simpa using h3)), fun f hf => ?_, ?_, h.room, ?_⟩
          · rw [hi] at hf
            rcases List.mem_append.1 hf with hf | hf
            · exact h.sure f (List.mem_of_mem_take hf)
            · rcases List.mem_cons.1 hf with rfl | hf
              · exact Nat.le_refl _
              · exact h.sure f (List.mem_of_mem_drop hf)
          · show ((usedF (insF ⟨n, [], 0⟩ d.R) : Nat) : Int) ≤ d.room
            rw [used_ins]; have := h.used; simp; omega
          · show (insF ⟨n, [], 0⟩ d.R).length ≤ 64
            omega
theorem dropF_le (n : List UInt8) (R : List Fl) : (dropF n R).length ≤ R.length ∧ usedF (dropF n R) ≤ usedF R ∧ (∀ f ∈ dropF n R, f ∈ R) := by
  unfold dropF
  split
  · rename_i i hi
    obtain ⟨f, h1, _, _⟩ := ixF_some hi
    have := used_drop h1
    refine ⟨by simp; omega, by omega, fun f hf => ?_⟩
    rcases List.mem_append.1 hf with hf | hf
    · exact List.mem_of_mem_take hf
    · exact List.mem_of_mem_drop hf
  · exact ⟨Nat.le_refl _, Nat.le_refl _, fun f h => h⟩
theorem dropF_rise {R : List Fl} (h : R.Pairwise (fun a b => bytesBefore a.nm b.nm = true)) (n : List UInt8) : (dropF n R).Pairwise (fun a b => bytesBefore a.nm b.nm = true) := by
  unfold dropF
  split
  · exact drop_rise h _
  · exact h
theorem dropF_not {R : List Fl} (h : R.Pairwise (fun a b => bytesBefore a.nm b.nm = true)) (n : List UInt8) : ∀ f ∈ dropF n R, f.nm ≠ n := by
  unfold dropF
  split
  · rename_i i hi
    obtain ⟨g, h1, h2, h3⟩ := ixF_some hi
    intro f hf e
    rcases List.mem_append.1 hf with hf | hf
    · obtain ⟨j, hj, e2⟩ := List.mem_iff_getElem.1 hf
      have hj' : j < i ∧ j < R.length := by
        have : j < min i R.length := by simpa using hj
        omega
      exact h3 j hj'.1 f (by rw [List.getElem?_eq_getElem hj'.2, ← e2]; simp) e
    · obtain ⟨j, hj, e2⟩ := List.mem_iff_getElem.1 hf
      have hj' : i + 1 + j < R.length := by simp at hj; omega
      have hi' : i < R.length := by omega
      rw [List.pairwise_iff_getElem] at h
      have := h i (i + 1 + j) hi' hj' (by omega)
      rw [List.getElem_drop] at e2
      rw [List.getElem?_eq_getElem hi'] at h1
      injection h1 with h1
      rw [h1, e2, h2, e, bb_irr] at this
      cases this
  · rename_i hi
    exact ixF_none hi
theorem remove_ok {d : Dk} (h : d.ok) (n : List UInt8) : (removeF d n).2.ok := by
  unfold removeF
  split
  · rename_i i e hm
    obtain ⟨_, _, f, hf, _⟩ := may_some hm
    have hu := used_drop hf
    have := h.used
    refine ⟨drop_rise h.rise i, fun x hx => ?_, ?_, h.room, ?_⟩
    · rcases List.mem_append.1 hx with hx | hx
      · exact h.sure x (List.mem_of_mem_take hx)
      · exact h.sure x (List.mem_of_mem_drop hx)
    · show ((usedF (d.R.take i ++ d.R.drop (i + 1)) : Nat) : Int) ≤ d.room
      omega
    · show (d.R.take i ++ d.R.drop (i + 1)).length ≤ 64
      have := h.many; simp; omega
  · exact h
theorem rename_ok {d : Dk} (h : d.ok) (n to : List UInt8) : (renameF d n to).2.ok := by
  unfold renameF
  split
  · rename_i i e hm
    obtain ⟨_, _, f, hf, hfn⟩ := may_some hm
    rw [hf]
    simp only
    split
    · exact h
    · split
      · exact h
      · have hix : ixF n d.R = some i := by
          unfold mayF at hm
          split at hm
          · simp at hm
          · split at hm
            · simp at hm
            · rename_i k hk; simp at hm; rw [hk, hm.1]
        have hd1 : dropF n d.R = d.R.take i ++ d.R.drop (i + 1) := by unfold dropF; rw [hix]
        have hu1 := used_drop hf
        have hl1 : (dropF n d.R).length + 1 ≤ d.R.length := by
          have hi : i < d.R.length := by
            rcases Nat.lt_or_ge i d.R.length with h' | h'
            · exact h'
            · rw [List.getElem?_eq_none h'] at hf; cases hf
          rw [hd1]; simp; omega
        have h2 := dropF_le to (dropF n d.R)
        have h1 := dropF_le n d.R
        have hpos := posF_le to (dropF to (dropF n d.R))
        have hm' := h.many
        have hu' := h.used
        refine ⟨ins_rise (dropF_rise (dropF_rise h.rise n) to) _ (dropF_not (dropF_rise h.rise n) to), fun x hx => ?_, ?_, h.room, ?_⟩
        · unfold insF at hx
          rcases List.mem_append.1 hx with hx | hx
          · exact h.sure x (h1.2.2 x (h2.2.2 x (List.mem_of_mem_take hx)))
          · rcases List.mem_cons.1 hx with rfl | hx
            · exact h.sure f (List.mem_of_getElem? hf)
            · exact h.sure x (h1.2.2 x (h2.2.2 x (List.mem_of_mem_drop hx)))
        · show ((usedF (insF ⟨to, f.b, f.sure⟩ (dropF to (dropF n d.R))) : Nat) : Int) ≤ d.room
          rw [used_ins, hd1] at *
          simp only
          have := h2.2.1
          rw [hd1] at this
          omega
        · show (insF ⟨to, f.b, f.sure⟩ (dropF to (dropF n d.R))).length ≤ 64
          unfold insF
          simp only [List.length_append, List.length_cons, List.length_take, List.length_drop]
          omega
  · exact h
theorem crashB_ok (k : Int) {f : Fl} (h : f.sure ≤ f.b.length) : (crashB k f).nm = f.nm ∧ (crashB k f).sure = (crashB k f).b.length ∧ (crashB k f).b.length ≤ f.b.length ∧ f.sure ≤ (crashB k f).b.length := by
  have hb : 0 ≤ bareF k := by unfold bareF; split <;> (try split) <;> omega
  have h1 := Int.emod_nonneg (bareF k) (b := (f.b.length : Int) - f.sure + 1) (by omega)
  have h2 := Int.emod_lt_of_pos (bareF k) (b := (f.b.length : Int) - f.sure + 1) (by omega)
  unfold crashB
  simp only [List.length_take]
  refine ⟨trivial, ?_, ?_, ?_⟩ <;> omega
theorem crash_ok {d : Dk} (h : d.ok) (k : Int) : (crashF d k).2.ok := by
  unfold crashF
  split
  · exact h
  · have hu : ∀ R : List Fl, (∀ f ∈ R, f.sure ≤ f.b.length) → usedF (R.map (crashB k)) ≤ usedF R := by
      intro R
      induction R with
      | nil => intro _; exact Nat.le_refl _
      | cons x r ih =>
        intro hs
        have h1 := (crashB_ok k (hs x (by simp))).2.2.1
        have h2 := ih (fun f hf => hs f (List.mem_cons_of_mem _ hf))
        unfold usedF at h2 ⊢
        simp only [List.map_cons, List.sum_cons]
        omega
    refine ⟨?_, fun f hf => ?_, ?_, h.room, ?_⟩
    · refine List.pairwise_map.2 (h.rise.imp_of_mem fun {a b} ha hb hab => ?_)
      rw [(crashB_ok k (h.sure a ha)).1, (crashB_ok k (h.sure b hb)).1]; exact hab
    · obtain ⟨g, hg, rfl⟩ := List.mem_map.1 hf
      have := (crashB_ok k (h.sure g hg)).2.1; omega
    · have := hu d.R h.sure; have := h.used; show ((usedF (d.R.map (crashB k)) : Nat) : Int) ≤ d.room; omega
    · show (d.R.map (crashB k)).length ≤ 64
      rw [List.length_map]; exact h.many
theorem restart_ok {d : Dk} (h : d.ok) : (restartF d).2.ok := by
  unfold restartF
  split
  · exact ⟨h.rise, h.sure, h.used, h.room, h.many⟩
  · exact h
end Go.Proofs.YtoikjgcggmemaaaGreatDoor

/- A disk as a set of files: what each call answers and leaves, told by the files that are there. Plain. -/
namespace Go.Proofs.YtoikjgcggmemaaaGreatDoor
set_option linter.unusedVariables false

theorem rise_ne {R : List Fl} (h : R.Pairwise (fun a b => bytesBefore a.nm b.nm = true)) {i j : Nat} {f g : Fl} (hi : R[i]? = some f) (hj : R[j]? = some g) (hne : i ≠ j) : f.nm ≠ g.nm := by
  obtain ⟨h1, e1⟩ := List.getElem?_eq_some_iff.1 hi
  obtain ⟨h2, e2⟩ := List.getElem?_eq_some_iff.1 hj
  rw [List.pairwise_iff_getElem] at h
  intro e
  rcases Nat.lt_or_gt_of_ne hne with k | k
  · have := h i j h1 h2 k
    rw [e1, e2, e, bb_irr] at this
    cases this
  · have := h j i h2 h1 k
    rw [e1, e2, e, bb_irr] at this
    cases this
theorem rise_inj {R : List Fl} (h : R.Pairwise (fun a b => bytesBefore a.nm b.nm = true)) {f g : Fl} (hf : f ∈ R) (hg : g ∈ R) (e : f.nm = g.nm) : f = g := by
  obtain ⟨i, hi⟩ := List.getElem?_of_mem hf
  obtain ⟨j, hj⟩ := List.getElem?_of_mem hg
  by_cases hij : i = j
  · subst hij
    rw [hi] at hj
    injection hj
  · exact absurd e (rise_ne h hi hj hij)
theorem may_mem {d : Dk} (hd : d.ok) (ho : d.off = false) {f : Fl} (hf : f ∈ d.R) : ∃ i, mayF d f.nm = (some i, 0) ∧ d.R[i]? = some f := by
  unfold mayF
  rw [ho]
  simp only [Bool.false_eq_true, if_false]
  cases h : ixF f.nm d.R with
  | none => exact absurd rfl (ixF_none h f hf)
  | some i =>
    obtain ⟨g, h1, h2, _⟩ := ixF_some h
    obtain rfl := rise_inj hd.rise (List.mem_of_getElem? h1) hf h2
    exact ⟨i, rfl, h1⟩
theorem may_no {d : Dk} (ho : d.off = false) {n : List UInt8} (hn : ∀ f ∈ d.R, f.nm ≠ n) : mayF d n = (none, 4) := by
  unfold mayF
  rw [ho]
  simp only [Bool.false_eq_true, if_false]
  cases h : ixF n d.R with
  | none => rfl
  | some i =>
    obtain ⟨g, h1, h2, _⟩ := ixF_some h
    exact absurd h2 (hn g (List.mem_of_getElem? h1))
theorem set_self {R : List Fl} {i : Nat} {f : Fl} (hi : R[i]? = some f) : R.set i f = R := by
  apply List.ext_getElem?
  intro j
  rw [List.getElem?_set]
  split
  · rename_i e
    subst e
    rw [if_pos (List.getElem?_eq_some_iff.1 hi).1, hi]
  · rfl
theorem mem_set_iff {R : List Fl} (h : R.Pairwise (fun a b => bytesBefore a.nm b.nm = true)) {i : Nat} {f g : Fl} (hi : R[i]? = some f) (x : Fl) : x ∈ R.set i g ↔ x = g ∨ (x ∈ R ∧ x.nm ≠ f.nm) := by
  constructor
  · intro hx
    obtain ⟨j, hj⟩ := List.getElem?_of_mem hx
    rw [List.getElem?_set] at hj
    split at hj
    · rename_i e
      subst e
      rw [if_pos (List.getElem?_eq_some_iff.1 hi).1] at hj
      injection hj with hj
      exact .inl hj.symm
    · rename_i e
      exact .inr ⟨List.mem_of_getElem? hj, rise_ne h hj hi (fun k => e k.symm)⟩
  · rintro (rfl | ⟨hx, hn⟩)
    · exact List.mem_of_getElem? (i := i) (by rw [List.getElem?_set, if_pos rfl, if_pos (List.getElem?_eq_some_iff.1 hi).1])
    · obtain ⟨j, hj⟩ := List.getElem?_of_mem hx
      refine List.mem_of_getElem? (i := j) ?_
      rw [List.getElem?_set, if_neg, hj]
      intro e
      subst e
      rw [hi] at hj
      injection hj with hj
      subst hj
      exact hn rfl
/-- a file turned -/
theorem turn_mem {d : Dk} (hd : d.ok) (ho : d.off = false) {f : Fl} (hf : f ∈ d.R) (g : Fl → Int × Fl) : ∃ d', turnF d f.nm g = ((g f).1, d') ∧ d'.off = false ∧ d'.room = d.room ∧ d'.R.length = d.R.length ∧ usedF d'.R + f.b.length = usedF d.R + (g f).2.b.length ∧
    ∀ x, x ∈ d'.R ↔ x = (g f).2 ∨ (x ∈ d.R ∧ x.nm ≠ f.nm) := by
  obtain ⟨i, h1, h2⟩ := may_mem hd ho hf
  refine ⟨{ d with R := d.R.set i (g f).2 }, ?_, ho, rfl, List.length_set .., used_set h2, mem_set_iff hd.rise h2⟩
  unfold turnF
  rw [h1]
  simp only [h2]
theorem turn_same {d : Dk} (hd : d.ok) (ho : d.off = false) {f : Fl} (hf : f ∈ d.R) (g : Fl → Int × Fl) (hg : (g f).2 = f) : turnF d f.nm g = ((g f).1, d) := by
  obtain ⟨i, h1, h2⟩ := may_mem hd ho hf
  unfold turnF
  rw [h1]
  simp only [h2, hg, set_self h2]
theorem append_no {d : Dk} (hd : d.ok) (ho : d.off = false) {f : Fl} (hf : f ∈ d.R) {b : List UInt8} (h : d.room - usedF d.R < (b.length : Int)) : appendF d f.nm b = (30, d) := by
  unfold appendF
  rw [turn_same hd ho hf _ (by simp only [if_pos h])]
  simp only [if_pos h]
theorem append_yes {d : Dk} (hd : d.ok) (ho : d.off = false) {f : Fl} (hf : f ∈ d.R) {b : List UInt8} (h : ¬ d.room - usedF d.R < (b.length : Int)) : ∃ d', appendF d f.nm b = (0, d') ∧ d'.ok ∧ d'.off = false ∧ d'.room = d.room ∧ d'.R.length = d.R.length ∧
    ∀ x, x ∈ d'.R ↔ x = ⟨f.nm, f.b ++ b, f.sure⟩ ∨ (x ∈ d.R ∧ x.nm ≠ f.nm) := by
  obtain ⟨d', h1, h2, h3, h4, _, h6⟩ := turn_mem hd ho hf fun f => if d.room - usedF d.R < (b.length : Int) then (30, f) else (0, ⟨f.nm, f.b ++ b, f.sure⟩)
  have e : appendF d f.nm b = ((if d.room - usedF d.R < (b.length : Int) then ((30, f) : Int × Fl) else (0, ⟨f.nm, f.b ++ b, f.sure⟩)).1, d') := h1
  rw [if_neg h] at e
  simp only [if_neg h] at h6
  have ok := append_ok hd f.nm b
  rw [e] at ok
  exact ⟨d', e, ok, h2, h3, h4, h6⟩
theorem sync_mem {d : Dk} (hd : d.ok) (ho : d.off = false) {f : Fl} (hf : f ∈ d.R) : ∃ d', syncF d f.nm = (0, d') ∧ d'.ok ∧ d'.off = false ∧ d'.room = d.room ∧ d'.R.length = d.R.length ∧
    ∀ x, x ∈ d'.R ↔ x = ⟨f.nm, f.b, f.b.length⟩ ∨ (x ∈ d.R ∧ x.nm ≠ f.nm) := by
  obtain ⟨d', h1, h2, h3, h4, _, h6⟩ := turn_mem hd ho hf fun f => (0, ⟨f.nm, f.b, f.b.length⟩)
  have e : syncF d f.nm = (0, d') := h1
  have ok := sync_ok hd f.nm
  rw [e] at ok
  exact ⟨d', e, ok, h2, h3, h4, h6⟩
theorem trunc_mem {d : Dk} (hd : d.ok) (ho : d.off = false) {f : Fl} (hf : f ∈ d.R) {k : Nat} (hk : k ≤ f.b.length) : ∃ d', truncF d f.nm (k : Int) = (0, d') ∧ d'.ok ∧ d'.off = false ∧ d'.room = d.room ∧ d'.R.length = d.R.length ∧
    ∀ x, x ∈ d'.R ↔ x = ⟨f.nm, f.b.take k, min f.sure k⟩ ∨ (x ∈ d.R ∧ x.nm ≠ f.nm) := by
  obtain ⟨d', h1, h2, h3, h4, _, h6⟩ := turn_mem hd ho hf fun f => if (k : Int) < 0 ∨ (f.b.length : Int) < (k : Int) then (1, f) else (0, ⟨f.nm, f.b.take (k : Int).toNat, min f.sure (k : Int).toNat⟩)
  have hn : ¬ ((k : Int) < 0 ∨ (f.b.length : Int) < (k : Int)) := by omega
  simp only [if_neg hn, Int.toNat_natCast] at h1 h6
  have e : truncF d f.nm (k : Int) = (0, d') := by unfold truncF; simpa using h1
  have ok := trunc_ok hd f.nm (k : Int)
  rw [e] at ok
  exact ⟨d', e, ok, h2, h3, h4, h6⟩
theorem create_mem {d : Dk} (hd : d.ok) (ho : d.off = false) {n : List UInt8} (hn : n ≠ []) (hno : ∀ f ∈ d.R, f.nm ≠ n) : (64 ≤ d.R.length ∧ createF d n = (6, d)) ∨ ∃ d', createF d n = (0, d') ∧ d'.ok ∧ d'.off = false ∧ d'.room = d.room ∧
    ∀ x, x ∈ d'.R ↔ x = ⟨n, [], 0⟩ ∨ x ∈ d.R := by
  have hx : (ixF n d.R).isSome = false := by
    cases h : ixF n d.R with
    | none => rfl
    | some i =>
      obtain ⟨g, h1, h2, _⟩ := ixF_some h
      exact absurd h2 (hno g (List.mem_of_getElem? h1))
  by_cases h64 : 64 ≤ d.R.length
  · left
    refine ⟨h64, ?_⟩
    unfold createF
    rw [ho, if_neg (by simp), if_neg hn, hx, if_neg (by simp), if_pos h64]
  · right
    have e : createF d n = (0, { d with R := d.R.take (posF n d.R) ++ ⟨n, [], 0⟩ :: d.R.drop (posF n d.R) }) := by
      unfold createF
      rw [ho, if_neg (by simp), if_neg hn, hx, if_neg (by simp), if_neg h64]
    have ok := create_ok hd n
    rw [e] at ok
    refine ⟨_, e, ok, ho, rfl, fun x => ?_⟩
    conv => rhs; rhs; rw [← List.take_append_drop (posF n d.R) d.R]
    simp only [List.mem_append, List.mem_cons]
    exact ⟨fun h => by rcases h with h | h | h <;> simp [h], fun h => by rcases h with h | h | h <;> simp [h]⟩
theorem remove_mem {d : Dk} (hd : d.ok) (ho : d.off = false) {f : Fl} (hf : f ∈ d.R) : ∃ d', removeF d f.nm = (0, d') ∧ d'.ok ∧ d'.off = false ∧ d'.room = d.room ∧ ∀ x, x ∈ d'.R ↔ x ∈ d.R ∧ x.nm ≠ f.nm := by
  obtain ⟨i, h1, h2⟩ := may_mem hd ho hf
  have e : removeF d f.nm = (0, { d with R := d.R.take i ++ d.R.drop (i + 1) }) := by unfold removeF; rw [h1]
  have ok := remove_ok hd f.nm
  rw [e] at ok
  refine ⟨_, e, ok, ho, rfl, fun x => ?_⟩
  have hl := (List.getElem?_eq_some_iff.1 h2).1
  constructor
  · intro hx
    rcases List.mem_append.1 hx with hx | hx
    · obtain ⟨j, hj⟩ := List.getElem?_of_mem hx
      rw [List.getElem?_take] at hj
      split at hj
      · rename_i k
        exact ⟨List.mem_of_getElem? hj, rise_ne hd.rise hj h2 (by omega)⟩
      · cases hj
    · obtain ⟨j, hj⟩ := List.getElem?_of_mem hx
      rw [List.getElem?_drop] at hj
      exact ⟨List.mem_of_getElem? hj, rise_ne hd.rise hj h2 (by omega)⟩
  · rintro ⟨hx, hn⟩
    obtain ⟨j, hj⟩ := List.getElem?_of_mem hx
    have hij : j ≠ i := fun k => by subst k; rw [h2] at hj; injection hj with hj; subst hj; exact hn rfl
    rcases Nat.lt_or_gt_of_ne hij with k | k
    · exact List.mem_append.2 (.inl (List.mem_of_getElem? (i := j) (by rw [List.getElem?_take, if_pos k]; exact hj)))
    · exact List.mem_append.2 (.inr (List.mem_of_getElem? (i := j - (i + 1)) (by rw [List.getElem?_drop, show i + 1 + (j - (i + 1)) = j by omega]; exact hj)))
theorem get_mem {d : Dk} (hd : d.ok) (ho : d.off = false) {f : Fl} (hf : f ∈ d.R) : getF d f.nm = (f.b, 0) := by
  obtain ⟨i, h1, h2⟩ := may_mem hd ho hf
  unfold getF
  rw [h1]
  simp [h2]
theorem crash_mem {d : Dk} (ho : d.off = false) (k : Int) : ∃ d', crashF d k = (0, d') ∧ d'.off = true ∧ d'.room = d.room ∧ ∀ x, x ∈ d'.R ↔ ∃ f ∈ d.R, x = crashB k f := by
  refine ⟨{ d with R := d.R.map (crashB k), off := true }, ?_, rfl, rfl, fun x => ?_⟩
  · unfold crashF
    rw [ho]
    rfl
  · simp only [List.mem_map]
    exact ⟨fun ⟨f, h1, h2⟩ => ⟨f, h1, h2.symm⟩, fun ⟨f, h1, h2⟩ => ⟨f, h1, h2.symm⟩⟩
end Go.Proofs.YtoikjgcggmemaaaGreatDoor
