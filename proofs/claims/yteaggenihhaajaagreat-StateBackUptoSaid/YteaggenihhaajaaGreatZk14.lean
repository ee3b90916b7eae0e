/- Lemmas and contracts, part 14. -/
import Derived.Test.YteaggenihhaajaaGreatZk13
/- Walks computed: what a function does with few objects it does beside any others (FnS.big); what only computes (FnS.pure). No program here. -/
namespace Go.Proofs.YteaggenihhaajaaGreat
open Go.RowKit
set_option linter.unusedVariables false

def isC : AO → Bool
  | .cells _ _ => true
  | _ => false
def pos : List Nat → Nat → Nat → Option Nat
  | [], _, _ => none
  | s :: r, o, i => bif Nat.beq s o then some i else pos r o (i + 1)
def sgm (n : Nat) (σ : List Nat) (h : List AO) : Nat → List AO → List Nat
  | _, [] => []
  | j, _ :: r => (bif isC (lh h j) then (match ln σ j with | some o => o | none => n + j) else n + j) :: sgm n σ h (j + 1) r
def bas (σ σ' : List Nat) (h h' : List AO) : Nat → List AO → List AO
  | _, [] => []
  | o, a :: l => (match pos σ o 0 with
    | none => a
    | some i => bif isC (lh h i) then (lh h' i).ren σ' else .gone) :: bas σ σ' h h' (o + 1) l
def fre (σ' : List Nat) (h : List AO) : Nat → List AO → List AO
  | _, [] => []
  | j, a :: r => (bif isC (lh h j) then .gone else a.ren σ') :: fre σ' h (j + 1) r
/-- the names of what a callee leaves, in the caller's memory -/
def upS (hb : List AO) (σ : List Nat) (h h' : List AO) : List Nat := sgm hb.length σ h 0 h'
/-- the caller's memory behind the call -/
def upH (hb : List AO) (σ : List Nat) (h h' : List AO) : List AO := bas σ (upS hb σ h h') h h' 0 hb ++ fre (upS hb σ h h') h 0 h'
theorem pos_none : ∀ {σ : List Nat} {o i : Nat}, pos σ o i = none → o ∉ σ
  | [], o, i, _ => by simp
  | s :: r, o, i, h => by
    simp only [pos] at h
    cases hb : Nat.beq s o with
    | true => rw [hb] at h; cases h
    | false =>
      rw [hb] at h
      have := pos_none (σ := r) h
      intro hm
      rcases List.mem_cons.1 hm with rfl | hm
      · rw [Nat.beq_refl] at hb; cases hb
      · exact this hm
theorem pos_some : ∀ {σ : List Nat} {o i k : Nat}, pos σ o i = some k → i ≤ k ∧ σ[k - i]? = some o
  | [], o, i, k, h => by simp [pos] at h
  | s :: r, o, i, k, h => by
    simp only [pos] at h
    cases hb : Nat.beq s o with
    | true =>
      rw [hb] at h
      injection h with h
      subst h
      exact ⟨Nat.le_refl _, by simp [Nat.eq_of_beq_eq_true hb]⟩
    | false =>
      rw [hb] at h
      obtain ⟨h1, h2⟩ := pos_some (σ := r) h
      refine ⟨by omega, ?_⟩
      rw [show k - i = k - (i + 1) + 1 from by omega]
      simpa using h2
theorem sgm_get (n : Nat) (σ : List Nat) (h : List AO) : ∀ (l : List AO) (k j : Nat), (sgm n σ h k l)[j]? = (l[j]?).map fun _ => (bif isC (lh h (k + j)) then (match ln σ (k + j) with | some o => o | none => n + (k + j)) else n + (k + j))
  | [], k, j => by simp [sgm]
  | a :: l, k, 0 => by simp [sgm]
  | a :: l, k, j + 1 => by simp [sgm, sgm_get n σ h l (k + 1) j, Nat.add_assoc, Nat.add_comm 1 j]
theorem bas_get (σ σ' : List Nat) (h h' : List AO) : ∀ (l : List AO) (k o : Nat), (bas σ σ' h h' k l)[o]? = (l[o]?).map fun a => (match pos σ (k + o) 0 with
    | none => a
    | some i => bif isC (lh h i) then (lh h' i).ren σ' else .gone)
  | [], k, j => by simp [bas]
  | a :: l, k, 0 => by simp [bas]
  | a :: l, k, j + 1 => by simp [bas, bas_get σ σ' h h' l (k + 1) j, Nat.add_assoc, Nat.add_comm 1 j]
theorem fre_get (σ' : List Nat) (h : List AO) : ∀ (l : List AO) (k j : Nat), (fre σ' h k l)[j]? = (l[j]?).map fun a => (bif isC (lh h (k + j)) then AO.gone else a.ren σ')
  | [], k, j => by simp [fre]
  | a :: l, k, 0 => by simp [fre]
  | a :: l, k, j + 1 => by simp [fre, fre_get σ' h l (k + 1) j, Nat.add_assoc, Nat.add_comm 1 j]
theorem bas_len (σ σ' : List Nat) (h h' : List AO) : ∀ (l : List AO) (k : Nat), (bas σ σ' h h' k l).length = l.length
  | [], k => rfl
  | a :: l, k => by simp [bas, bas_len σ σ' h h' l (k + 1)]
theorem fre_len (σ' : List Nat) (h : List AO) : ∀ (l : List AO) (k : Nat), (fre σ' h k l).length = l.length
  | [], k => rfl
  | a :: l, k => by simp [fre, fre_len σ' h l (k + 1)]
theorem isC_lh {h : List AO} {j : Nat} (k : isC (lh h j) = true) : ∃ t cs, h[j]? = some (.cells t cs) := by
  cases hq : lh h j with
  | cells t cs => exact ⟨t, cs, lh_cells hq⟩
  | row t n xs => rw [hq] at k; cases k
  | gone => rw [hq] at k; cases k
section
variable {P : Program} {f : FuncId} {az : List D} {h : List AO} {Post : D → List AO → Prop}
theorem FnS.big [Wd] (hF : FnS P f az h Post) {hb : List AO} {σ : List Nat} (V : View σ hb h) {as' : List D} (hc : Cos as' (D.ren.rl σ az)) {M : List Nat} (hM : ∀ o ∈ σ, o ∈ M) :
    FnB P f as' hb M fun r h2 => ∃ r0 h0, Post r0 h0 ∧ r = r0.ren (upS hb σ h h0) ∧ h2 = upH hb σ h h0 := by
  refine ⟨hF.1, fun w I g vs hW hd hv => ?_⟩
  have hσ := gv_get V hd.len
  have hds := hd.view V
  refine (hF.2 w I (gv σ g) vs hW hds ((hc.ok hv).down hσ)).mono ?_
  rintro e w' ⟨v, I', gs', r0, h0, rfl, hpost, hd0, hv0, hx, i1, i2, ow, ck⟩
  have hgl : g.length = hb.length := hd.len
  have h0l : gs'.length = h0.length := hd0.len
  -- the names
  have hup : ∀ (j : Nat) p, gs'[j]? = some p → ∃ o, (upS hb σ h h0)[j]? = some o ∧ (g ++ gs')[o]? = some p ∧ ((isC (lh h j) = true ∧ σ[j]? = some o) ∨ (isC (lh h j) = false ∧ o = hb.length + j)) := by
    intro j p hp
    have hj : j < h0.length := by rw [← h0l]; exact (List.getElem?_eq_some_iff.1 hp).1
    have e := sgm_get hb.length σ h h0 0 j
    rw [List.getElem?_eq_getElem hj, Nat.zero_add] at e
    simp only [Option.map_some] at e
    cases hq : isC (lh h j) with
    | true =>
      obtain ⟨t, cs, hcs⟩ := isC_lh hq
      have hlt : j < σ.length := by rw [V.len]; exact (List.getElem?_eq_some_iff.1 hcs).1
      have hs := List.getElem?_eq_getElem hlt
      refine ⟨σ[j], ?_, ?_, .inl ⟨rfl, hs⟩⟩
      · rw [upS, e, hq, ln_get, hs]; rfl
      · have e1 := hσ j _ hs
        have hg : g[σ[j]]? = some (g[σ[j]]'(by rw [hgl]; exact V.lt hs)) := List.getElem?_eq_getElem _
        rw [hg] at e1
        have := (ck j _ t cs e1 hcs).1
        rw [hp] at this
        injection this with this
        rw [List.getElem?_append_left (by rw [hgl]; exact V.lt hs), hg, this]
    | false =>
      refine ⟨hb.length + j, ?_, ?_, .inr ⟨rfl, rfl⟩⟩
      · rw [upS, e, hq]; rfl
      · rw [← hgl, List.getElem?_append_right (by omega)]
        simpa using hp
  have hup1 : ∀ (j : Nat) p, gs'[j]? = some p → ∃ o, (upS hb σ h h0)[j]? = some o ∧ (g ++ gs')[o]? = some p := fun j p hp => let ⟨o, a, b, _⟩ := hup j p hp; ⟨o, a, b⟩
  -- who lies there
  have who : ∀ (o : Nat) ao p, (upH hb σ h h0)[o]? = some ao → (g ++ gs')[o]? = some p → ao ≠ .gone →
      (o < hb.length ∧ o ∉ σ ∧ hb[o]? = some ao ∧ g[o]? = some p) ∨ (∃ j a0, h0[j]? = some a0 ∧ gs'[j]? = some p ∧ ao = a0.ren (upS hb σ h h0) ∧ (upS hb σ h h0)[j]? = some o ∧ ((isC (lh h j) = true ∧ σ[j]? = some o) ∨ (isC (lh h j) = false ∧ o = hb.length + j))) := by
    intro o ao p h1 h2 hne
    rw [upH, List.getElem?_append, bas_len] at h1
    split at h1
    · rename_i hlt
      rw [bas_get, Nat.zero_add] at h1
      have hg : g[o]? = some p := by rw [List.getElem?_append_left (by omega)] at h2; exact h2
      cases hbo : hb[o]? with
      | none => rw [hbo] at h1; cases h1
      | some a =>
        rw [hbo] at h1
        simp only [Option.map_some] at h1
        injection h1 with h1
        cases hp : pos σ o 0 with
        | none =>
          rw [hp] at h1
          simp only at h1
          subst h1
          exact .inl ⟨hlt, pos_none hp, rfl, hg⟩
        | some i =>
          rw [hp] at h1
          simp only at h1
          obtain ⟨_, hi⟩ := pos_some hp
          rw [Nat.sub_zero] at hi
          cases hq : isC (lh h i) with
          | false => rw [hq] at h1; exact absurd h1.symm hne
          | true =>
            rw [hq] at h1
            simp only [cond_true] at h1
            obtain ⟨t, cs, hcs⟩ := isC_lh hq
            have e1 : (gv σ g)[i]? = some p := by rw [hσ i o hi]; exact hg
            obtain ⟨e2, t', cs', e3⟩ := ck i p t cs e1 hcs
            obtain ⟨o2, k1, k2, k3⟩ := hup i p e2
            have ho : o2 = o := by
              rcases k3 with ⟨_, k⟩ | ⟨k, _⟩
              · rw [hi] at k; injection k with k; exact k.symm
              · rw [hq] at k; cases k
            subst ho
            have e4 : lh h0 i = .cells t' cs' := by
              rcases lh_get h0 i with e | e
              · have hlt0 := (List.getElem?_eq_some_iff.1 e3).1
                have : ∀ (l : List AO) (n : Nat) a, l[n]? = some a → lh l n = a := by
                  intro l
                  induction l with
                  | nil => intro n a h; simp at h
                  | cons b l ih =>
                    intro n a h
                    cases n with
                    | zero => simp at h; simp [lh, h]
                    | succ n => simp at h; simp [lh, ih n a h]
                exact this h0 i _ e3
              · rw [e3] at e; injection e with e; exact e.symm
            exact .inr ⟨i, _, e3, e2, by rw [← h1, e4], k1, k3⟩
    · rename_i hge
      rw [fre_get, Nat.zero_add] at h1
      have hge' : hb.length ≤ o := by omega
      cases hh : h0[o - hb.length]? with
      | none => rw [hh] at h1; cases h1
      | some a0 =>
        rw [hh] at h1
        simp only [Option.map_some] at h1
        injection h1 with h1
        cases hq : isC (lh h (o - hb.length)) with
        | true => rw [hq] at h1; exact absurd h1.symm hne
        | false =>
          rw [hq] at h1
          simp only [cond_false] at h1
          have hg : gs'[o - hb.length]? = some p := by
            rw [List.getElem?_append_right (by omega), hgl] at h2; exact h2
          obtain ⟨o2, k1, k2, k3⟩ := hup _ p hg
          have ho : o2 = o := by
            rcases k3 with ⟨k, _⟩ | ⟨_, k⟩
            · rw [hq] at k; cases k
            · omega
          subst ho
          exact .inr ⟨_, a0, hh, hg, h1.symm, k1, k3⟩
  have hng : ∀ {p : Option Nat × Value} {ao : AO} {b : Nat}, ao.owns p b → ao ≠ .gone := by
    intro p ao b hb e
    subst e
    exact hb
  -- what nobody touched
  have hold : ∀ (o : Nat) ao p b, o ∉ σ → hb[o]? = some ao → g[o]? = some p → ao.owns p b → ¬ Owned (gv σ g) h b ∧ b < w.heap.size := by
    intro o ao p b hn h1 h2 h3
    refine ⟨fun hO => ?_, hd.lt ⟨o, ao, p, h1, h2, h3⟩⟩
    obtain ⟨o2, ao2, p2, hm, q1, q2, q3⟩ := Owned.view V hd.len hO
    have := hd.sep o o2 ao ao2 p p2 b h1 q1 h2 q2 h3 q3
    subst this
    exact hn hm
  have hIn : ∀ b, I b → ¬ Owned (gv σ g) h b := by
    rintro b hb' ⟨o, ao, p, q1, q2, q3⟩
    exact hds.own o ao p b q1 q2 q3 hb'
  have hOM : ∀ b, Owned (gv σ g) h b → OwnedIn M g hb b := by
    intro b hO
    obtain ⟨o2, ao2, p2, hm, q1, q2, q3⟩ := Owned.view V hd.len hO
    exact ⟨o2, ao2, p2, hM o2 hm, q1, q2, q3⟩
  refine ⟨v, I', g ++ gs', r0.ren (upS hb σ h h0), upH hb σ h h0, rfl, ⟨r0, h0, hpost, rfl, rfl⟩, ⟨⟨?_, hd0.inn, fun o ao p h1 h2 => ?_, fun o ao p b h1 h2 h3 hI => ?_, fun o o' ao ao' p p' b h1 h1' h2 h2' h3 h3' => ?_⟩, hx.mono (fun b _ hO => hOM b hO), i1, fun b hb' => (i2 b hb').imp id (Or.imp (hOM b) id), fun o p hp => by rw [List.getElem?_append_left (List.getElem?_eq_some_iff.1 hp).1]; exact hp, fun o ho hn => ?_, fun o ao p b ho h1 h2 h3 => ?_, fun o ao p b ho h1 h2 h3 => ?_⟩, hv0.up hup1⟩
  · rw [upH, List.length_append, List.length_append, bas_len, fre_len, hgl, h0l]
  · by_cases hne : ao = .gone
    · subst hne; trivial
    · rcases who o ao p h1 h2 hne with ⟨_, hn, q1, q2⟩ | ⟨j, a0, q1, q2, rfl, _, _⟩
      · exact ((hd.obj o ao p q1 q2).ext hx hIn (fun b hb' => (hold o ao p b hn q1 q2 hb').1)).mono i1 (fun o p hp => by rw [List.getElem?_append_left (List.getElem?_eq_some_iff.1 hp).1]; exact hp)
      · exact (hd0.obj j a0 p q1 q2).up hup1
  · rcases who o ao p h1 h2 (hng h3) with ⟨_, hn, q1, q2⟩ | ⟨j, a0, q1, q2, rfl, _, _⟩
    · obtain ⟨k1, k2⟩ := hold o ao p b hn q1 q2 h3
      rcases i2 b hI with e | e | e
      · exact hd.own o ao p b q1 q2 h3 e
      · exact k1 e
      · omega
    · exact hd0.own j a0 p b q1 q2 ((AO.owns_ren _ p a0 b).1 h3) hI
  · rcases who o ao p h1 h2 (hng h3) with ⟨_, hn, q1, q2⟩ | ⟨j, a0, q1, q2, rfl, q3, _⟩ <;> rcases who o' ao' p' h1' h2' (hng h3') with ⟨_, hn', q1', q2'⟩ | ⟨j', a0', q1', q2', rfl, q3', _⟩
    · exact hd.sep o o' ao ao' p p' b q1 q1' q2 q2' h3 h3'
    · obtain ⟨k1, k2⟩ := hold o ao p b hn q1 q2 h3
      rcases ow b ⟨j', a0', p', q1', q2', (AO.owns_ren _ p' a0' b).1 h3'⟩ with e | e
      · exact absurd e k1
      · omega
    · obtain ⟨k1, k2⟩ := hold o' ao' p' b hn' q1' q2' h3'
      rcases ow b ⟨j, a0, p, q1, q2, (AO.owns_ren _ p a0 b).1 h3⟩ with e | e
      · exact absurd e k1
      · omega
    · have := hd0.sep j j' a0 a0' p p' b q1 q1' q2 q2' ((AO.owns_ren _ p a0 b).1 h3) ((AO.owns_ren _ p' a0' b).1 h3')
      subst this
      rw [q3] at q3'
      injection q3'
  · have hns : o ∉ σ := fun hm => hn (hM o hm)
    rw [upH, List.getElem?_append_left (by rw [bas_len]; exact ho), bas_get, Nat.zero_add]
    cases hp : pos σ o 0 with
    | none => simp
    | some i =>
      obtain ⟨_, hi⟩ := pos_some hp
      rw [Nat.sub_zero] at hi
      exact absurd (List.mem_of_getElem? hi) hns
  · rcases who o ao p h1 h2 (hng h3) with ⟨_, hn, q1, q2⟩ | ⟨j, a0, q1, q2, rfl, q3, q4⟩
    · exact ⟨ao, q1, h3⟩
    · rcases q4 with ⟨k1, k2⟩ | ⟨_, k⟩
      · obtain ⟨t, cs, hcs⟩ := isC_lh k1
        have e1 := V.obj j o _ k2 hcs
        have hg : (gv σ g)[j]? = g[o]? := hσ j o k2
        have hgs : g[o]? = some (g[o]'(by rw [hgl]; exact ho)) := List.getElem?_eq_getElem _
        rw [hgs] at hg
        obtain ⟨e2, t', cs', e3⟩ := ck j _ t cs hg hcs
        rw [q2] at e2
        injection e2 with e2
        rw [q1] at e3
        injection e3 with e3
        subst e3
        refine ⟨_, e1, ?_⟩
        have h4 : p.1 = some b := h3
        exact h4
      · omega
  · rcases who o ao p h1 h2 (hng h3) with ⟨hlt, _, _, _⟩ | ⟨j, a0, q1, q2, rfl, q3, q4⟩
    · omega
    · exact (ow b ⟨j, a0, p, q1, q2, (AO.owns_ren _ p a0 b).1 h3⟩).imp (hOM b) id
/-- a function that takes no objects, beside any -/
theorem FnS.pure [Wd] {R : D → Prop} (hF : FnS P f az [] (fun r h' => R r ∧ h' = [])) (hp : pureD.pl az = true) {as' : List D} (hc : Cos as' az) {hb : List AO} {M : List Nat} : FnB P f as' hb M fun r h2 => R r ∧ h2 = hb := by
  refine ⟨hF.1, fun w I g vs hW hd hv => ?_⟩
  have hd0 : Den I [] w [] := ⟨rfl, hd.inn, fun o ao p h1 => by simp at h1, fun o ao p b h1 => by simp at h1, fun o o' ao ao' p p' b h1 => by simp at h1⟩
  refine (hF.2 w I [] vs hW hd0 (pureL_ok (hc.ok hv) hp).vrs).mono ?_
  rintro e w' ⟨v, I', gs', r0, h0, rfl, ⟨hR, rfl⟩, hd1, hv0, hx, i1, i2, ow, ck⟩
  have hg : gs' = [] := List.eq_nil_of_length_eq_zero hd1.len
  subst hg
  have hno : ∀ b, ¬ Owned [] [] b := by rintro b ⟨o, ao, p, q1, _⟩; simp at q1
  have hx' : Ext (fun _ => False) w w' := hx.mono (fun b _ hb => hno b hb)
  refine ⟨v, I', g, r0, hb, rfl, ⟨hR, rfl⟩, ⟨((hd.ext hx' (fun _ _ => id) (fun _ _ => id))).inns i1 hd1.inn (fun b hI hO => ?_), hx'.mono (fun _ _ h => h.elim), i1, fun b hI => (i2 b hI).imp id (Or.imp (fun h => absurd h (hno b)) id), fun _ _ h => h, fun _ _ _ => rfl, fun o ao p b ho h1 _ h3 => ⟨ao, h1, h3⟩, fun o ao p b ho h1 _ _ => by have := (List.getElem?_eq_some_iff.1 h1).1; omega⟩, hv0.mono (fun _ h => h) (fun o p h => by simp at h)⟩
  have hlt := hd.lt hO
  rcases i2 b hI with e | e | e
  · obtain ⟨o, ao, p, q1, q2, q3⟩ := hO
    exact hd.own o ao p b q1 q2 q3 e
  · exact hno b e
  · omega
end
end Go.Proofs.YteaggenihhaajaaGreat

/- Typed readings (Ty) as data (D): 'Dt', and that both say the same (Lk). No program here. -/
namespace Go.Proofs.YteaggenihhaajaaGreat
open Go.RowKit
set_option linter.unusedVariables false

/-- a type's data: its cells; what may be -/
structure Dt (α : Type) where
  c : α → List D
  n : Nat
  ok : α → Prop
  len : ∀ a, (c a).length = n
def dI : Dt Int := ⟨fun a => [.int .i64 a], 1, fun a => -9223372036854775808 ≤ a ∧ a ≤ 9223372036854775807, fun _ => rfl⟩
def dB : Dt Bool := ⟨fun a => [.bool a], 1, fun _ => True, fun _ => rfl⟩
def dS : Dt (List UInt8) := ⟨fun a => [.str a], 1, fun a => a.length ≤ 4194304, fun _ => rfl⟩
def dY : Dt (List UInt8) := ⟨fun a => [.list 1 (a.map cByte)], 1, fun a => a.length ≤ 4194304, fun _ => rfl⟩
def dP {α β : Type} (A : Dt α) (B : Dt β) : Dt (α × β) := ⟨fun p => A.c p.1 ++ B.c p.2, A.n + B.n, fun p => A.ok p.1 ∧ B.ok p.2, fun p => by rw [List.length_append, A.len, B.len]⟩
def dM {α β : Type} (A : Dt α) (f : β → α) : Dt β := ⟨fun b => A.c (f b), A.n, fun b => A.ok (f b), fun b => A.len _⟩
def dL {α : Type} (A : Dt α) : Dt (List α) := ⟨fun xs => [.list A.n (xs.map A.c)], 1, fun xs => xs.length ≤ 4194304 ∧ ∀ x ∈ xs, A.ok x, fun _ => rfl⟩
/-- a reading and its data say the same -/
structure Lk {α : Type} (T : Ty α) (A : Dt α) : Prop where
  n : T.n = A.n
  to : ∀ {inn : Nat → Prop} {w : World} {cs : List Value} {a : α}, T.rd inn w cs a → Drs inn w cs (A.c a) ∧ A.ok a ∧ ∀ v ∈ cs, v.oneCell' = true
  of : ∀ {I : Nat → Prop} {w : World} {cs : List Value} {a : α}, Drs I w cs (A.c a) → A.ok a → T.rd I w cs a
theorem Drs.one {I : Nat → Prop} {w : World} {v : Value} {d : D} (h : Dr I w v d) : Drs I w [v] [d] := ⟨rfl, fun i a b h1 h2 => by
  cases i with
  | zero => simp at h1 h2; subst h1 h2; exact h
  | succ i => simp at h1⟩
theorem Drs.one_inv {I : Nat → Prop} {w : World} {cs : List Value} {d : D} (h : Drs I w cs [d]) : ∃ v, cs = [v] ∧ Dr I w v d := by
  obtain ⟨hl, h⟩ := h
  match cs, hl with
  | [v], _ => exact ⟨v, rfl, h 0 v d rfl rfl⟩
theorem LkI : Lk tI dI where
  n := rfl
  to h := by
    obtain ⟨rfl, h1⟩ := h
    exact ⟨.one (.int _ _), h1, by simp [Value.oneCell']⟩
  of h k := by
    obtain ⟨v, rfl, hv⟩ := h.one_inv
    cases hv
    exact ⟨rfl, k⟩
theorem LkB : Lk tB dB where
  n := rfl
  to {_ _ cs a} h := by
    have h : cs = [.bool a] := h
    subst h
    exact ⟨.one (.bool _), trivial, by simp [Value.oneCell']⟩
  of h k := by
    obtain ⟨v, rfl, hv⟩ := h.one_inv
    cases hv
    rfl
theorem LkS : Lk tS dS where
  n := rfl
  to h := by
    obtain ⟨rfl, h1⟩ := h
    exact ⟨.one (.str _), h1, by simp [Value.oneCell']⟩
  of h k := by
    obtain ⟨v, rfl, hv⟩ := h.one_inv
    cases hv
    exact ⟨rfl, k⟩
theorem LkY : Lk tY dY where
  n := rfl
  to h := by
    obtain ⟨v, rfl, hb, hi, hl⟩ := h
    refine ⟨.one (hb.dr hi), hl, ?_⟩
    obtain ⟨A, c, rfl⟩ := hb.rd.slice
    simp [Value.oneCell']
  of {I _ _ _} h k := by
    obtain ⟨v, rfl, hv⟩ := h.one_inv
    clear h
    have h := hv
    clear hv
    have k' : _ ≤ 4194304 := k
    refine ⟨v, rfl, h.bs (by unfold big; omega), fun g hg hne => ?_, k⟩
    generalize hq : (D.list 1 _) = q at h
    cases h <;> try (cases hq; done)
    rename_i A cap n l xs U hl0 hl hm hnone hlen hA g1 hU
    injection hq with h1 h2
    subst h1 h2
    obtain ⟨b, off, rfl, _, hI, _⟩ := hA (by rw [hl0]; simpa using List.length_pos_iff.2 hne)
    have : b = g := by simpa [Value.ownBlock] using hg
    subst this
    exact hI
theorem Drs.split {I : Nat → Prop} {w : World} {cs : List Value} {xs ys : List D} (h : Drs I w cs (xs ++ ys)) : ∃ c d, cs = c ++ d ∧ Drs I w c xs ∧ Drs I w d ys := by
  have hl := h.1
  rw [List.length_append] at hl
  refine ⟨cs.take xs.length, cs.drop xs.length, (List.take_append_drop _ _).symm, ⟨by rw [List.length_take]; omega, fun i v d h1 h2 => ?_⟩, ⟨by rw [List.length_drop]; omega, fun i v d h1 h2 => ?_⟩⟩
  · rw [List.getElem?_take] at h1
    split at h1
    · exact h.2 i v d h1 (by rw [List.getElem?_append_left (by assumption)]; exact h2)
    · cases h1
  · rw [List.getElem?_drop] at h1
    exact h.2 _ v d h1 (by rw [List.getElem?_append_right (by omega)]; simpa using h2)
theorem LkP {α β : Type} {T : Ty α} {U : Ty β} {A : Dt α} {B : Dt β} (h : Lk T A) (k : Lk U B) : Lk (tP T U) (dP A B) where
  n := by show T.n + U.n = A.n + B.n; rw [h.n, k.n]
  to q := by
    obtain ⟨c, d, rfl, q1, q2⟩ := q
    obtain ⟨a1, a2, a3⟩ := h.to q1
    obtain ⟨b1, b2, b3⟩ := k.to q2
    exact ⟨a1.append b1, ⟨a2, b2⟩, fun v hv => by rcases List.mem_append.1 hv with e | e; exact a3 v e; exact b3 v e⟩
  of q ok := by
    obtain ⟨c, d, rfl, q1, q2⟩ := Drs.split q
    exact ⟨c, d, rfl, h.of q1 ok.1, k.of q2 ok.2⟩
theorem LkM {α β : Type} {T : Ty α} {A : Dt α} (f : β → α) (h : Lk T A) : Lk (tM T f) (dM A f) where
  n := h.n
  to q := h.to q
  of q ok := h.of q ok
theorem LkL {α : Type} {T : Ty α} {A : Dt α} (h : Lk T A) : Lk (tL T) (dL A) where
  n := rfl
  to {inn w cs xs} q := by
    obtain ⟨P, cap, rfl, h1, h2, h3, h4, h5⟩ := q
    have key : ∀ i, ∃ ys : List Value, i < xs.length → ∃ x b off, xs[i]? = some x ∧ P = some ⟨b, off, none⟩ ∧ b < w.heap.size ∧ inn b ∧ T.rd inn w ys x ∧ ∀ j v, ys[j]? = some v → w.cell? ⟨b, off + i * T.n + j, none⟩ = some v := by
      intro i
      by_cases hi : i < xs.length
      · obtain ⟨b, off, e, hb, hin, hel⟩ := h5 (by omega)
        obtain ⟨ys, k1, k2⟩ := hel i _ (List.getElem?_eq_getElem hi)
        exact ⟨ys, fun _ => ⟨_, b, off, List.getElem?_eq_getElem hi, e, hb, hin, k1, k2⟩⟩
      · exact ⟨[], fun h => absurd h hi⟩
    let Y : Nat → List Value := fun i => Classical.choose (key i)
    have hY : ∀ i, i < xs.length → ∃ x b off, xs[i]? = some x ∧ P = some ⟨b, off, none⟩ ∧ b < w.heap.size ∧ inn b ∧ T.rd inn w (Y i) x ∧ ∀ j v, (Y i)[j]? = some v → w.cell? ⟨b, off + i * T.n + j, none⟩ = some v := fun i hi => Classical.choose_spec (key i) hi
    have hget : ∀ (i : Nat) x (j : Nat) d, (xs.map A.c)[i]? = some x → x[j]? = some d → ∃ a v, xs[i]? = some a ∧ x = A.c a ∧ i < xs.length ∧ (Y i)[j]? = some v ∧ Dr inn w v d ∧ v.oneCell' = true := by
      intro i x j d hx hj
      rw [List.getElem?_map] at hx
      cases hq : xs[i]? with
      | none => rw [hq] at hx; cases hx
      | some a =>
        rw [hq] at hx
        injection hx with hx
        subst hx
        have hi := (List.getElem?_eq_some_iff.1 hq).1
        obtain ⟨a', b, off, e1, e2, e3, e4, e5, e6⟩ := hY i hi
        rw [hq] at e1
        injection e1 with e1
        subst e1
        obtain ⟨d1, _, d3⟩ := h.to e5
        have hlt : j < (Y i).length := by rw [d1.1]; exact (List.getElem?_eq_some_iff.1 hj).1
        exact ⟨a, _, rfl, rfl, hi, List.getElem?_eq_getElem hlt, d1.2 j _ d (List.getElem?_eq_getElem hlt) hj, d3 _ (List.getElem_mem _)⟩
    refine ⟨.one (.list P cap A.n xs.length (xs.map A.c) (fun i j => (Y i).getD j undef) (by simp) h1 h2 h3 (fun x hx => ?_) (fun h0 => ?_) (fun i x j d hx hj => ?_) (fun i x j d hx hj => ?_)), ⟨h4, fun x hx => ?_⟩, by simp [Value.oneCell']⟩
    · obtain ⟨a, _, rfl⟩ := List.mem_map.1 hx
      exact A.len a
    · obtain ⟨b, off, e, hb, hin, hel⟩ := h5 h0
      refine ⟨b, off, e, hb, hin, fun i x j d hx hj => ?_⟩
      obtain ⟨a, v, q1, q2, hi, q3, _⟩ := hget i x j d hx hj
      obtain ⟨a', b', off', e1, e2, e3, e4, e5, e6⟩ := hY i hi
      rw [e] at e2
      injection e2 with e2
      injection e2 with e2 e2' _
      subst e2 e2'
      rw [← h.n, e6 j v q3]
      simp [List.getD, q3]
    · obtain ⟨a, v, q1, q2, hi, q3, q4, q5⟩ := hget i x j d hx hj
      simp only [List.getD, q3, Option.getD_some]
      exact q5
    · obtain ⟨a, v, q1, q2, hi, q3, q4, q5⟩ := hget i x j d hx hj
      simp only [List.getD, q3, Option.getD_some]
      exact q4
    · obtain ⟨i, hi⟩ := List.getElem?_of_mem hx
      have hlt := (List.getElem?_eq_some_iff.1 hi).1
      obtain ⟨a', b', off', e1, e2, e3, e4, e5, e6⟩ := hY i hlt
      rw [hi] at e1
      injection e1 with e1
      subst e1
      exact (h.to e5).2.1
  of {I w cs xs} q ok := by
    obtain ⟨v, rfl, qv⟩ := q.one_inv
    clear q
    have q := qv
    clear qv
    generalize hq : (D.list A.n (xs.map A.c)) = d at q
    cases q <;> try (cases hq; done)
    rename_i P cap n l ys U hl0 hl hm hnone hlen hA g1 hU
    injection hq with e1 e2
    subst e1 e2
    rw [List.length_map] at hl0
    subst hl0
    refine ⟨P, cap, rfl, hl, hm, hnone, ok.1, fun h0 => ?_⟩
    obtain ⟨b, off, rfl, hb, hI, hc⟩ := hA h0
    refine ⟨b, off, rfl, hb, hI, fun i x hx => ⟨(List.range A.n).map (U i), h.of ⟨by simp [A.len], fun j v d h1 h2 => ?_⟩ (ok.2 x (List.mem_of_getElem? hx)), fun j v hj => ?_⟩⟩
    · have hlt : j < A.n := by have := (List.getElem?_eq_some_iff.1 h1).1; simpa using this
      rw [List.getElem?_map, List.getElem?_range hlt] at h1
      injection h1 with h1
      subst h1
      exact hU i (A.c x) j d (by rw [List.getElem?_map, hx]; rfl) h2
    · have hlt : j < A.n := by have := (List.getElem?_eq_some_iff.1 hj).1; simpa using this
      rw [List.getElem?_map, List.getElem?_range hlt] at hj
      injection hj with hj
      subst hj
      have hlt2 : j < (A.c x).length := by rw [A.len]; exact hlt
      rw [h.n]
      exact hc i (A.c x) j _ (by rw [List.getElem?_map, hx]; rfl) (List.getElem?_eq_getElem hlt2)
end Go.Proofs.YteaggenihhaajaaGreat

/- The types of package api as data: their cells (printed by gen_sv.py). No program here. -/
namespace Go.Proofs.YteaggenihhaajaaGreat
set_option linter.unusedVariables false

def cRec (b : List UInt8) : List D := [.list 1 (b.map cByte)]
def cNum (n : Int) : List D := [.int .i64 n]
def dSign : Dt SignD := dM (dP dI dI) (fun s : SignD => (s.key, s.digest))
def cSign (s : SignD) : List D := [.int .i64 s.key, .int .i64 s.digest]
set_option maxRecDepth 10000 in
theorem LkSign : Lk tSign dSign := LkM _ (LkP LkI LkI)
def dOp : Dt OpD := dM (dP dI (dP dS (dP dS (dP dI (dL dY))))) (fun s : OpD => (s.kind, s.topic, s.group, s.offset, s.records))
def cOp (s : OpD) : List D := [.int .i64 s.kind, .str s.topic, .str s.group, .int .i64 s.offset, .list 1 (s.records.map cRec)]
set_option maxRecDepth 10000 in
theorem LkOp : Lk tOp dOp := LkM _ (LkP LkI (LkP LkS (LkP LkS (LkP LkI (LkL LkY)))))
def dResult : Dt ResultD := dM (dP dI dI) (fun s : ResultD => (s.err, s.offset))
def cResult (s : ResultD) : List D := [.int .i64 s.err, .int .i64 s.offset]
set_option maxRecDepth 10000 in
theorem LkResult : Lk tResult dResult := LkM _ (LkP LkI LkI)
def dRequest : Dt RequestD := dM (dP dI (dP dI dOp)) (fun s : RequestD => (s.client, s.time, s.op))
def cRequest (s : RequestD) : List D := [.int .i64 s.client, .int .i64 s.time, .int .i64 s.op.kind, .str s.op.topic, .str s.op.group, .int .i64 s.op.offset, .list 1 (s.op.records.map cRec)]
set_option maxRecDepth 10000 in
theorem LkRequest : Lk tRequest dRequest := LkM _ (LkP LkI (LkP LkI LkOp))
def dSigned : Dt SignedD := dM (dP dRequest dSign) (fun s : SignedD => (s.request, s.sign))
def cSigned (s : SignedD) : List D := [.int .i64 s.request.client, .int .i64 s.request.time, .int .i64 s.request.op.kind, .str s.request.op.topic, .str s.request.op.group, .int .i64 s.request.op.offset, .list 1 (s.request.op.records.map cRec), .int .i64 s.sign.key, .int .i64 s.sign.digest]
set_option maxRecDepth 10000 in
theorem LkSigned : Lk tSigned dSigned := LkM _ (LkP LkRequest LkSign)
def dHeader : Dt HeaderD := dM (dP dI (dP dI (dP dI (dP dI dI)))) (fun s : HeaderD => (s.seq, s.prev, s.batch, s.root, s.state))
def cHeader (s : HeaderD) : List D := [.int .i64 s.seq, .int .i64 s.prev, .int .i64 s.batch, .int .i64 s.root, .int .i64 s.state]
set_option maxRecDepth 10000 in
theorem LkHeader : Lk tHeader dHeader := LkM _ (LkP LkI (LkP LkI (LkP LkI (LkP LkI LkI))))
def dCert : Dt CertD := dM (dP dI (dP dI (dL dSign))) (fun s : CertD => (s.seq, s.digest, s.signs))
def cCert (s : CertD) : List D := [.int .i64 s.seq, .int .i64 s.digest, .list 2 (s.signs.map cSign)]
set_option maxRecDepth 10000 in
theorem LkCert : Lk tCert dCert := LkM _ (LkP LkI (LkP LkI (LkL LkSign)))
def dPrepared : Dt PreparedD := dM (dP dI (dP dI (dP dI (dP dSign (dP (dL dSign) (dL dSigned)))))) (fun s : PreparedD => (s.view, s.seq, s.digest, s.firstS, s.signs, s.batch))
def cPrepared (s : PreparedD) : List D := [.int .i64 s.view, .int .i64 s.seq, .int .i64 s.digest, .int .i64 s.firstS.key, .int .i64 s.firstS.digest, .list 2 (s.signs.map cSign), .list 9 (s.batch.map cSigned)]
set_option maxRecDepth 10000 in
theorem LkPrepared : Lk tPrepared dPrepared := LkM _ (LkP LkI (LkP LkI (LkP LkI (LkP LkSign (LkP (LkL LkSign) (LkL LkSigned))))))
def dChange : Dt ChangeD := dM (dP dI (dP dI (dP dCert (dP (dL dPrepared) dSign)))) (fun s : ChangeD => (s.view, s.src, s.cert, s.above, s.sign))
def cChange (s : ChangeD) : List D := [.int .i64 s.view, .int .i64 s.src, .int .i64 s.cert.seq, .int .i64 s.cert.digest, .list 2 (s.cert.signs.map cSign), .list 7 (s.above.map cPrepared), .int .i64 s.sign.key, .int .i64 s.sign.digest]
set_option maxRecDepth 10000 in
theorem LkChange : Lk tChange dChange := LkM _ (LkP LkI (LkP LkI (LkP LkCert (LkP (LkL LkPrepared) LkSign))))
def dEntry : Dt EntryD := dM (dP dI (dP dI (dP (dL dSigned) dSign))) (fun s : EntryD => (s.view, s.seq, s.batch, s.sign))
def cEntry (s : EntryD) : List D := [.int .i64 s.view, .int .i64 s.seq, .list 9 (s.batch.map cSigned), .int .i64 s.sign.key, .int .i64 s.sign.digest]
set_option maxRecDepth 10000 in
theorem LkEntry : Lk tEntry dEntry := LkM _ (LkP LkI (LkP LkI (LkP (LkL LkSigned) LkSign)))
def dProof : Dt ProofD := dM (dP dS (dP dI (dP dY (dP (dL dHeader) (dP dI (dP dI (dP (dL dI) dCert))))))) (fun s : ProofD => (s.topic, s.offset, s.record, s.headers, s.index, s.count, s.path, s.cert))
def cProof (s : ProofD) : List D := [.str s.topic, .int .i64 s.offset, .list 1 (s.record.map cByte), .list 5 (s.headers.map cHeader), .int .i64 s.index, .int .i64 s.count, .list 1 (s.path.map cNum), .int .i64 s.cert.seq, .int .i64 s.cert.digest, .list 2 (s.cert.signs.map cSign)]
set_option maxRecDepth 10000 in
theorem LkProof : Lk tProof dProof := LkM _ (LkP LkS (LkP LkI (LkP LkY (LkP (LkL LkHeader) (LkP LkI (LkP LkI (LkP (LkL LkI) LkCert)))))))
def dMsg : Dt MsgD := dM (dP dI (dP dI (dP dI (dP dI (dP dI (dP dI (dP dI (dP dResult (dP (dL dSigned) (dP dCert (dP (dL dChange) (dP (dL dEntry) (dP dY (dP dS (dP dI (dP dProof dSign)))))))))))))))) (fun s : MsgD => (s.kind, s.src, s.view, s.seq, s.digest, s.client, s.time, s.result, s.batch, s.cert, s.changes, s.entries, s.state, s.topic, s.offset, s.proof, s.sign))
def cMsg (s : MsgD) : List D := [.int .i64 s.kind, .int .i64 s.src, .int .i64 s.view, .int .i64 s.seq, .int .i64 s.digest, .int .i64 s.client, .int .i64 s.time, .int .i64 s.result.err, .int .i64 s.result.offset, .list 9 (s.batch.map cSigned), .int .i64 s.cert.seq, .int .i64 s.cert.digest, .list 2 (s.cert.signs.map cSign), .list 8 (s.changes.map cChange), .list 5 (s.entries.map cEntry), .list 1 (s.state.map cByte), .str s.topic, .int .i64 s.offset, .str s.proof.topic, .int .i64 s.proof.offset, .list 1 (s.proof.record.map cByte), .list 5 (s.proof.headers.map cHeader), .int .i64 s.proof.index, .int .i64 s.proof.count, .list 1 (s.proof.path.map cNum), .int .i64 s.proof.cert.seq, .int .i64 s.proof.cert.digest, .list 2 (s.proof.cert.signs.map cSign), .int .i64 s.sign.key, .int .i64 s.sign.digest]
set_option maxRecDepth 10000 in
theorem LkMsg : Lk tMsg dMsg := LkM _ (LkP LkI (LkP LkI (LkP LkI (LkP LkI (LkP LkI (LkP LkI (LkP LkI (LkP LkResult (LkP (LkL LkSigned) (LkP LkCert (LkP (LkL LkChange) (LkP (LkL LkEntry) (LkP LkY (LkP LkS (LkP LkI (LkP LkProof LkSign))))))))))))))))
def dVote : Dt VoteD := dM (dP dI (dP dI dSign)) (fun s : VoteD => (s.seq, s.digest, s.sign))
def cVote (s : VoteD) : List D := [.int .i64 s.seq, .int .i64 s.digest, .int .i64 s.sign.key, .int .i64 s.sign.digest]
set_option maxRecDepth 10000 in
theorem LkVote : Lk tVote dVote := LkM _ (LkP LkI (LkP LkI LkSign))
def dPlaced : Dt PlacedD := dM (dP dS (dP dI dY)) (fun s : PlacedD => (s.topic, s.offset, s.record))
def cPlaced (s : PlacedD) : List D := [.str s.topic, .int .i64 s.offset, .list 1 (s.record.map cByte)]
set_option maxRecDepth 10000 in
theorem LkPlaced : Lk tPlaced dPlaced := LkM _ (LkP LkS (LkP LkI LkY))
def dVoteOf : Dt VoteOfD := dM (dP dI dSign) (fun s : VoteOfD => (s.digest, s.sign))
def cVoteOf (s : VoteOfD) : List D := [.int .i64 s.digest, .int .i64 s.sign.key, .int .i64 s.sign.digest]
set_option maxRecDepth 10000 in
theorem LkVoteOf : Lk tVoteOf dVoteOf := LkM _ (LkP LkI LkSign)
def dSlot : Dt SlotD := dM (dP dI (dP dB (dP dI (dP dSign (dP (dL dSigned) (dP (dL dVoteOf) (dL dVoteOf))))))) (fun s : SlotD => (s.seq, s.has, s.digest, s.firstS, s.batch, s.prepares, s.commits))
def cSlot (s : SlotD) : List D := [.int .i64 s.seq, .bool s.has, .int .i64 s.digest, .int .i64 s.firstS.key, .int .i64 s.firstS.digest, .list 9 (s.batch.map cSigned), .list 3 (s.prepares.map cVoteOf), .list 3 (s.commits.map cVoteOf)]
set_option maxRecDepth 10000 in
theorem LkSlot : Lk tSlot dSlot := LkM _ (LkP LkI (LkP LkB (LkP LkI (LkP LkSign (LkP (LkL LkSigned) (LkP (LkL LkVoteOf) (LkL LkVoteOf)))))))
def dPoints : Dt PointsD := dM (dP dCert (dP (dL dVote) (dL dCert))) (fun s : PointsD => (s.stable, s.votes, s.certs))
def cPoints (s : PointsD) : List D := [.int .i64 s.stable.seq, .int .i64 s.stable.digest, .list 2 (s.stable.signs.map cSign), .list 4 (s.votes.map cVote), .list 3 (s.certs.map cCert)]
set_option maxRecDepth 10000 in
theorem LkPoints : Lk tPoints dPoints := LkM _ (LkP LkCert (LkP (LkL LkVote) (LkL LkCert)))
def dPool : Dt PoolD := dM (dL dSigned) (fun s : PoolD => s.waiting)
set_option maxRecDepth 10000 in
theorem LkPool : Lk tPool dPool := LkM _ (LkL LkSigned)
def dTimer : Dt TimerD := dM (dP dI dI) (fun s : TimerD => (s.length, s.left))
set_option maxRecDepth 10000 in
theorem LkTimer : Lk tTimer dTimer := LkM _ (LkP LkI LkI)
def dBlock : Dt BlockD := dM (dP dHeader (dP (dL dSigned) (dL dPlaced))) (fun s : BlockD => (s.header, s.batch, s.placed))
def cBlock (s : BlockD) : List D := [.int .i64 s.header.seq, .int .i64 s.header.prev, .int .i64 s.header.batch, .int .i64 s.header.root, .int .i64 s.header.state, .list 9 (s.batch.map cSigned), .list 3 (s.placed.map cPlaced)]
set_option maxRecDepth 10000 in
theorem LkBlock : Lk tBlock dBlock := LkM _ (LkP LkHeader (LkP (LkL LkSigned) (LkL LkPlaced)))
def dMark : Dt MarkD := dM (dP dHeader dY) (fun s : MarkD => (s.header, s.topics))
def cMark (s : MarkD) : List D := [.int .i64 s.header.seq, .int .i64 s.header.prev, .int .i64 s.header.batch, .int .i64 s.header.root, .int .i64 s.header.state, .list 1 (s.topics.map cByte)]
set_option maxRecDepth 10000 in
theorem LkMark : Lk tMark dMark := LkM _ (LkP LkHeader LkY)
def dCore : Dt CoreD := dM (dP dI (dP dB (dP dI (dP dI (dP dHeader (dP (dL dBlock) (dP dY (dP dPoints (dP (dL dCert) (dP (dL dMark) (dP (dL dSlot) (dP (dL dPrepared) (dP (dL dChange) (dP dPool (dP dTimer (dP (dL dMsg) dI)))))))))))))))) (fun s : CoreD => (s.view, s.active, s.ticks, s.floor, s.base, s.blocks, s.topics, s.points, s.certs, s.marks, s.slots, s.held, s.changes, s.pool, s.timer, s.news, s.wants))
def cCore (s : CoreD) : List D := [.int .i64 s.view, .bool s.active, .int .i64 s.ticks, .int .i64 s.floor, .int .i64 s.base.seq, .int .i64 s.base.prev, .int .i64 s.base.batch, .int .i64 s.base.root, .int .i64 s.base.state, .list 7 (s.blocks.map cBlock), .list 1 (s.topics.map cByte), .int .i64 s.points.stable.seq, .int .i64 s.points.stable.digest, .list 2 (s.points.stable.signs.map cSign), .list 4 (s.points.votes.map cVote), .list 3 (s.points.certs.map cCert), .list 3 (s.certs.map cCert), .list 6 (s.marks.map cMark), .list 8 (s.slots.map cSlot), .list 7 (s.held.map cPrepared), .list 8 (s.changes.map cChange), .list 9 (s.pool.waiting.map cSigned), .int .i64 s.timer.length, .int .i64 s.timer.left, .list 30 (s.news.map cMsg), .int .i64 s.wants]
set_option maxRecDepth 10000 in
theorem LkCore : Lk tCore dCore := LkM _ (LkP LkI (LkP LkB (LkP LkI (LkP LkI (LkP LkHeader (LkP (LkL LkBlock) (LkP LkY (LkP LkPoints (LkP (LkL LkCert) (LkP (LkL LkMark) (LkP (LkL LkSlot) (LkP (LkL LkPrepared) (LkP (LkL LkChange) (LkP LkPool (LkP LkTimer (LkP (LkL LkMsg) LkI))))))))))))))))
end Go.Proofs.YteaggenihhaajaaGreat

/- Walks computed: the steps of a proof, one for each form of the tree. No program here. -/
namespace Go.Proofs.YteaggenihhaajaaGreat
open Go.RowKit
set_option linter.unusedVariables false

/-- what a function computes: its answer, of data alone -/
abbrev FnP [Wd] (P : Program) (f : FuncId) (ar : List D) (r : D) : Prop := FnS P f ar [] (fun r' h' => r' = r ∧ h' = [])
theorem ren_pure (σ : List Nat) : ∀ (d : D), pureD d = true → d.ren σ = d
  | .agg cs, h => by simp only [D.ren]; rw [go cs h]
  | .tup cs, h => by simp only [D.ren]; rw [go cs h]
  | .fn f n cs, h => by simp only [D.ren]; rw [go cs h]
  | .bool _, _ | .int _ _, _ | .str _, _ | .list _ _, _ | .nils, _ | .nilp, _ | .nilf, _ | .nilm, _ | .ref _, _ => rfl
  | .ptr _ _, h | .row _, h | .rowp _ _ _, h | .any, h | .bad, h => by cases h
  where go : ∀ (cs : List D), pureD.pl cs = true → D.ren.rl σ cs = cs
  | [], _ => rfl
  | d :: ds, h => by
    simp only [pureD.pl, Bool.and_eq_true] at h
    rw [D.ren.rl, ren_pure σ d h.1, go ds h.2]
theorem frzD_nil (h : List AO) : ∀ d : D, d.frz h [] = d
  | .agg cs => by simp only [D.frz]; rw [go cs]
  | .tup cs => by simp only [D.frz]; rw [go cs]
  | .row o => rfl
  | .fn _ _ _ => rfl
  | .bool _ | .int _ _ | .str _ | .list _ _ | .nils | .nilp | .nilf | .nilm | .ref _ | .ptr _ _ | .rowp _ _ _ | .any | .bad => rfl
  where go : ∀ cs : List D, D.frz.fl h [] cs = cs
  | [] => rfl
  | d :: ds => by rw [D.frz.fl, frzD_nil h d, go ds]
theorem frH_nil (h : List AO) : ∀ (l : List AO) (k : Nat), frH h [] k l = l
  | [], k => rfl
  | a :: l, k => by
    rw [frH, frH_nil h l]
    cases a with
    | cells t cs => simp only [AO.frz, frzD_nil.go]; rfl
    | row t n xs => rfl
    | gone => rfl
theorem frz_nil (s : S) : s.frz [] = s := by
  cases s with
  | mk t h =>
    simp only [S.frz, frH_nil]
    congr 1
    rw [show (fun x : Nat × D => (x.1, x.2.frz h [])) = id from funext fun x => by rw [frzD_nil]; rfl]
    simp
section
variable {P : Program} {Q : Exit → S → Prop}
theorem okBr [Wd] {b : Bool} {t f : T} (h1 : b = true → t.ok P Q) (h2 : b = false → f.ok P Q) : (T.br b t f).ok P Q := ⟨h1, h2⟩
theorem okBrT [Wd] {t f : T} (h : t.ok P Q) : (T.br true t f).ok P Q := ⟨fun _ => h, fun e => (by cases e)⟩
theorem okBrF [Wd] {t f : T} (h : f.ok P Q) : (T.br false t f).ok P Q := ⟨fun e => (by cases e), fun _ => h⟩
theorem okAsk [Wd] {p : Prop} {t : T} (h : p) (k : t.ok P Q) : (T.ask p t).ok P Q := ⟨h, k⟩
theorem okBoth [Wd] {a b : T} (h : a.ok P Q) (k : b.ok P Q) : (T.both a b).ok P Q := ⟨h, k⟩
theorem okWrap [Wd] {k : IntKind} {e : Int} {c : Int → T} (hw : k.wrap e = e) (h : (c e).ok P Q) : (T.wrap k e c).ok P Q := by
  show (c (k.wrap e)).ok P Q
  rw [hw]; exact h
theorem okRaw [Wd] {k : IntKind} {e : Int} {c : Int → T} (h : (c (k.wrap e)).ok P Q) : (T.wrap k e c).ok P Q := h
theorem okNth [Wd] {xs : List (List D)} {i : Int} {c : List D → T} (x : List D) (h0 : 0 ≤ i) (h1 : xs[i.toNat]? = some x) (h : (c x).ok P Q) : (T.nth xs i c).ok P Q := ⟨x, h0, h1, h⟩
theorem okNthMap [Wd] {α : Type} {l : List α} {f : α → List D} {q : Nat} {c : List D → T} (hq : q < l.length) (h : ∀ x, l[q]? = some x → (c (f x)).ok P Q) : (T.nth (l.map f) (q : Int) c).ok P Q :=
  ⟨f l[q], Int.natCast_nonneg q, by simp [hq], h _ (List.getElem?_eq_getElem hq)⟩
theorem okByts [Wd] {xs : List (List D)} {c : List UInt8 → T} (s : List UInt8) (h1 : xs = s.map cByte) (h : (c s).ok P Q) : (T.byts xs c).ok P Q := ⟨s, h1, h⟩
/-- a call of what only computes -/
theorem okFn [Wd] {f : FuncId} {ar ar' : List D} {h : List AO} {c : D → List AO → T} {r : D} (hF : FnP P f ar r) (hp : pureD.pl ar = true) (hc : Cos ar' ar) (k : (c r h).ok P Q) : (T.call f ar' h c).ok P Q :=
  ⟨_, hF.pure (R := fun r' => r' = r) hp hc, fun r' h' ⟨e1, e2⟩ => by subst e1 e2; exact k⟩
/-- a call beside objects -/
theorem okCall [Wd] {f : FuncId} {ar ar' : List D} {hs hb : List AO} {c : D → List AO → T} {r : D} {hs' : List AO} (σ : List Nat) (hF : FnS P f ar hs (fun r' h' => r' = r ∧ h' = hs')) (V : View σ hb hs) (hc : Cos ar' (D.ren.rl σ ar)) (hM : (σ.all fun o => (foot hb ar').elem o) = true) (k : (c (r.ren (upS hb σ hs hs')) (upH hb σ hs hs')).ok P Q) : (T.call f ar' hb c).ok P Q :=
  ⟨_, hF.big V hc (fun o ho => by have := List.all_eq_true.1 hM o ho; simpa using this), fun r' h' ⟨r0, h0, ⟨e1, e2⟩, e3, e4⟩ => by subst e1 e2 e3 e4; exact k⟩
/-- the end of what only computes -/
theorem endFn [Wd] {tb : TT} {rs : List ResultVar} {e : Exit} {s : S} {r : D} (fz : List Nat) {ds : List D} (he : e = .normal ∨ e = .ret) (hr : resD tb (s.frz fz) rs = some ds) (hco : Co (resV ds) r) (hp : pureD r = true) : (T.leaf e s).ok P (Lf tb rs [] (fun r' h' => r' = r ∧ h' = [])) :=
  ⟨he, fz, ds, hr, [], r, r, [], ⟨rfl, fun i j o h => by simp at h, fun i o a h => by simp at h⟩, hco, (ren_pure [] r hp).symm, fun o t cs h => by simp at h, rfl, rfl⟩
theorem endFn0 [Wd] {tb : TT} {rs : List ResultVar} {e : Exit} {s : S} {r : D} {ds : List D} (he : e = .normal ∨ e = .ret) (hr : resD tb s rs = some ds) (hco : Co (resV ds) r) (hp : pureD r = true) : (T.leaf e s).ok P (Lf tb rs [] (fun r' h' => r' = r ∧ h' = [])) :=
  endFn [] he (by rw [frz_nil]; exact hr) hco hp
theorem endInt [Wd] {tb : TT} {rs : List ResultVar} {e : Exit} {s : S} {k : IntKind} {n m : Int} (he : e = .normal ∨ e = .ret) (hr : resD tb s rs = some [.int k n]) (h : n = m) : (T.leaf e s).ok P (Lf tb rs [] (fun r' h' => r' = .int k m ∧ h' = [])) := by
  subst h
  exact endFn0 he hr (.refl _) rfl
theorem endBool [Wd] {tb : TT} {rs : List ResultVar} {e : Exit} {s : S} {n m : Bool} (he : e = .normal ∨ e = .ret) (hr : resD tb s rs = some [.bool n]) (h : n = m) : (T.leaf e s).ok P (Lf tb rs [] (fun r' h' => r' = .bool m ∧ h' = [])) := by
  subst h
  exact endFn0 he hr (.refl _) rfl
end
/-! views, told one by one -/
def nodupB : List Nat → Bool
  | [] => true
  | o :: r => !r.elem o && nodupB r
def vwP (h : List AO) (σ : List Nat) : List Nat → List AO → Prop
  | [], [] => True
  | o :: r, a :: l => (Nat.blt o h.length = true ∧ lh h o = a.ren σ) ∧ vwP h σ r l
  | _, _ => False
theorem nodupB_ok : ∀ {l : List Nat}, nodupB l = true → ∀ (i j o : Nat), l[i]? = some o → l[j]? = some o → i = j
  | [], _, i, j, o, h, _ => by simp at h
  | x :: r, h, i, j, o, h1, h2 => by
    simp only [nodupB, Bool.and_eq_true, Bool.not_eq_true'] at h
    have hx : x ∉ r := by
      intro hm
      have : r.elem x = true := by simpa using hm
      rw [this] at h
      cases h.1
    cases i with
    | zero =>
      cases j with
      | zero => rfl
      | succ j =>
        simp at h1 h2
        subst h1
        exact absurd (List.mem_of_getElem? h2) hx
    | succ i =>
      cases j with
      | zero =>
        simp at h1 h2
        subst h2
        exact absurd (List.mem_of_getElem? h1) hx
      | succ j =>
        simp at h1 h2
        rw [nodupB_ok h.2 i j o h1 h2]
theorem lh_of {h : List AO} {o : Nat} {a : AO} (hl : o < h.length) (k : lh h o = a) : h[o]? = some a := by
  have : ∀ (l : List AO) (n : Nat), n < l.length → l[n]? = some (lh l n) := by
    intro l
    induction l with
    | nil => intro n h; simp at h
    | cons b l ih =>
      intro n h
      cases n with
      | zero => simp [lh]
      | succ n => simp at h; simp [lh, ih n h]
  rw [this h o hl, k]
theorem vwP_get {h : List AO} {σ : List Nat} : ∀ {r : List Nat} {l : List AO}, vwP h σ r l → r.length = l.length ∧ ∀ (i o : Nat) a, r[i]? = some o → l[i]? = some a → h[o]? = some (a.ren σ)
  | [], [], _ => ⟨rfl, fun i o a h => by simp at h⟩
  | o :: r, a :: l, k => by
    obtain ⟨⟨k1, k2⟩, k3⟩ := k
    obtain ⟨e1, e2⟩ := vwP_get k3
    refine ⟨by simp [e1], fun i o' a' h1 h2 => ?_⟩
    cases i with
    | zero => simp at h1 h2; subst h1 h2; exact lh_of (Nat.le_of_ble_eq_true k1) k2
    | succ i => simp at h1 h2; exact e2 i o' a' h1 h2
  | [], _ :: _, k => k.elim
  | _ :: _, [], k => k.elim
theorem View.mk' {σ : List Nat} {h h' : List AO} (hn : nodupB σ = true) (hv : vwP h σ σ h') : View σ h h' :=
  ⟨(vwP_get hv).1, nodupB_ok hn, (vwP_get hv).2⟩
def svT (t : List (Nat × D)) (σ : List Nat) : List (Nat × D) → Prop
  | [] => True
  | (j, d) :: r => lk t j = d.ren σ ∧ svT t σ r
theorem svT_ok {t : List (Nat × D)} {σ : List Nat} : ∀ {l : List (Nat × D)}, svT t σ l → ∀ j, lk l j = .any ∨ lk t j = (lk l j).ren σ
  | [], _, j => .inl rfl
  | (i, d) :: r, k, j => by
    simp only [lk]
    cases hb : Nat.beq j i with
    | true =>
      cases Nat.eq_of_beq_eq_true hb
      exact .inr k.1
    | false => exact svT_ok k.2 j
def idB : Nat → List Nat → Bool
  | 0, _ => true
  | n + 1, σ => (match ln σ n with | some o => Nat.beq o n | none => false) && idB n σ
theorem idB_ok {σ : List Nat} : ∀ {m : Nat}, idB m σ = true → ∀ i, i < m → σ[i]? = some i
  | 0, _, i, h => by omega
  | n + 1, h, i, hi => by
    simp only [idB, Bool.and_eq_true] at h
    by_cases e : i = n
    · subst e
      rw [← ln_get]
      cases hl : ln σ i with
      | none => rw [hl] at h; cases h.1
      | some o => rw [hl] at h; rw [Nat.eq_of_beq_eq_true h.1]
    · exact idB_ok h.2 i (by omega)
theorem Sv.mk' {m : Nat} {s s' : S} (σ : List Nat) (h1 : (nodupB σ && idB m σ) = true) (h2 : vwP s.h σ σ s'.h) (h3 : svT s.t σ s'.t) : Sv m s s' := by
  rw [Bool.and_eq_true] at h1
  exact ⟨σ, .mk' h1.1 h2, idB_ok h1.2, svT_ok h3⟩
theorem okLoop [Wd] {P : Program} {Q : Exit → S → Prop} {α : Type} {m : Nat} {s : S} {body : S → T} {c : Exit → S → T} (st : α → S) (J : α → Prop) (μ : α → Nat) (a0 : α) (h0 : J a0) (hv : Sv m s (st a0))
    (hb : ∀ a, J a → (body (st a)).ok P fun e s' => match e with
      | .normal => ∃ a', Sv m s' (st a') ∧ J a' ∧ μ a' < μ a
      | e => (c e s').ok P Q) : (T.loop m s body c).ok P Q := by
  classical
  have hex : ∀ s, (∃ a, s = st a ∧ J a) → ∃ n, ∃ a, s = st a ∧ J a ∧ μ a = n := fun s ⟨a, h1, h2⟩ => ⟨_, a, h1, h2, rfl⟩
  let μ' : S → Nat := fun s => if hh : ∃ a, s = st a ∧ J a then Classical.choose (least (hex s hh)) else 0
  have hsp : ∀ s (hh : ∃ a, s = st a ∧ J a), μ' s = Classical.choose (least (hex s hh)) := fun s hh => by simp only [μ', dif_pos hh]
  have hle : ∀ a, J a → μ' (st a) ≤ μ a := fun a h2 => by
    have hh : ∃ b, st a = st b ∧ J b := ⟨a, rfl, h2⟩
    rw [hsp _ hh]
    exact (Classical.choose_spec (least (hex _ hh))).2 _ ⟨a, rfl, h2, rfl⟩
  have hat : ∀ s, (∃ a, s = st a ∧ J a) → ∃ a, s = st a ∧ J a ∧ μ a = μ' s := fun s hh => by
    rw [hsp s hh]
    exact (Classical.choose_spec (least (hex s hh))).1
  refine ⟨fun s => ∃ a, s = st a ∧ J a, μ', ⟨st a0, hv, a0, rfl, h0⟩, fun s0 hs => ?_⟩
  obtain ⟨a, rfl, hJ, hμ⟩ := hat s0 hs
  refine T.ok_mono (fun e s' he => ?_) (hb a hJ)
  cases e with
  | normal =>
    obtain ⟨a', k1, k2, k3⟩ := he
    exact ⟨st a', k1, ⟨a', rfl, k2⟩, by have := hle a' k2; omega⟩
  | _ => exact he
theorem okAgain [Wd] {P : Program} {Q : Exit → S → Prop} {α : Type} {m n : Nat} {s' : S} {c : Exit → S → T} {st : α → S} {J : α → Prop} {μ : α → Nat} (a' : α) (hv : Sv m s' (st a')) (hJ : J a') (hμ : μ a' < n) : (T.leaf .normal s').ok P (fun e s' => match e with
      | .normal => ∃ a', Sv m s' (st a') ∧ J a' ∧ μ a' < n
      | e => (c e s').ok P Q) := ⟨a', hv, hJ, hμ⟩
theorem okOut [Wd] {P : Program} {Q : Exit → S → Prop} {α : Type} {m n : Nat} {s' : S} {c : Exit → S → T} {st : α → S} {J : α → Prop} {μ : α → Nat} {id : Nat} (h : (c (.exit id) s').ok P Q) : (T.leaf (.exit id) s').ok P (fun e s' => match e with
      | .normal => ∃ a', Sv m s' (st a') ∧ J a' ∧ μ a' < n
      | e => (c e s').ok P Q) := h
theorem okRet [Wd] {P : Program} {Q : Exit → S → Prop} {α : Type} {m n : Nat} {s' : S} {c : Exit → S → T} {st : α → S} {J : α → Prop} {μ : α → Nat} (h : (c .ret s').ok P Q) : (T.leaf .ret s').ok P (fun e s' => match e with
      | .normal => ∃ a', Sv m s' (st a') ∧ J a' ∧ μ a' < n
      | e => (c e s').ok P Q) := h
/-- the objects that came in keep their names -/
def keepP : Nat → List AO → List Nat → List AO → Prop
  | _, [], _, _ => True
  | i, .cells _ _ :: r, σ, h' => (ln σ i = some i ∧ isC (lh h' i) = true) ∧ keepP (i + 1) r σ h'
  | i, _ :: r, σ, h' => keepP (i + 1) r σ h'
theorem keepP_ok {σ : List Nat} {h' : List AO} : ∀ {h : List AO} {k : Nat}, keepP k h σ h' → ∀ (o : Nat) t cs, h[o]? = some (.cells t cs) → σ[k + o]? = some (k + o) ∧ ∃ t' cs', h'[k + o]? = some (.cells t' cs')
  | [], k, _, o, t, cs, h1 => by simp at h1
  | a :: r, k, hk, o, t, cs, h1 => by
    have hr : keepP (k + 1) r σ h' := by cases a <;> first | exact hk.2 | exact hk
    cases o with
    | zero =>
      simp at h1
      subst h1
      obtain ⟨⟨k1, k2⟩, _⟩ := hk
      rw [ln_get] at k1
      exact ⟨k1, isC_lh k2⟩
    | succ o =>
      simp at h1
      have := keepP_ok hr o t cs h1
      rw [show k + (o + 1) = k + 1 + o from by omega]
      exact this
section
variable {P : Program}
/-- the end of what changes objects -/
theorem endObj [Wd] {tb : TT} {rs : List ResultVar} {e : Exit} {s : S} {h : List AO} {r : D} {h' : List AO} {ds : List D} (σ : List Nat) (he : e = .normal ∨ e = .ret) (hr : resD tb s rs = some ds) (hn : nodupB σ = true) (hv : vwP s.h σ σ h') (hk : keepP 0 h σ h') (hco : Co (resV ds) (r.ren σ)) :
    (T.leaf e s).ok P (Lf tb rs h (fun r' h'' => r' = r ∧ h'' = h')) :=
  ⟨he, [], ds, by rw [frz_nil]; exact hr, σ, r, _, h', by rw [frz_nil]; exact .mk' hn hv, hco, rfl, fun o t cs h1 => by have := keepP_ok hk o t cs h1; simpa using this, rfl, rfl⟩
/-- as 'endObj', the rows fz held for data -/
theorem endObjF [Wd] {tb : TT} {rs : List ResultVar} {e : Exit} {s : S} {h : List AO} {r : D} {h' : List AO} {ds : List D} (fz σ : List Nat) (he : e = .normal ∨ e = .ret) (hr : resD tb (s.frz fz) rs = some ds) (hn : nodupB σ = true) (hv : vwP (s.frz fz).h σ σ h') (hk : keepP 0 h σ h') (hco : Co (resV ds) (r.ren σ)) :
    (T.leaf e s).ok P (Lf tb rs h (fun r' h'' => r' = r ∧ h'' = h')) :=
  ⟨he, fz, ds, hr, σ, r, _, h', .mk' hn hv, hco, rfl, fun o t cs h1 => by have := keepP_ok hk o t cs h1; simpa using this, rfl, rfl⟩
end
theorem Co.of_eq {d e : D} (h : d = e) : Co d e := by subst h; exact .refl _
end Go.Proofs.YteaggenihhaajaaGreat
