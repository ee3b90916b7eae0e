/- Lemmas and contracts, part 8. -/
import Derived.Test.YtoikjgcggmemaaaGreatDoorZb7
import Derived.Maps.Range
import Derived.Sort.KeysCollected
import Derived.Test.YtoikjgcggmemaaaGreatDoorRows
/- A map of pointers as an object; the loop over it. No program here. -/
namespace Go.Proofs.YtoikjgcggmemaaaGreatDoor
open Go.RowKit Go.Maps
set_option linter.unusedVariables false

/-- what a map of files reads as -/
def dOf (E : List (Fl × Nat)) : DataW Unit := .map (E.map fun x => (.string x.1.nm, .lit (.int .i64 (x.2 : Int))))
def aMap (P : Program) (k : TypeId) (m : Nat) (D : DataW Unit) : Asn where
  at_ own w := own m ∧ ∃ n, w.ownsMap P k ptrElem m n D
  ext h hx hd := by
    obtain ⟨h1, n, es, clock, hb, r⟩ := h
    exact ⟨h1, n, es, clock, (hx.block m (Array.getElem?_eq_some_iff.1 hb).1 (hd _ h1)).trans hb, r⟩
  bound h := by
    obtain ⟨h1, n, h2⟩ := h
    exact ⟨⟨h1, h2.lt⟩, n, h2⟩
/-- a loop over it under way -/
def aRange (P : Program) (k : TypeId) (m r : Nat) (D : DataW Unit) (left : Lit → Bool) (cnt : Nat) : Asn where
  at_ own w := own m ∧ own r ∧ ∃ n, w.ranges P k ptrElem m r n D left cnt
  ext h hx hd := by
    obtain ⟨h1, h2, n, es, clock, since, seen, c0, hb, F, hs, hD, hr, rest⟩ := h
    exact ⟨h1, h2, n, es, clock, since, seen, c0, (hx.block m (Array.getElem?_eq_some_iff.1 hb).1 (hd _ h1)).trans hb, F, hs, hD, (hx.block r (Array.getElem?_eq_some_iff.1 hr).1 (hd _ h2)).trans hr, rest⟩
  bound h := by
    obtain ⟨h1, h2, n, h3⟩ := h
    exact ⟨⟨h1, h3.owns.lt⟩, ⟨h2, h3.lt⟩, n, h3⟩
theorem Ext.of_grown {w w' : World} {row : Option Nat} {own : Nat → Prop} (h : w.grownBy w' row) (hr : ∀ g, row = some g → own g) : Ext own w w' :=
  (Ext.refl own w).grown h (fun g hg _ => hr g hg)
/-- the tightest bound -/
theorem ownsMap_tight {H : Type} {w : World} {P : Program} {k : TypeId} {R : Value → Option (DataW H × List MemPlace)} {m n : Nat} {L : List (Lit × DataW H)} (h : w.ownsMap P k R m n (.map L)) : w.ownsMap P k R m L.length (.map L) := by
  obtain ⟨es, clock, hb, F, hs, hD⟩ := h
  refine ⟨es, clock, hb, F, ?_, hD⟩
  injection hD with hD
  rw [hD, length_sorted]; simp
section
variable {W w : World} {P : Program} {k e T : TypeId} {m : Nat} {D : DataW Unit} {L : List Asn}
theorem aMap.new (h : St W w L) : St W (w.alloc (.map #[] 0)) (aMap P k w.heap.size (.map []) :: L) :=
  h.add (B.alloc' _ _) (A := aMap P k w.heap.size (.map [])) (own := fun x => x = w.heap.size) ⟨rfl, 0, World.ownsMap_made w P k ptrElem⟩ (fun x e => by omega)
theorem aMap.get (h : St W w (aMap P k m D :: L)) : ∃ n, w.ownsMap P k ptrElem m n D := by
  obtain ⟨own, h1, h2⟩ := h.get
  exact h1.2
theorem aMap.look (h : St W w (aMap P k m D :: L)) (K : Keyed P k) (ht : P.underlying T = some (.map k e)) (hz : (zeroValue e).run P w = .ok (.pointer none) w) {key : Value} {kl : Lit} (hkey : keyOf P k key = some kl) :
    ∃ v ps, (Instr.lookup T (.map (some m)) key false).run P w = .ok v w ∧ ptrElem v = some (D.atKey kl .nil, ps) := by
  obtain ⟨n, hn⟩ := aMap.get h
  exact hn.lookup K ht hz (zp := []) rfl hkey
theorem aMap.len (h : St W w (aMap P k m D :: L)) (ht : P.underlying T = some (.map k e)) (ty : TypeId) : (Builtin.len_ #[T] ty #[.map (some m)]).run P w = .ok (.int .i64 (size D)) w := by
  obtain ⟨n, hn⟩ := aMap.get h
  exact hn.len ht ty
theorem aMap.store (h : St W w (aMap P k m D :: L)) (hD : ∃ E, D = .map E ∧ E.length < maxLen) (K : Keyed P k) (ht : P.underlying T = some (.map k e)) {key : Value} {kl : Lit} (hkey : keyOf P k key = some kl) (g : Nat) :
    ∃ w', (Instr.mapUpdate T (.map (some m)) key (.pointer (some ⟨g, 0, none⟩))).run P w = .ok () w' ∧ St W w' (aMap P k m (D.put kl (.lit (.int .i64 (g : Int)))) :: L) ∧ w.mapTurned w' m := by
  obtain ⟨own, ⟨h1, n, h2⟩, ho, hback⟩ := h.focus
  obtain ⟨E, rfl, hE⟩ := hD
  obtain ⟨w', r1, r2, r3⟩ := (ownsMap_tight h2).store K ht hE hkey (val := .pointer (some ⟨g, 0, none⟩)) (d := .lit (.int .i64 (g : Int))) (ps := []) rfl
  exact ⟨w', r1, hback w' (aMap P k m _) (Ext.of_grown r3.grown (fun x hx => by injection hx with hx; rw [← hx]; exact h1)) ⟨.inl h1, _, r2⟩, r3⟩
theorem aMap.drop (h : St W w (aMap P k m D :: L)) (K : Keyed P k) (ht : P.underlying T = some (.map k e)) {key : Value} {kl : Lit} (hkey : keyOf P k key = some kl) (ty : TypeId) :
    ∃ w', (Builtin.delete_ #[T, k] ty #[.map (some m), key]).run P w = .ok (.tuple #[]) w' ∧ St W w' (aMap P k m (D.del kl) :: L) ∧ w.mapTurned w' m := by
  obtain ⟨own, ⟨h1, n, h2⟩, ho, hback⟩ := h.focus
  obtain ⟨w', r1, r2, r3⟩ := h2.drop K ht hkey ty
  exact ⟨w', r1, hback w' (aMap P k m _) (Ext.of_grown r3.grown (fun x hx => by injection hx with hx; rw [← hx]; exact h1)) ⟨.inl h1, _, r2⟩, r3⟩
theorem aMap.range (h : St W w (aMap P k m D :: L)) (K : Keyed P k) (ht : P.underlying T = some (.map k e)) :
    ∃ w', (Instr.range T (.map (some m))).run P w = .ok (.pointer (some ⟨w.heap.size, 0, none⟩)) w' ∧ St W w' (aRange P k m w.heap.size D (has D) (size D) :: L) := by
  obtain ⟨own, ⟨h1, n, h2⟩, ho, hback⟩ := h.focus
  obtain ⟨w', r1, r2, r3, r4⟩ := h2.range K ht
  exact ⟨w', r1, hback w' (aRange P k m w.heap.size D (has D) (size D)) (Ext.of_grown r3 (fun x hx => by cases hx)) ⟨.inl h1, .inr (Nat.le_refl _), n, r2⟩⟩
theorem aRange.done {r cnt : Nat} {left : Lit → Bool} (h : St W w (aRange P k m r D left cnt :: L)) : St W w (aMap P k m D :: L) :=
  h.conv fun own ⟨h1, h2, n, h3⟩ => ⟨h1, n, h3.owns⟩
theorem aRange.next {r cnt : Nat} {left : Lit → Bool} (h : St W w (aRange P k m r D left cnt :: L)) (K : Keyed P k) (ty : TypeId) :
    (cnt = 0 ∧ (∀ kl, left kl = false) ∧ (Instr.next (.pointer (some ⟨r, 0, none⟩)) false ty).run P w = .ok (.tuple #[.bool false]) w) ∨
    ∃ key v kl y w' cnt', keyOf P k key = some kl ∧ left kl = true ∧ ptrElem v = some y ∧ (∀ zd, D.atKey kl zd = y.1) ∧ (Instr.next (.pointer (some ⟨r, 0, none⟩)) false ty).run P w = .ok (.tuple #[.bool true, key, v]) w' ∧
      St W w' (aRange P k m r D (fun x => left x && !x.sameKey kl) cnt' :: L) ∧ cnt' < cnt ∧ (Instr.entry (.pointer (some ⟨r, 0, none⟩))).run P w' = .ok (.tuple #[key, v]) w' := by
  obtain ⟨own, ⟨h1, h2, n, h3⟩, ho, hback⟩ := h.focus
  rcases h3.next K ty with ⟨a, b, c⟩ | ⟨key, v, kl, y, w', cnt', k1, k2, k3, k4, k5, k6, k7, k8, k9, k10⟩
  · exact .inl ⟨a, b, c⟩
  · exact .inr ⟨key, v, kl, y, w', cnt', k1, k2, k3, k4, k5, hback w' (aRange P k m r D _ cnt') (Ext.of_grown k8 (fun x hx => by injection hx with hx; rw [← hx]; exact h2)) ⟨.inl h1, .inl h2, n, k6⟩, k7, k10⟩
theorem aRange.left {r cnt : Nat} {left : Lit → Bool} (h : St W w (aRange P k m r D left cnt :: L)) : w.rangeLeft m r = cnt := by
  obtain ⟨own, ⟨h1, h2, n, h3⟩, _⟩ := h.get
  exact h3.left_eq
end
end Go.Proofs.YtoikjgcggmemaaaGreatDoor

/- What a map of files reads as, and the list of files. No program here. -/
namespace Go.Proofs.YtoikjgcggmemaaaGreatDoor
open Go.RowKit Go.Maps
set_option linter.unusedVariables false

abbrev flsOf (E : List (Fl × Nat)) : List Fl := E.map Prod.fst
def entOf (x : Fl × Nat) : Lit × DataW Unit := (.string x.1.nm, .lit (.int .i64 (x.2 : Int)))
theorem dOf_eq (E : List (Fl × Nat)) : dOf E = .map (E.map entOf) := rfl
def dropE (n : List UInt8) (E : List (Fl × Nat)) : List (Fl × Nat) := match ixF n (flsOf E) with | some i => E.take i ++ E.drop (i + 1) | none => E
def insE (x : Fl × Nat) (E : List (Fl × Nat)) : List (Fl × Nat) := E.take (posF x.1.nm (flsOf E)) ++ x :: E.drop (posF x.1.nm (flsOf E))
theorem dropE_fls (n : List UInt8) (E : List (Fl × Nat)) : flsOf (dropE n E) = dropF n (flsOf E) := by
  unfold dropE dropF flsOf
  cases ixF n (E.map Prod.fst) <;> simp [List.map_take, List.map_drop]
theorem insE_fls (x : Fl × Nat) (E : List (Fl × Nat)) : flsOf (insE x E) = insF x.1 (flsOf E) := by
  unfold insE insF flsOf
  simp [List.map_take, List.map_drop]
theorem same_str (a b : List UInt8) : (Lit.string a).sameKey (.string b) = (a == b) := rfl
theorem dOf_at {E : List (Fl × Nat)} {n : List UInt8} {i : Nat} (h : ixF n (flsOf E) = some i) : ∃ x, E[i]? = some x ∧ x.1.nm = n ∧ ∀ z, (dOf E).atKey (.string n) z = .lit (.int .i64 (x.2 : Int)) := by
  induction E generalizing i with
  | nil => simp [ixF, flsOf] at h
  | cons x r ih =>
    simp only [flsOf, List.map_cons, ixF] at h
    split at h
    · rename_i e
      simp at h; subst h
      exact ⟨x, rfl, e, fun z => by simp [dOf, DataW.atKey, same_str, e]⟩
    · rename_i e
      cases hr : ixF n (r.map Prod.fst) with
      | none => rw [hr] at h; simp at h
      | some k =>
        rw [hr] at h; simp at h; subst h
        obtain ⟨y, h1, h2, h3⟩ := ih (i := k) hr
        refine ⟨y, by simpa using h1, h2, fun z => ?_⟩
        have := h3 z
        have e' : (x.1.nm == n) = false := by simpa using e
        simp only [dOf, DataW.atKey, List.map_cons, List.find?_cons, same_str, e'] at this ⊢
        exact this
theorem dOf_no {E : List (Fl × Nat)} {n : List UInt8} (h : ixF n (flsOf E) = none) (z : DataW Unit) : (dOf E).atKey (.string n) z = z := by
  have hf : (E.map entOf).find? (fun p => p.1.sameKey (.string n)) = none := by
    rw [List.find?_eq_none]
    intro p hp
    obtain ⟨x, hx, rfl⟩ := List.mem_map.1 hp
    have := ixF_none h x.1 (List.mem_map.2 ⟨x, hx, rfl⟩)
    simpa [entOf, same_str] using this
  rw [dOf_eq]
  simp only [DataW.atKey, hf]
theorem dOf_size (E : List (Fl × Nat)) : size (dOf E) = E.length := by simp [size, dOf]
theorem dOf_keys (E : List (Fl × Nat)) : strKeys (dOf E) = (flsOf E).map Fl.nm := by
  simp [strKeys, dOf, strOf, flsOf, Function.comp_def]
theorem filter_not {E : List (Fl × Nat)} {n : List UInt8} (h : ∀ f ∈ flsOf E, f.nm ≠ n) : (E.map entOf).filter (fun p => !p.1.sameKey (.string n)) = E.map entOf := by
  rw [List.filter_eq_self]
  intro p hp
  obtain ⟨x, hx, rfl⟩ := List.mem_map.1 hp
  have := h x.1 (List.mem_map.2 ⟨x, hx, rfl⟩)
  simpa [entOf, same_str] using this
theorem filter_drop {E : List (Fl × Nat)} (hs : (flsOf E).Pairwise (fun a b => bytesBefore a.nm b.nm = true)) (n : List UInt8) : (E.map entOf).filter (fun p => !p.1.sameKey (.string n)) = (dropE n E).map entOf := by
  cases hi : ixF n (flsOf E) with
  | none => rw [filter_not (ixF_none hi)]; unfold dropE; rw [hi]
  | some i =>
    have hd : dropE n E = E.take i ++ E.drop (i + 1) := by unfold dropE; rw [hi]
    have hn := dropF_not hs n
    rw [← dropE_fls] at hn
    obtain ⟨x, h1, h2, _⟩ := dOf_at hi
    have hil : i < E.length := by
      rcases Nat.lt_or_ge i E.length with h' | h'
      · exact h'
      · rw [List.getElem?_eq_none h'] at h1; cases h1
    have e : E = E.take i ++ x :: E.drop (i + 1) := by
      have : E[i] = x := by rw [List.getElem?_eq_getElem hil] at h1; exact Option.some.inj h1
      rw [← this, ← List.drop_eq_getElem_cons hil, List.take_append_drop]
    have k1 := filter_not (E := E.take i) (n := n) (fun f hf => hn f (by rw [hd]; simp only [flsOf, List.map_append] at hf ⊢; exact List.mem_append.2 (.inl hf)))
    have k2 := filter_not (E := E.drop (i + 1)) (n := n) (fun f hf => hn f (by rw [hd]; simp only [flsOf, List.map_append] at hf ⊢; exact List.mem_append.2 (.inr hf)))
    conv => lhs; rw [e]
    rw [List.map_append, List.map_cons, List.filter_append, List.filter_cons, k1, k2, hd, List.map_append]
    have : (entOf x).1.sameKey (.string n) = true := by simp [entOf, same_str, h2]
    simp [this]
theorem dOf_del {E : List (Fl × Nat)} (hs : (flsOf E).Pairwise (fun a b => bytesBefore a.nm b.nm = true)) (n : List UInt8) : (dOf E).del (.string n) = dOf (dropE n E) := by
  rw [dOf_eq, dOf_eq]
  simp only [DataW.del]
  rw [filter_drop hs]
theorem insert_ins (x : Fl × Nat) : ∀ (E : List (Fl × Nat)), (∀ f ∈ flsOf E, f.nm ≠ x.1.nm) → DataW.insert (entOf x) (E.map entOf) = (insE x E).map entOf
  | [], _ => by simp [DataW.insert, insE, flsOf, posF]
  | y :: r, h => by
    have hy := h y.1 (by simp [flsOf])
    have hb : (entOf x).1.before (entOf y).1 = bytesBefore x.1.nm y.1.nm := rfl
    simp only [List.map_cons, DataW.insert, hb]
    unfold insE
    simp only [flsOf, List.map_cons, posF]
    rcases bb_tri x.1.nm y.1.nm with k | k | k
    · have k2 : bytesBefore y.1.nm x.1.nm = false := by
        cases hk : bytesBefore y.1.nm x.1.nm with
        | false => rfl
        | true => have := bb_trans _ _ _ k hk; rw [bb_irr] at this; cases this
      rw [if_pos k, k2]
      simp
    · exact absurd k.symm hy
    · have k2 : bytesBefore x.1.nm y.1.nm = false := by
        cases hk : bytesBefore x.1.nm y.1.nm with
        | false => rfl
        | true => have := bb_trans _ _ _ k hk; rw [bb_irr] at this; cases this
      rw [if_neg (by rw [k2]; simp), k, insert_ins x r (fun f hf => h f (by simp only [flsOf, List.map_cons]; exact List.mem_cons_of_mem _ hf))]
      simp [insE, flsOf]
theorem dOf_put {E : List (Fl × Nat)} (hs : (flsOf E).Pairwise (fun a b => bytesBefore a.nm b.nm = true)) (f : Fl) (g : Nat) : (dOf E).put (.string f.nm) (.lit (.int .i64 (g : Int))) = dOf (insE (f, g) (dropE f.nm E)) := by
  rw [dOf_eq, dOf_eq]
  simp only [DataW.put]
  rw [filter_drop hs, ← insert_ins (f, g) (dropE f.nm E) (fun x hx => by rw [dropE_fls] at hx; exact dropF_not hs f.nm x hx)]
  rfl
theorem dropE_none {E : List (Fl × Nat)} {n : List UInt8} (h : ixF n (flsOf E) = none) : dropE n E = E := by unfold dropE; rw [h]
/-- an object for each file, by whatever -/
theorem insE_perm (x : Fl × Nat) (E : List (Fl × Nat)) : (insE x E).Perm (x :: E) := by
  unfold insE
  refine List.perm_middle.trans ?_
  rw [List.take_append_drop]
end Go.Proofs.YtoikjgcggmemaaaGreatDoor

/- A disk as an object. -/
namespace Go.Proofs.YtoikjgcggmemaaaGreatDoor
open Go.RowKit Go.Maps
set_option linter.unusedVariables false

/-- a file: its struct, its bytes in a row of their own -/
def aFile (x : Fl × Nat) : Asn where
  at_ own w := own x.2 ∧ ∃ v, Blk w x.2 76 #[v, .int .i64 (x.1.sure : Int)] ∧ w.ownsRow 0 5 1 v x.1.b.length (cellsB x.1.b) ∧ ∀ g, v.ownBlock = some g → own g
  ext h hx hd := by
    obtain ⟨h1, v, h2, h3, h4⟩ := h
    exact ⟨h1, v, h2.ext hx (hd _ h1), row_ext h3 hx (fun g hg => hd g (h4 g hg)), h4⟩
  bound h := by
    obtain ⟨h1, v, h2, h3, h4⟩ := h
    exact ⟨⟨h1, h2.lt⟩, v, h2, h3, fun g hg => ⟨h4 g hg, row_lt h3 hg⟩⟩
/-- a disk's parts: its struct, its map, its files -/
def dkL (p m : Nat) (d : Dk) (E : List (Fl × Nat)) : List Asn :=
  aBlk p 49 #[.int .i64 d.room, .map (some m), .bool d.off] :: aMap Tryz.prog 9 m (dOf E) :: E.map aFile
def DkE (d : Dk) (x : Nat × List (Fl × Nat)) : Prop := d.ok ∧ flsOf x.2 = d.R
/-- a disk -/
def aDisk (p : Nat) (d : Dk) : Asn := aSome (DkE d) (fun x => dkL p x.1 d x.2)
section
variable {W w : World} {p m : Nat} {d : Dk} {E : List (Fl × Nat)} {X : List Asn}
theorem aDisk.open_ (h : St W w (aDisk p d :: X)) : ∃ m E, DkE d (m, E) ∧ St W w (dkL p m d E ++ X) := by
  obtain ⟨x, h1, h2⟩ := h.open_
  exact ⟨x.1, x.2, h1, h2⟩
theorem aDisk.shut (hE : DkE d (m, E)) (h : St W w (dkL p m d E ++ X)) : St W w (aDisk p d :: X) := St.shut (a := (m, E)) hE h
/-- the i-th file ahead -/
theorem dkL.pick {i : Nat} {x : Fl × Nat} (h : St W w (dkL p m d E ++ X)) (hi : E[i]? = some x) :
    St W w (aFile x :: aBlk p 49 #[.int .i64 d.room, .map (some m), .bool d.off] :: aMap Tryz.prog 9 m (dOf E) :: ((E.take i ++ E.drop (i + 1)).map aFile ++ X)) := by
  refine h.perm ?_
  have h1 := (perm_pick (L := E.map aFile) (i := i) (a := aFile x) (by rw [List.getElem?_map, hi]; rfl)).append_right X
  rw [← List.map_take, ← List.map_drop, ← List.map_append] at h1
  unfold dkL
  simp only [List.cons_append] at h1 ⊢
  refine ((h1.cons _).cons _).trans ?_
  exact (List.Perm.cons _ (List.Perm.swap _ _ _)).trans (List.Perm.swap _ _ _)
theorem dkL.unpick {d' : Dk} {i : Nat} {x y : Fl × Nat} (hi : E[i]? = some x) (hd : d'.room = d.room ∧ d'.off = d.off) (hn : y.1.nm = x.1.nm) (hg : y.2 = x.2)
    (h : St W w (aFile y :: aBlk p 49 #[.int .i64 d.room, .map (some m), .bool d.off] :: aMap Tryz.prog 9 m (dOf E) :: ((E.take i ++ E.drop (i + 1)).map aFile ++ X))) :
    St W w (dkL p m d' (E.set i y) ++ X) := by
  have hil : i < E.length := by
    rcases Nat.lt_or_ge i E.length with h' | h'
    · exact h'
    · rw [List.getElem?_eq_none h'] at hi; cases hi
  have hdo : dOf (E.set i y) = dOf E := by
    unfold dOf
    rw [List.map_set]
    congr 1
    apply List.ext_getElem?
    intro j
    rw [List.getElem?_set]
    split
    · rename_i e
      subst e
      rw [if_pos (by simpa using hil), List.getElem?_map, hi]
      simp [hn, hg]
    · rfl
  have h2 := dkL.pick (p := p) (m := m) (d := d') (E := E.set i y) (X := X) (W := W) (w := w) (i := i) (x := y)
  have e1 : (E.set i y).take i = E.take i := List.take_set_of_le (Nat.le_refl _)
  have e2 : (E.set i y).drop (i + 1) = E.drop (i + 1) := by rw [List.drop_set_of_lt (by omega)]
  unfold dkL
  rw [hdo, hd.1, hd.2]
  refine h.perm ?_
  have h1 := (perm_pick (L := (E.set i y).map aFile) (i := i) (a := aFile y) (by rw [List.getElem?_map, List.getElem?_set_self hil]; rfl)).append_right X
  rw [← List.map_take, ← List.map_drop, ← List.map_append, e1, e2] at h1
  simp only [List.cons_append] at h1 ⊢
  refine (List.Perm.trans ?_ ((h1.symm.cons _).cons _))
  exact (List.Perm.swap _ _ _).trans (List.Perm.cons _ (List.Perm.swap _ _ _))
theorem dkL.blk (h : St W w (dkL p m d E ++ X)) : Blk w p 49 #[.int .i64 d.room, .map (some m), .bool d.off] := aBlk.get h
theorem dkL.map (h : St W w (dkL p m d E ++ X)) : St W w (aMap Tryz.prog 9 m (dOf E) :: aBlk p 49 #[.int .i64 d.room, .map (some m), .bool d.off] :: (E.map aFile ++ X)) := St.swap h
theorem aFile.get {x : Fl × Nat} (h : St W w (aFile x :: X)) : ∃ v, Blk w x.2 76 #[v, .int .i64 (x.1.sure : Int)] ∧ w.ownsRow 0 5 1 v x.1.b.length (cellsB x.1.b) := by
  obtain ⟨own, ⟨h1, v, h2, h3, h4⟩, _⟩ := h.get
  exact ⟨v, h2, h3⟩
/-- a file is a struct and a row, apart -/
theorem aFile.open_ {x : Fl × Nat} (h : St W w (aFile x :: X)) : ∃ v, St W w (aBlk x.2 76 #[v, .int .i64 (x.1.sure : Int)] :: aRow 5 1 v x.1.b.length (cellsB x.1.b) :: X) := by
  obtain ⟨hb, own, h1, ⟨k1, v, k2, k3, k4⟩, h3⟩ := h
  refine ⟨v, hb, fun b => b = x.2, fun b hb => by rw [hb]; exact h1 _ k1, ⟨rfl, k2⟩, fun b => own b ∧ b ≠ x.2, fun b hb => ⟨⟨(h1 b hb.1).1, hb.2⟩, (h1 b hb.1).2⟩, ⟨k3, fun g hg => ⟨k4 g hg, fun e => row_ne k3 k2 (by decide) (by rw [hg, e])⟩⟩, h3.mono fun b _ hb => ⟨⟨hb.1, fun e => hb.2 (by rw [e]; exact k1)⟩, fun e => hb.2 e.1⟩⟩
theorem aFile.shut {x : Fl × Nat} {v : Value} (h : St W w (aBlk x.2 76 #[v, .int .i64 (x.1.sure : Int)] :: aRow 5 1 v x.1.b.length (cellsB x.1.b) :: X)) : St W w (aFile x :: X) := by
  obtain ⟨hb, o1, h1, ⟨k1, k2⟩, o2, h2, ⟨k3, k4⟩, h3⟩ := h
  refine ⟨hb, fun b => o1 b ∨ o2 b, fun b hb => hb.elim (fun e => h1 b e) (fun e => ⟨(h2 b e).1.1, (h2 b e).2⟩), ⟨.inl k1, v, k2, k3, fun g hg => .inr (k4 g hg)⟩, h3.mono fun b _ hb => ⟨hb.1.1, fun e => e.elim hb.1.2 hb.2⟩⟩
end
end Go.Proofs.YtoikjgcggmemaaaGreatDoor
