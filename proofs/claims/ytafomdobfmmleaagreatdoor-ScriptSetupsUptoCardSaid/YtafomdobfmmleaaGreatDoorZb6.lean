/- Lemmas and contracts, part 6. -/
import Derived.Test.YtafomdobfmmleaaGreatDoorZb5
import Derived.Laws.CopyRow
/- Walks computed: parts of structs, structs built, numbers and bytes of slices. No program here. -/
namespace Go.Proofs.YtafomdobfmmleaaGreatDoor
open Go.RowKit
set_option linter.unusedSectionVars false
variable [Old]
set_option linter.unusedVariables false

theorem ld_get : ∀ (l : List D) (n : Nat), ld l n = l[n]?
  | [], _ => by simp [ld]
  | d :: _, 0 => by simp [ld]
  | _ :: l, n + 1 => by simp [ld, ld_get l n]
theorem lf_get : ∀ (l : List (Nat × TypeId)) (n : Nat), lf l n = l[n]?
  | [], _ => by simp [lf]
  | d :: _, 0 => by simp [lf]
  | _ :: l, n + 1 => by simp [lf, lf_get l n]
theorem dropD_eq : ∀ (n : Nat) (l : List D), dropD n l = l.drop n
  | 0, l => by simp [dropD]
  | _ + 1, [] => by simp [dropD]
  | n + 1, _ :: l => by simp [dropD, dropD_eq n l]
theorem tkD_eq : ∀ (n : Nat) (l r : List D), tkD n l = some r → r = l.take n ∧ n ≤ l.length
  | 0, l, r, h => by simp [tkD] at h; subst h; simp
  | _ + 1, [], r, h => by simp [tkD] at h
  | n + 1, d :: l, r, h => by
    simp only [tkD] at h
    split at h
    · rename_i r' e
      injection h with h
      subst h
      obtain ⟨rfl, h2⟩ := tkD_eq n l r' e
      exact ⟨by simp, by simp; omega⟩
    · cases h
/-- put over one by one -/
def setDs : List D → Nat → List D → List D
  | l, _, [] => l
  | l, o, d :: ds => setDs (l.set o d) (o + 1) ds
def setVs : List Value → Nat → List Value → List Value
  | l, _, [] => l
  | l, o, d :: ds => setVs (l.set o d) (o + 1) ds
theorem setDs_cons (a : D) : ∀ (ds l : List D) (o : Nat), setDs (a :: l) (o + 1) ds = a :: setDs l o ds
  | [], l, o => rfl
  | d :: ds, l, o => by simp only [setDs, List.set_cons_succ, setDs_cons a ds]
theorem overD_eq : ∀ (l : List D) (o : Nat) (ds r : List D), overD l o ds = some r → r = setDs l o ds ∧ (ds = [] ∨ o + ds.length ≤ l.length)
  | l, 0, [], r, h => by
    have : some l = some r := by cases l <;> simpa [overD] using h
    injection this with this
    exact ⟨by rw [← this]; rfl, .inl rfl⟩
  | [], 0, d :: ds, r, h => by simp [overD] at h
  | a :: l, 0, d :: ds, r, h => by
    simp only [overD] at h
    split at h
    · rename_i r' e
      injection h with h
      subst h
      obtain ⟨rfl, h2⟩ := overD_eq l 0 ds r' e
      refine ⟨by simp [setDs, setDs_cons], .inr ?_⟩
      rcases h2 with rfl | h2
      · simp
      · simp; omega
    · cases h
  | [], n + 1, [], r, h => by simp [overD] at h; subst h; exact ⟨rfl, .inl rfl⟩
  | [], n + 1, d :: ds, r, h => by simp [overD] at h
  | a :: l, n + 1, ds, r, h => by
    simp only [overD] at h
    split at h
    · rename_i r' e
      injection h with h
      subst h
      obtain ⟨rfl, h2⟩ := overD_eq l n ds r' e
      refine ⟨by rw [setDs_cons], ?_⟩
      rcases h2 with rfl | h2
      · exact .inl rfl
      · exact .inr (by simp; omega)
    · cases h
theorem setVs_mem : ∀ (us l : List Value) (o : Nat) (v : Value), v ∈ setVs l o us → v ∈ l ∨ v ∈ us
  | [], l, o, v, h => .inl h
  | u :: us, l, o, v, h => by
    rw [setVs] at h
    rcases setVs_mem us _ _ v h with h | h
    · rcases List.mem_or_eq_of_mem_set h with h | h
      · exact .inl h
      · exact .inr (by simp [h])
    · exact .inr (by simp [h])
theorem setVs_seg : ∀ (us l : List Value) (o : Nat), o + us.length ≤ l.length → setVs l o us = l.take o ++ us ++ l.drop (o + us.length)
  | [], l, o, h => by simp [setVs]
  | u :: us, l, o, h => by
    have h' : o + us.length + 1 ≤ l.length := by simp at h; omega
    rw [setVs, setVs_seg us _ _ (by simp; omega)]
    have e := list_seg_step l o u us (by omega)
    simpa [Nat.add_comm, Nat.add_left_comm, Nat.add_assoc] using e
theorem setDs_right : ∀ (x r ds : List D) (o : Nat), setDs (x ++ r) (x.length + o) ds = x ++ setDs r o ds
  | [], r, ds, o => by simp
  | a :: x, r, ds, o => by
    have e : (a :: x).length + o = (x.length + o) + 1 := by simp; omega
    rw [List.cons_append, e, setDs_cons, setDs_right x r ds o]; rfl
theorem setDs_left (r : List D) : ∀ (ds x : List D) (o : Nat), o + ds.length ≤ x.length → setDs (x ++ r) o ds = setDs x o ds ++ r
  | [], x, o, h => rfl
  | d :: ds, x, o, h => by
    have h' : o + ds.length + 1 ≤ x.length := by simp at h; omega
    rw [setDs, setDs, List.set_append_left _ _ (by omega), setDs_left r ds (x.set o d) (o + 1) (by simp; omega)]
theorem flat_set {n : Nat} : ∀ (xs : List (List D)), (∀ x ∈ xs, x.length = n) → ∀ (j off : Nat) (x0 ds : List D), xs[j]? = some x0 → off + ds.length ≤ n → (xs.set j (setDs x0 off ds)).flatten = setDs xs.flatten (j * n + off) ds
  | [], _, j, off, x0, ds, h, _ => by simp at h
  | x :: xs, hl, 0, off, x0, ds, h, ho => by
    have hx : x = x0 := by simpa using h
    subst hx
    rw [List.set_cons_zero, List.flatten_cons, List.flatten_cons, Nat.zero_mul, Nat.zero_add, setDs_left _ _ _ _ (by rw [hl x (by simp)]; exact ho)]
  | x :: xs, hl, j + 1, off, x0, ds, h, ho => by
    have hx : x.length = n := hl x (by simp)
    rw [List.set_cons_succ, List.flatten_cons, List.flatten_cons, flat_set xs (fun y hy => hl y (by simp [hy])) j off x0 ds (by simpa using h) ho]
    have e : (j + 1) * n + off = x.length + (j * n + off) := by rw [hx, Nat.add_mul]; omega
    rw [e, setDs_right]
theorem flat_seg {n : Nat} : ∀ (xs : List (List D)), (∀ x ∈ xs, x.length = n) → ∀ (j : Nat) (x0 : List D), xs[j]? = some x0 → (xs.flatten.drop (j * n)).take n = x0
  | [], _, j, x0, h => by simp at h
  | x :: xs, hl, 0, x0, h => by
    have hx : x = x0 := by simpa using h
    subst hx
    rw [Nat.zero_mul, List.drop_zero, List.flatten_cons, ← hl x (by simp), List.take_left]
  | x :: xs, hl, j + 1, x0, h => by
    have hx : x.length = n := hl x (by simp)
    have e : (j + 1) * n = x.length + j * n := by rw [hx, Nat.add_mul]; omega
    rw [List.flatten_cons, e, List.drop_append, List.drop_of_length_le (Nat.le_add_right _ _), List.nil_append, Nat.add_sub_cancel_left]
    exact flat_seg xs (fun y hy => hl y (by simp [hy])) j x0 (by simpa using h)
theorem setDs_len : ∀ (us l : List D) (o : Nat), (setDs l o us).length = l.length
  | [], l, o => rfl
  | u :: us, l, o => by rw [setDs, setDs_len us]; simp
theorem Drs.set {I : Nat → Prop} {w : World} {vs : List Value} {ds : List D} (h : Drs I w vs ds) {v : Value} {d : D} (k : Dr I w v d) (i : Nat) : Drs I w (vs.set i v) (ds.set i d) := by
  refine ⟨by simp [h.1], fun j u e h1 h2 => ?_⟩
  rw [List.getElem?_set] at h1 h2
  split at h1
  · rename_i hij
    subst hij
    rw [if_pos rfl] at h2
    split at h1
    · rename_i hlt
      rw [if_pos (by rw [← h.1]; exact hlt)] at h2
      injection h1 with h1; injection h2 with h2
      subst h1 h2
      exact k
    · cases h1
  · rename_i hij
    rw [if_neg hij] at h2
    exact h.2 j u e h1 h2
theorem Drs.setMany {I : Nat → Prop} {w : World} : ∀ {us : List Value} {es : List D} {vs : List Value} {ds : List D} (o : Nat), Drs I w vs ds → Drs I w us es → Drs I w (setVs vs o us) (setDs ds o es)
  | [], [], vs, ds, o, h, k => h
  | [], e :: es, vs, ds, o, h, k => by have := k.1; simp at this
  | u :: us, [], vs, ds, o, h, k => by have := k.1; simp at this
  | u :: us, e :: es, vs, ds, o, h, k => by
    rw [setVs, setDs]
    exact Drs.setMany (o + 1) (h.set (k.2 0 u e rfl rfl) o) ⟨by have := k.1; simpa using this, fun i v d h1 h2 => k.2 (i + 1) v d (by simpa using h1) (by simpa using h2)⟩
theorem Vrs.setMany {I : Nat → Prop} {g : Ghost} {w : World} : ∀ {us : List Value} {es : List D} {vs : List Value} {ds : List D} (o : Nat), Vrs I g w vs ds → Vrs I g w us es → Vrs I g w (setVs vs o us) (setDs ds o es)
  | [], [], vs, ds, o, h, k => h
  | [], e :: es, vs, ds, o, h, k => by have := k.1; simp at this
  | u :: us, [], vs, ds, o, h, k => by have := k.1; simp at this
  | u :: us, e :: es, vs, ds, o, h, k => by
    obtain ⟨v', vs', e1, h1, h2⟩ := k.uncons
    injection e1 with e1 e2
    subst e1 e2
    exact Vrs.setMany (o + 1) (h.set h1 o) h2
theorem foldl_set : ∀ (us : List Value) (k off : Nat) (arr : Array Value), ((us.zipIdx k).foldl (fun (cs : Array Value) (x : Value × Nat) => cs.setIfInBounds (off + x.2) x.1) arr).toList = setVs arr.toList (off + k) us
  | [], k, off, arr => rfl
  | u :: us, k, off, arr => by
    simp only [List.zipIdx_cons, List.foldl_cons, setVs]
    rw [foldl_set us (k + 1) off]
    simp [Nat.add_assoc]
theorem foldl_setA (us : Array Value) (off : Nat) (arr : Array Value) : (us.zipIdx.foldl (fun (cs : Array Value) (x : Value × Nat) => cs.setIfInBounds (off + x.2) x.1) arr).toList = setVs arr.toList off us.toList := by
  rw [← Array.foldl_toList, Array.toList_zipIdx]
  exact foldl_set us.toList 0 off arr
section
variable {P : Program} {I : Nat → Prop} {g : Ghost} {w : World}
theorem cellsD_ok {v : Value} {d : D} {ds : List D} (h : Vr I g w v d) (hc : cellsD d = some ds) : Vrs I g w v.cells.toList ds ∧ ∀ u ∈ v.cells.toList, u.oneCell' = true := by
  cases d with
  | agg cs =>
    simp only [cellsD] at hc
    injection hc with hc
    subst hc
    obtain ⟨vs, rfl, h1, h2⟩ := h.agg_inv
    exact ⟨h1, h2⟩
  | any => simp [cellsD] at hc
  | ifc t => simp [cellsD] at hc
  | ifn b => simp [cellsD] at hc
  | bad => simp [cellsD] at hc
  | tup ds => simp [cellsD] at hc
  | bool b =>
    cases h.bool_inv; simp only [cellsD] at hc; injection hc with hc; subst hc
    exact ⟨.cons h .nil, by simp [Value.cells, Value.oneCell']⟩
  | int k n =>
    cases h.int_inv; simp only [cellsD] at hc; injection hc with hc; subst hc
    exact ⟨.cons h .nil, by simp [Value.cells, Value.oneCell']⟩
  | str s =>
    cases h.str_inv; simp only [cellsD] at hc; injection hc with hc; subst hc
    exact ⟨.cons h .nil, by simp [Value.cells, Value.oneCell']⟩
  | list n xs =>
    have h0 := h.list_inv
    cases h0
    simp only [cellsD] at hc; injection hc with hc; subst hc
    exact ⟨.cons h .nil, by simp [Value.cells, Value.oneCell']⟩
  | own n xs =>
    have h0 := h.own_inv
    cases h0
    simp only [cellsD] at hc; injection hc with hc; subst hc
    exact ⟨.cons h .nil, by simp [Value.cells, Value.oneCell']⟩
  | nils =>
    cases h.nils_inv; simp only [cellsD] at hc; injection hc with hc; subst hc
    exact ⟨.cons h .nil, by simp [Value.cells, Value.oneCell']⟩
  | nilp =>
    cases h.nilp_inv; simp only [cellsD] at hc; injection hc with hc; subst hc
    exact ⟨.cons h .nil, by simp [Value.cells, Value.oneCell']⟩
  | nilf =>
    have : v = .nilFunc := by cases h with | rd h => cases h; rfl
    subst this
    simp only [cellsD] at hc; injection hc with hc; subst hc
    exact ⟨.cons h .nil, by simp [Value.cells, Value.oneCell']⟩
  | nilm =>
    have : v = .map none := by cases h with | rd h => cases h; rfl
    subst this
    simp only [cellsD] at hc; injection hc with hc; subst hc
    exact ⟨.cons h .nil, by simp [Value.cells, Value.oneCell']⟩
  | ref cs =>
    have h0 := h.ref_inv
    cases h0
    simp only [cellsD] at hc; injection hc with hc; subst hc
    exact ⟨.cons h .nil, by simp [Value.cells, Value.oneCell']⟩
  | ptr o off =>
    obtain ⟨b, bo, _, rfl⟩ := h.ptr_inv
    simp only [cellsD] at hc; injection hc with hc; subst hc
    exact ⟨.cons h .nil, by simp [Value.cells, Value.oneCell']⟩
  | row o =>
    obtain ⟨bo, a, l, c, _, rfl⟩ := h.row_inv
    simp only [cellsD] at hc; injection hc with hc; subst hc
    exact ⟨.cons h .nil, by simp [Value.cells, Value.oneCell']⟩
  | rowp o n i off =>
    obtain ⟨bo, b, base, l, c, _, rfl⟩ := h.rowp_inv
    simp only [cellsD] at hc; injection hc with hc; subst hc
    exact ⟨.cons h .nil, by simp [Value.cells, Value.oneCell']⟩
  | fn f n caps =>
    obtain ⟨vs, rfl, _⟩ := h.fn_inv
    simp only [cellsD] at hc; injection hc with hc; subst hc
    exact ⟨.cons h .nil, by simp [Value.cells, Value.oneCell']⟩
theorem isAgg_run {t : TypeId} {d : TypeDesc} (hu : P.underlying t = some d) (w : World) : (isAgg t).run P w = .ok d.isRow w := by
  unfold isAgg
  rw [Sem.run_bind, run_underlying hu w]
  cases d <;> rfl
theorem sizeOf_run {t : TypeId} {inf : TypeInfo} (hi : P.info? t = some inf) (w : World) : (sizeOf t).run P w = .ok inf.size w := by simp [sizeOf, typeInfo, hi]
theorem desc_row {tb : TT} (htb : tb.ok P) {t : TypeId} {i : TyI} (h : tb.look t = some i) : ∃ d, P.underlying t = some d ∧ d.isRow = i.kind.isRow := by
  have hk := (htb t _ h).kind
  obtain ⟨d, hu⟩ := kind_some htb h
  refine ⟨d, hu, ?_⟩
  unfold kdOk at hk
  rw [hu] at hk
  obtain ⟨sz, by_, z, kd⟩ := i
  cases kd <;> cases d <;> first
    | rfl
    | (simp at hk; done)
/-- a part of cells -/
theorem partD_ok {tb : TT} (htb : tb.ok P) {t : TypeId} {ds : List D} {off : Nat} {d : D} {vs : List Value} (h : partD tb t ds off = some d) (hv : Vrs I g w vs ds) (h1 : ∀ v ∈ vs, v.oneCell' = true) :
    ∃ v, (∀ w', (part t vs.toArray off).run P w' = .ok v w') ∧ Vr I g w v d := by
  unfold partD at h
  split at h
  · cases h
  · rename_i i hi
    obtain ⟨td, hu, hr⟩ := desc_row htb hi
    obtain ⟨inf, z, hinf, hsz, _⟩ := (htb t i hi).info
    cases hk : i.kind with
    | struct fs =>
      rw [hk] at h hr
      simp only at h
      split at h
      · rename_i r hr'
        injection h with h
        subst h
        rw [dropD_eq] at hr'
        obtain ⟨rfl, hle⟩ := tkD_eq _ _ _ hr'
        refine ⟨.agg ((vs.drop off).take i.size).toArray, fun w' => ?_, .mkAgg ((hv.drop off).take i.size) (fun v h => h1 v (List.mem_of_mem_drop (List.mem_of_mem_take h)))⟩
        unfold part
        rw [Sem.run_bind, isAgg_run hu, hr]
        simp only [Result.andThen_ok, TK.isRow, if_true, Sem.run_bind, sizeOf_run hinf, Sem.run_pure, hsz]
        congr 2
        apply Array.toList_inj.1
        simp [List.extract_eq_take_drop]
      · cases h
    | _ =>
      rw [hk] at h hr
      simp only [ld_get] at h
      have hlt : off < vs.length := by rw [hv.1]; exact (List.getElem?_eq_some_iff.1 h).1
      refine ⟨vs[off], fun w' => ?_, hv.2 off _ d (List.getElem?_eq_getElem hlt) h⟩
      unfold part
      rw [Sem.run_bind, isAgg_run hu, hr]
      simp [TK.isRow, hlt]
theorem pureD_ok {v : Value} {d : D} (h : Vr I g w v d) : pureD d = true → Dr I w v d := by
  have hpl : ∀ (ds : List D), pureD.pl ds = true → ∀ d ∈ ds, pureD d = true := by
    intro ds
    induction ds with
    | nil => intro _ d hd; simp at hd
    | cons e ds ih =>
      intro h d hd
      simp only [pureD.pl, Bool.and_eq_true] at h
      rcases List.mem_cons.1 hd with rfl | hd
      · exact h.1
      · exact ih h.2 d hd
  induction h with
  | rd h => exact fun _ => h
  | any v => intro h; cases h
  | ifc t => intro h; cases h
  | nili => intro h; cases h
  | ifn => intro h; cases h
  | ptr => intro h; cases h
  | row => intro h; cases h
  | rowp => intro h; cases h
  | agg vs ds hl h1 h ih =>
    intro hp
    exact .agg vs ds hl h1 (fun i v d a b => ih i v d a b (hpl ds hp d (List.mem_of_getElem? b)))
  | tup vs ds hl h ih =>
    intro hp
    exact .tup vs ds hl (fun i v d a b => ih i v d a b (hpl ds hp d (List.mem_of_getElem? b)))
  | fn f n vs ds hl h ih =>
    intro hp
    exact .fn f n vs ds hl (fun i v d a b => ih i v d a b (hpl ds hp d (List.mem_of_getElem? b)))
theorem pureL_ok {vs : List Value} {ds : List D} (h : Vrs I g w vs ds) (hp : pureD.pl ds = true) : Drs I w vs ds := by
  have hpl : ∀ (ds : List D), pureD.pl ds = true → ∀ d ∈ ds, pureD d = true := by
    intro ds
    induction ds with
    | nil => intro _ d hd; simp at hd
    | cons e ds ih =>
      intro h d hd
      simp only [pureD.pl, Bool.and_eq_true] at h
      rcases List.mem_cons.1 hd with rfl | hd
      · exact h.1
      · exact ih h.2 d hd
  exact ⟨h.1, fun i v d a b => pureD_ok (h.2 i v d a b) (hpl ds hp d (List.mem_of_getElem? b))⟩
end
end Go.Proofs.YtafomdobfmmleaaGreatDoor
