/- Lemmas and contracts, part 8. -/
import Derived.Test.YtafomdobfmmleaaGreatDoorZb7
/- Walks computed: what a function does with data, from its code; data that were objects; data for nil. No program here. -/
namespace Go.Proofs.YtafomdobfmmleaaGreatDoor
open Go.RowKit
set_option linter.unusedSectionVars false
variable [Wd]
set_option linter.unusedVariables false

/-- a datum without colours -/
def D.clr : D → D
  | .own n xs => .list n (ll xs)
  | .list n xs => .list n (ll xs)
  | .ref cs => .ref (cl cs)
  | .agg cs => .agg (cl cs)
  | .tup cs => .tup (cl cs)
  | .fn f n cs => .fn f n (cl cs)
  | d => d
  where
  cl : List D → List D
  | [] => []
  | d :: ds => d.clr :: cl ds
  ll : List (List D) → List (List D)
  | [] => []
  | x :: xs => cl x :: ll xs
theorem cl_map : ∀ ds : List D, D.clr.cl ds = ds.map D.clr
  | [] => rfl
  | d :: ds => by rw [D.clr.cl, cl_map ds]; rfl
theorem ll_map : ∀ xs : List (List D), D.clr.ll xs = xs.map D.clr.cl
  | [] => rfl
  | x :: xs => by rw [D.clr.ll, ll_map xs]; rfl
theorem cl_get {ds : List D} {i : Nat} {e : D} (h : (D.clr.cl ds)[i]? = some e) : ∃ d, ds[i]? = some d ∧ e = d.clr := by
  rw [cl_map, List.getElem?_map] at h
  cases hd : ds[i]? with
  | none => rw [hd] at h; cases h
  | some d => rw [hd] at h; injection h with h; exact ⟨d, rfl, h.symm⟩
theorem ll_get {xs : List (List D)} {i : Nat} {y : List D} (h : (D.clr.ll xs)[i]? = some y) : ∃ x, xs[i]? = some x ∧ y = D.clr.cl x := by
  rw [ll_map, List.getElem?_map] at h
  cases hd : xs[i]? with
  | none => rw [hd] at h; cases h
  | some d => rw [hd] at h; injection h with h; exact ⟨d, rfl, h.symm⟩
theorem cl_len (ds : List D) : (D.clr.cl ds).length = ds.length := by rw [cl_map, List.length_map]
theorem ll_len (xs : List (List D)) : (D.clr.ll xs).length = xs.length := by rw [ll_map, List.length_map]
theorem Dr.clr {I : Nat → Prop} {w : World} {v : Value} {d : D} (h : Dr I w v d) : Dr I w v d.clr := by
  induction h with
  | bool b => exact .bool b
  | int k n => exact .int k n
  | str s => exact .str s
  | nils => exact .nils
  | nilp => exact .nilp
  | nilf => exact .nilf
  | nilm => exact .nilm
  | list A cap n l xs U hl0 hl hm hnone hlen hA h1 hU ih =>
    simp only [D.clr]
    refine .list A cap n l _ U (by rw [ll_len]; exact hl0) hl hm hnone (fun y hy => ?_) (fun h0 => ?_) (fun i y j e hy he => ?_) (fun i y j e hy he => ?_)
    · obtain ⟨i, hi⟩ := List.getElem?_of_mem hy
      obtain ⟨x, hx, rfl⟩ := ll_get hi
      rw [cl_len]; exact hlen x (List.mem_of_getElem? hx)
    · obtain ⟨b, off, e1, hb, hI, hc⟩ := hA h0
      refine ⟨b, off, e1, hb, hI, fun i y j e hy he => ?_⟩
      obtain ⟨x, hx, rfl⟩ := ll_get hy
      obtain ⟨d, hd, rfl⟩ := cl_get he
      exact hc i x j d hx hd
    · obtain ⟨x, hx, rfl⟩ := ll_get hy
      obtain ⟨d, hd, rfl⟩ := cl_get he
      exact h1 i x j d hx hd
    · obtain ⟨x, hx, rfl⟩ := ll_get hy
      obtain ⟨d, hd, rfl⟩ := cl_get he
      exact ih i x j d hx hd
  | own A cap n l xs U hl0 hl hm hnone hlen hA h1 hU ih =>
    simp only [D.clr]
    refine .list A cap n l _ U (by rw [ll_len]; exact hl0) hl hm hnone (fun y hy => ?_) (fun h0 => ?_) (fun i y j e hy he => ?_) (fun i y j e hy he => ?_)
    · obtain ⟨i, hi⟩ := List.getElem?_of_mem hy
      obtain ⟨x, hx, rfl⟩ := ll_get hi
      rw [cl_len]; exact hlen x (List.mem_of_getElem? hx)
    · obtain ⟨b, off, e1, hb, hI, _, _, hc⟩ := hA h0
      refine ⟨b, off, e1, hb, hI, fun i y j e hy he => ?_⟩
      obtain ⟨x, hx, rfl⟩ := ll_get hy
      obtain ⟨d, hd, rfl⟩ := cl_get he
      exact hc i x j d hx hd
    · obtain ⟨x, hx, rfl⟩ := ll_get hy
      obtain ⟨d, hd, rfl⟩ := cl_get he
      exact h1 i x j d hx hd
    · obtain ⟨x, hx, rfl⟩ := ll_get hy
      obtain ⟨d, hd, rfl⟩ := cl_get he
      exact ih i x j d hx hd
  | ref b off cs U hI hb hc h1 hU ih =>
    simp only [D.clr]
    refine .ref b off _ U hI hb (fun j e he => ?_) (fun j e he => ?_) (fun j e he => ?_) <;> obtain ⟨d, hd, rfl⟩ := cl_get he
    · exact hc j d hd
    · exact h1 j d hd
    · exact ih j d hd
  | agg vs ds hl h1 h ih =>
    simp only [D.clr]
    refine .agg vs _ (by rw [cl_len]; exact hl) h1 (fun i v e hv he => ?_)
    obtain ⟨d, hd, rfl⟩ := cl_get he
    exact ih i v d hv hd
  | tup vs ds hl h ih =>
    simp only [D.clr]
    refine .tup vs _ (by rw [cl_len]; exact hl) (fun i v e hv he => ?_)
    obtain ⟨d, hd, rfl⟩ := cl_get he
    exact ih i v d hv hd
  | fn f n vs ds hl h ih =>
    simp only [D.clr]
    refine .fn f n vs _ (by rw [cl_len]; exact hl) (fun i v e hv he => ?_)
    obtain ⟨d, hd, rfl⟩ := cl_get he
    exact ih i v d hv hd
theorem Vr.clr {I : Nat → Prop} {g : Ghost} {w : World} {v : Value} {d : D} (h : Vr I g w v d) : Vr I g w v d.clr := by
  induction h with
  | rd h => exact .rd h.clr
  | any v => exact .any v
  | ifc t => exact .ifc t
  | nili => exact .nili
  | ifn t x => exact .ifn t x
  | ptr o off b bo h => exact .ptr o off b bo h
  | row o bo a l c h => exact .row o bo a l c h
  | rowp o n i off b base l c bo h => exact .rowp o n i off b base l c bo h
  | agg vs ds hl h1 h ih =>
    simp only [D.clr]
    refine .agg vs _ (by rw [cl_len]; exact hl) h1 (fun i v e hv he => ?_)
    obtain ⟨d, hd, rfl⟩ := cl_get he
    exact ih i v d hv hd
  | tup vs ds hl h ih =>
    simp only [D.clr]
    refine .tup vs _ (by rw [cl_len]; exact hl) (fun i v e hv he => ?_)
    obtain ⟨d, hd, rfl⟩ := cl_get he
    exact ih i v d hv hd
  | fn f n vs ds hl h ih =>
    simp only [D.clr]
    refine .fn f n vs _ (by rw [cl_len]; exact hl) (fun i v e hv he => ?_)
    obtain ⟨d, hd, rfl⟩ := cl_get he
    exact ih i v d hv hd

/-- nil as an empty list -/
inductive Co : D → D → Prop
  | refl (d : D) : Co d d
  | nil (n : Nat) : Co .nils (.list n [])
  | nilo (n : Nat) : Co .nils (.own n [])
  | any (d : D) : Co d .any
  | clr (d : D) : Co d d.clr
  | agg (ds es : List D) (hl : ds.length = es.length) (h : ∀ (i : Nat) d e, ds[i]? = some d → es[i]? = some e → Co d e) : Co (.agg ds) (.agg es)
  | tup (ds es : List D) (hl : ds.length = es.length) (h : ∀ (i : Nat) d e, ds[i]? = some d → es[i]? = some e → Co d e) : Co (.tup ds) (.tup es)
  | list (n : Nat) (xs ys : List (List D)) (hl : xs.length = ys.length) (h : ∀ (i : Nat) x y, xs[i]? = some x → ys[i]? = some y → x.length = y.length ∧ ∀ (j : Nat) d e, x[j]? = some d → y[j]? = some e → e = d ∨ (d = .nils ∧ ∃ m, e = .list m [])) : Co (.list n xs) (.list n ys)
theorem Dr.co_nil {I : Nat → Prop} {w : World} {v : Value} {d e : D} (h : Dr I w v d) (k : e = d ∨ (d = .nils ∧ ∃ m, e = .list m [])) : Dr I w v e := by
  rcases k with rfl | ⟨rfl, m, rfl⟩
  · exact h
  · cases h
    exact .list none 0 m 0 [] (fun _ _ => undef) rfl (Nat.le_refl _) (Nat.zero_le _) (fun _ => ⟨rfl, rfl⟩) (by simp) (fun h => by simp at h) (by simp) (by simp)
theorem Co.ok {I : Nat → Prop} {g : Ghost} {w : World} {d e : D} (h : Co d e) : ∀ {v : Value}, Vr I g w v d → Vr I g w v e := by
  induction h with
  | refl d => exact fun h => h
  | nil n =>
    intro v h
    cases h.nils_inv
    exact .rd (.list none 0 n 0 [] (fun _ _ => undef) rfl (Nat.le_refl _) (Nat.zero_le _) (fun _ => ⟨rfl, rfl⟩) (by simp) (fun h => by simp at h) (by simp) (by simp))
  | nilo n =>
    intro v h
    cases h.nils_inv
    exact .rd (.own none 0 n 0 [] (fun _ _ => undef) rfl (Nat.le_refl _) (Nat.zero_le _) (fun _ => ⟨rfl, rfl⟩) (by simp) (fun h => by simp at h) (by simp) (by simp))
  | any d => exact fun _ => .any _
  | clr d => exact fun h => h.clr
  | agg ds es hl h ih =>
    intro v hv
    obtain ⟨vs, rfl, k1, k2⟩ := hv.agg_inv
    refine .agg vs es (k1.1.trans hl) k2 (fun i v e h1 h2 => ?_)
    have hlt : i < ds.length := by rw [hl]; exact (List.getElem?_eq_some_iff.1 h2).1
    exact ih i _ e (List.getElem?_eq_getElem hlt) h2 (k1.2 i v _ h1 (List.getElem?_eq_getElem hlt))
  | tup ds es hl h ih =>
    intro v hv
    obtain ⟨vs, rfl, k1⟩ := hv.tup_inv
    refine .tup vs es (k1.1.trans hl) (fun i v e h1 h2 => ?_)
    have hlt : i < ds.length := by rw [hl]; exact (List.getElem?_eq_some_iff.1 h2).1
    exact ih i _ e (List.getElem?_eq_getElem hlt) h2 (k1.2 i v _ h1 (List.getElem?_eq_getElem hlt))
  | list n xs ys hl h =>
    intro v hv
    cases hv with
    | rd hv =>
      cases hv with
      | list A cap _ l _ U hl0 hlc hm hnone hlen hA h1 hU =>
        have at_ : ∀ (i : Nat) y (j : Nat) e, ys[i]? = some y → y[j]? = some e → ∃ x d, xs[i]? = some x ∧ x[j]? = some d ∧ x.length = y.length ∧ (e = d ∨ (d = .nils ∧ ∃ m, e = .list m [])) := fun i y j e hy he => by
          have hi : i < xs.length := by rw [hl]; exact (List.getElem?_eq_some_iff.1 hy).1
          obtain ⟨k1, k2⟩ := h i _ y (List.getElem?_eq_getElem hi) hy
          have hj : j < (xs[i]).length := by rw [k1]; exact (List.getElem?_eq_some_iff.1 he).1
          exact ⟨_, _, List.getElem?_eq_getElem hi, List.getElem?_eq_getElem hj, k1, k2 j _ e (List.getElem?_eq_getElem hj) he⟩
        refine .rd (.list A cap n l ys U (hl0.trans hl) hlc hm hnone (fun y hy => ?_) (fun h0 => ?_) (fun i y j e hy he => ?_) (fun i y j e hy he => ?_))
        · obtain ⟨i, hi⟩ := List.getElem?_of_mem hy
          have hx : i < xs.length := by rw [hl]; exact (List.getElem?_eq_some_iff.1 hi).1
          obtain ⟨k1, _⟩ := h i _ y (List.getElem?_eq_getElem hx) hi
          rw [← k1]
          exact hlen _ (List.getElem_mem hx)
        · obtain ⟨b, off, e1, e2, e3, e4⟩ := hA h0
          refine ⟨b, off, e1, e2, e3, fun i y j e hy he => ?_⟩
          obtain ⟨x, d, a1, a2, _, _⟩ := at_ i y j e hy he
          exact e4 i x j d a1 a2
        · obtain ⟨x, d, a1, a2, _, _⟩ := at_ i y j e hy he
          exact h1 i x j d a1 a2
        · obtain ⟨x, d, a1, a2, _, a3⟩ := at_ i y j e hy he
          exact (hU i x j d a1 a2).co_nil a3
def Cos (ds es : List D) : Prop := ds.length = es.length ∧ ∀ (i : Nat) d e, ds[i]? = some d → es[i]? = some e → Co d e
theorem Cos.nil : Cos [] [] := ⟨rfl, fun i d e h => by simp at h⟩
theorem Cos.cons {d e : D} {ds es : List D} (h : Co d e) (k : Cos ds es) : Cos (d :: ds) (e :: es) := by
  refine ⟨by simp [k.1], fun i a b h1 h2 => ?_⟩
  cases i with
  | zero => simp at h1 h2; subst h1 h2; exact h
  | succ i => simp at h1 h2; exact k.2 i a b h1 h2
theorem Cos.refl (ds : List D) : Cos ds ds := ⟨rfl, fun i d e h1 h2 => by rw [h1] at h2; injection h2 with h2; subst h2; exact .refl _⟩
theorem Cos.mkAgg {ds es : List D} (h : Cos ds es) : Co (.agg ds) (.agg es) := .agg ds es h.1 h.2
theorem Cos.ok {I : Nat → Prop} {g : Ghost} {w : World} {ds es : List D} (h : Cos ds es) {vs : List Value} (k : Vrs I g w vs ds) : Vrs I g w vs es := by
  refine ⟨k.1.trans h.1, fun i v e h1 h2 => ?_⟩
  have hlt : i < ds.length := by rw [h.1]; exact (List.getElem?_eq_some_iff.1 h2).1
  exact (h.2 i _ e (List.getElem?_eq_getElem hlt) h2).ok (k.2 i v _ h1 (List.getElem?_eq_getElem hlt))

/-! rows held for data -/
/-- the rows fz are held for data; with o + 1000 in fz, too, the data keep their colour -/
def D.frz (h : List AO) (fz : List Nat) : D → D
  | .row o => bif fz.elem o then (match lh h o with
    | .row _ n xs => bif fz.elem (o + 1000) then .own n xs else .list n xs
    | _ => .row o) else .row o
  | .agg cs => .agg (fl cs)
  | .tup cs => .tup (fl cs)
  | d => d
  where fl : List D → List D
  | [] => []
  | d :: ds => d.frz h fz :: fl ds
theorem fl_map (h : List AO) (fz : List Nat) : ∀ ds : List D, D.frz.fl h fz ds = ds.map (D.frz h fz)
  | [] => rfl
  | d :: ds => by rw [D.frz.fl, fl_map h fz ds]; rfl
theorem Vr.frz {I I' : Nat → Prop} {g : Ghost} {w : World} {h : List AO} {fz : List Nat} (hd : Den I g w h) (hA : ∀ b, Old.A b → I b) (hI : ∀ b, I b → I' b) (hf : ∀ b, OwnedIn fz g h b → I' b) {v : Value} {d : D} (hv : Vr I g w v d) : Vr I' g w v (d.frz h fz) := by
  have id_of : ∀ {v : Value} {d : D}, Dr I w v d → d.frz h fz = d := by
    intro v d hdr
    have key : ∀ (vs : List Value) (ds : List D), vs.length = ds.length → (∀ (i : Nat) v d, vs[i]? = some v → ds[i]? = some d → d.frz h fz = d) → D.frz.fl h fz ds = ds := by
      intro vs ds hl ih
      apply List.ext_getElem?
      intro i
      rw [fl_map, List.getElem?_map]
      cases hd : ds[i]? with
      | none => rfl
      | some d =>
        have hlt : i < vs.length := by rw [hl]; exact (List.getElem?_eq_some_iff.1 hd).1
        simp [ih i _ d (List.getElem?_eq_getElem hlt) hd]
    induction hdr with
    | agg vs ds hl h1 h ih => simp only [D.frz]; rw [key vs ds hl ih]
    | tup vs ds hl h ih => simp only [D.frz]; rw [key vs ds hl ih]
    | _ => rfl
  induction hv with
  | rd hq => rw [id_of hq]; exact .rd (hq.mono hI)
  | any v => exact .any v
  | ifc t => exact .ifc t
  | nili => exact .nili
  | ifn t x => exact .ifn t x
  | ptr o off b bo hq => exact .ptr o off b bo hq
  | rowp o n i off b base l c bo h => exact .rowp o n i off b base l c bo h
  | row o bo a l c hq =>
    simp only [D.frz]
    cases hfo : fz.elem o with
    | false => exact .row o bo a l c hq
    | true =>
      simp only [cond_true]
      cases hl : lh h o with
      | row t n xs =>
        have hlc := lh_row hl
        obtain ⟨a', c', vs, hp, hr, hb, hdv, hlen, h1⟩ := hd.obj o _ _ hlc hq
        have hp' : a = a' ∧ l = xs.length := by injection hp with e1 e2 e3; exact ⟨e1, e2⟩
        obtain ⟨rfl, rfl⟩ := hp'
        have hdr := Dr.of_row (I := I') hr (hdv.mono hI) hlen h1 (fun b hb' => hf b ⟨o, _, _, by simpa using hfo, hlc, hq, hb.trans hb'⟩)
        simp only
        cases fz.elem (o + 1000) with
        | false => exact .rd hdr
        | true => exact .rd (hdr.colour (fun b hb' hn => hd.own o _ _ b hlc hq (hb.trans hb') (hA b hn)) (fun b off l c e j hj => hr.unfrozen e hj))
      | cells t cs => exact .row o bo a l c hq
      | gone => exact .row o bo a l c hq
  | agg vs ds hl h1 h ih =>
    refine .agg vs _ (by rw [fl_map]; simpa using hl) h1 (fun i v e hv he => ?_)
    rw [fl_map, List.getElem?_map] at he
    cases hq : ds[i]? with
    | none => rw [hq] at he; cases he
    | some c => rw [hq] at he; injection he with he; subst he; exact ih i v c hv hq
  | tup vs ds hl h ih =>
    refine .tup vs _ (by rw [fl_map]; simpa using hl) (fun i v e hv he => ?_)
    rw [fl_map, List.getElem?_map] at he
    cases hq : ds[i]? with
    | none => rw [hq] at he; cases he
    | some c => rw [hq] at he; injection he with he; subst he; exact ih i v c hv hq
  | fn f n vs ds hl h ih => exact .fn f n vs ds hl (fun i v d h1 h2 => (h i v d h1 h2).mono hI (fun _ _ h => h))
def AO.frz (h : List AO) (fz : List Nat) : AO → AO
  | .cells t cs => .cells t (D.frz.fl h fz cs)
  | a => a
def frH (h : List AO) (fz : List Nat) : Nat → List AO → List AO
  | _, [] => []
  | o, a :: l => (bif fz.elem o then .gone else a.frz h fz) :: frH h fz (o + 1) l
theorem frH_get (h : List AO) (fz : List Nat) : ∀ (l : List AO) (k o : Nat), (frH h fz k l)[o]? = (l[o]?).map fun a => if fz.elem (k + o) then AO.gone else a.frz h fz
  | [], k, o => by simp [frH]
  | a :: l, k, 0 => by simp only [frH, Nat.add_zero]; cases fz.elem k <;> rfl
  | a :: l, k, o + 1 => by simp [frH, frH_get h fz l (k + 1) o, Nat.add_assoc, Nat.add_comm 1 o]
def S.frz (s : S) (fz : List Nat) : S := ⟨s.t.map fun x => (x.1, x.2.frz s.h fz), frH s.h fz 0 s.h⟩
theorem lk_map (f : D → D) (hf : f .any = .any) : ∀ (l : List (Nat × D)) (j : Nat), lk (l.map fun x => (x.1, f x.2)) j = f (lk l j)
  | [], j => by simp [lk, hf]
  | (i, d) :: l, j => by
    simp only [List.map_cons, lk, lk_map f hf l j]
    cases Nat.beq j i <;> rfl
theorem IInv.frz {C : Cx} {s : S} {a : Act} {w : World} (h : IInv C s a w) (fz : List Nat) : IInv C (s.frz fz) a w := by
  obtain ⟨I, g, h⟩ := h
  have hsub : ∀ {o : Nat} {ao : AO}, (s.frz fz).h[o]? = some ao → ao ≠ .gone → ∃ a0, s.h[o]? = some a0 ∧ ao = a0.frz s.h fz ∧ fz.elem o = false := by
    intro o ao h1 hne
    have h1' : (frH s.h fz 0 s.h)[o]? = some ao := h1
    rw [frH_get] at h1'
    cases hq : s.h[o]? with
    | none => rw [hq] at h1'; cases h1'
    | some a0 =>
      rw [hq] at h1'
      simp only [Option.map_some, Nat.zero_add] at h1'
      injection h1' with h1'
      cases hfo : fz.elem o with
      | true => rw [hfo] at h1'; exact absurd h1'.symm hne
      | false => rw [hfo] at h1'; exact ⟨a0, rfl, h1'.symm, rfl⟩
  have hown : ∀ {p : Option Nat × Value} {a0 : AO} {b : Nat}, (a0.frz s.h fz).owns p b → a0.owns p b := by
    intro p a0 b hb
    cases a0 <;> exact hb
  have hng : ∀ {p : Option Nat × Value} {ao : AO} {b : Nat}, ao.owns p b → ao ≠ .gone := by
    intro p ao b hb e
    subst e
    exact hb
  have hI : ∀ b, I b → (I b ∨ OwnedIn fz g s.h b) := fun b hb => .inl hb
  refine ⟨fun b => I b ∨ OwnedIn fz g s.h b, g, ⟨?_, fun b hb => ?_, fun o ao p h1 h2 => ?_, fun o ao p b h1 h2 h3 hb => ?_, fun o o' ao ao' p p' b h1 h1' h2 h2' h3 h3' => ?_⟩, Wd.cl h.wd (fun _ _ => rfl) (fun b hb => .inl hb), fun j => ?_, h.sz, h.dfr, h.kp, h.ext, fun b hb => .inl (h.i1 b hb), fun b hb => ?_, fun b hb => ?_, h.gk⟩
  · have : (frH s.h fz 0 s.h).length = s.h.length := by
      have : ∀ (l : List AO) (k : Nat), (frH s.h fz k l).length = l.length := by
        intro l
        induction l with
        | nil => intro k; rfl
        | cons a l ih => intro k; simp [frH, ih]
      exact this _ _
    exact h.den.len.trans this.symm
  · rcases hb with e | e
    · exact h.den.inn b e
    · exact h.den.lt e.owned
  · cases hao : ao with
    | gone => trivial
    | cells t cs =>
      obtain ⟨a0, e1, e2, e3⟩ := hsub h1 (by rw [hao]; simp)
      rw [← hao, e2]
      have hr := h.den.obj o a0 p e1 h2
      cases a0 with
      | cells t0 cs0 =>
        obtain ⟨b, vs, rfl, hb, hv, g1⟩ := hr
        refine ⟨b, vs, rfl, hb, ⟨by rw [fl_map]; simpa using hv.1, fun i v d q1 q2 => ?_⟩, g1⟩
        rw [fl_map, List.getElem?_map] at q2
        cases hq : cs0[i]? with
        | none => rw [hq] at q2; cases q2
        | some c => rw [hq] at q2; injection q2 with q2; subst q2; exact (hv.2 i v c q1 hq).frz h.den (fun b hb => Wd.aI h.wd b hb) (fun _ h => .inl h) (fun _ h => .inr h)
      | row t0 n xs => exact hr.mono hI (fun _ _ h => h)
      | gone => trivial
    | row t n xs =>
      obtain ⟨a0, e1, e2, e3⟩ := hsub h1 (by rw [hao]; simp)
      rw [← hao, e2]
      have hr := h.den.obj o a0 p e1 h2
      cases a0 with
      | cells t0 cs0 => rw [hao] at e2; cases e2
      | row t0 n xs => exact hr.mono hI (fun _ _ h => h)
      | gone => trivial
  · obtain ⟨a0, e1, e2, e3⟩ := hsub h1 (hng h3)
    rw [e2] at h3
    rcases hb with e | ⟨o', ao', p', hm, q1, q2, q3⟩
    · exact h.den.own o a0 p b e1 h2 (hown h3) e
    · have := h.den.sep o o' a0 ao' p p' b e1 q1 h2 q2 (hown h3) q3
      subst this
      have : fz.elem o = true := by simpa using hm
      rw [this] at e3
      cases e3
  · obtain ⟨a0, e1, e2, e3⟩ := hsub h1 (hng h3)
    obtain ⟨a0', e1', e2', e3'⟩ := hsub h1' (hng h3')
    rw [e2] at h3
    rw [e2'] at h3'
    exact h.den.sep o o' a0 a0' p p' b e1 e1' h2 h2' (hown h3) (hown h3')
  · show Vr _ g w _ (lk (s.t.map fun x => (x.1, x.2.frz s.h fz)) j)
    rw [lk_map (D.frz s.h fz) rfl]
    exact (h.tmp j).frz h.den (fun b hb => Wd.aI h.wd b hb) (fun _ h => .inl h) (fun _ h => .inr h)
  · rcases hb with e | e
    · exact h.i2 b e
    · right; exact h.ow b e.owned
  · obtain ⟨o, ao, p, h1, h2, h3⟩ := hb
    obtain ⟨a0, e1, e2, e3⟩ := hsub h1 (hng h3)
    rw [e2] at h3
    exact h.ow b ⟨o, a0, p, e1, h2, hown h3⟩
end Go.Proofs.YtafomdobfmmleaaGreatDoor

/- Walks computed: the rule for a function (FnS.of_exec). No program here. -/
namespace Go.Proofs.YtafomdobfmmleaaGreatDoor
open Go.RowKit
set_option linter.unusedSectionVars false
variable [Wd]
set_option linter.unusedVariables false

/-- what a function does with few objects: its answers meet Post; objects of cells stay such, by their names -/
def FnS (P : Program) (f : FuncId) (az : List D) (h : List AO) (Post : D → List AO → Prop) : Prop :=
  calleeOk P f = true ∧ ∀ (w : World) (I : Nat → Prop) (g : Ghost) (vs : List Value), Wd.W I w → Den I g w h → Vrs I g w vs az → Calls P f vs.toArray w fun e w' => (∃ v I' g' r h', e = .returned v ∧ Post r h' ∧ Den I' g' w' h' ∧ Vr I' g' w' v r ∧ Ext (Owned g h) w w' ∧
    (∀ b, I b → I' b) ∧ (∀ b, I' b → I b ∨ Owned g h b ∨ w.heap.size ≤ b) ∧ (∀ b, Owned g' h' b → Owned g h b ∨ w.heap.size ≤ b) ∧
    (∀ (o : Nat) p t cs, g[o]? = some p → h[o]? = some (.cells t cs) → g'[o]? = some p ∧ ∃ t' cs', h'[o]? = some (.cells t' cs'))) ∨
    (∃ ch, e = .panicked ch ∧ Wd.pan ch ∧ Ext (Owned g h) w w')
def argT : Nat → List D → List (Nat × D)
  | _, [] => []
  | i, d :: ds => (i, d) :: argT (i + 1) ds
theorem lk_argT : ∀ (ds : List D) (k j : Nat), lk (argT k ds) j = if k ≤ j then (ds[j - k]?).getD .any else .any
  | [], k, j => by simp [argT, lk]
  | d :: ds, k, j => by
    simp only [argT, lk, lk_argT ds (k + 1) j]
    by_cases hj : j = k
    · subst hj
      rw [Nat.beq_refl]
      simp
    · have hb : Nat.beq j k = false := by
        cases hb : Nat.beq j k with
        | false => rfl
        | true => exact absurd (Nat.eq_of_beq_eq_true hb) hj
      rw [hb]
      simp only [cond_false]
      by_cases hk : k ≤ j
      · have : j - k = j - (k + 1) + 1 := by omega
        rw [if_pos (by omega), if_pos hk, this]
        simp
      · rw [if_neg (by omega), if_neg hk]
/-- what a function answers, out of its temporaries and variables -/
def resD (tb : TT) (s : S) : List ResultVar → Option (List D)
  | [] => some []
  | .tmp t :: r => match resD tb s r with
    | some ds => some (lk s.t t :: ds)
    | none => none
  | .cell a ty :: r => match lk s.t a with
    | .ptr o off => match lh s.h o with
      | .cells _ cs => match partD tb ty cs off, resD tb s r with
        | some d, some ds => some (d :: ds)
        | _, _ => none
      | _ => none
    | _ => none
def resV : List D → D
  | [d] => d
  | ds => .tup ds
/-- an end that is well: the rows fz are held for data; of the objects those by the names σ are handed on; the answer is r -/
def Lf (tb : TT) (rs : List ResultVar) (h : List AO) (Post : D → List AO → Prop) (e : Exit) (s : S) : Prop :=
  (e = .normal ∨ e = .ret) ∧ ∃ (fz : List Nat) (ds : List D), resD tb (s.frz fz) rs = some ds ∧ ∃ (σ : List Nat) (r r0 : D) (h' : List AO), View σ (s.frz fz).h h' ∧ Co (resV ds) r0 ∧ r0 = r.ren σ ∧
    (∀ (o : Nat) t cs, h[o]? = some (.cells t cs) → σ[o]? = some o ∧ ∃ t' cs', h'[o]? = some (.cells t' cs')) ∧ Post r h'
section
variable {P : Program}
def resFn (tmps : Array Value) : ResultVar → Sem Value
  | .tmp t => pure (tmps.getD t undef)
  | .cell a t => do loadVar t (← asAddr (tmps.getD a undef))
theorem results_eq (fn : Func) (tmps : Array Value) : results fn tmps = (do let vs ← fn.results.mapM (resFn tmps); pure (if h : vs.size = 1 then vs[0] else .tuple vs)) := by
  unfold results
  congr 1
theorem resD_ok {tb : TT} (htb : tb.ok P) {s : S} {I : Nat → Prop} {g : Ghost} {w : World} (hd : Den I g w s.h) {tmps : Array Value} (ht : ∀ j, Vr I g w (tmps.getD j undef) (lk s.t j)) :
    ∀ (rs : List ResultVar) (ds : List D), resD tb s rs = some ds → ∃ vs : List Value, (rs.mapM (resFn tmps)).run P w = .ok vs w ∧ Vrs I g w vs ds
  | [], ds, h => by
    simp only [resD] at h
    injection h with h
    subst h
    exact ⟨[], rfl, .nil⟩
  | .tmp t :: r, ds, h => by
    simp only [resD] at h
    split at h
    · rename_i ds' hr
      injection h with h
      subst h
      obtain ⟨vs, h1, h2⟩ := resD_ok htb hd ht r ds' hr
      refine ⟨tmps.getD t undef :: vs, ?_, .cons (ht t) h2⟩
      rw [List.mapM_cons, Sem.run_bind]
      have r5 : (resFn tmps (.tmp t)).run P w = .ok (tmps.getD t undef) w := rfl
      rw [r5]
      simp only [Result.andThen_ok, Sem.run_bind, h1, Sem.run_pure]
    · cases h
  | .cell a ty :: r, ds, h => by
    simp only [resD] at h
    split at h
    · rename_i o off ha
      split at h
      · rename_i ct cs hl
        split at h
        · rename_i d ds' hp hr
          injection h with h
          subst h
          obtain ⟨vs, h1, h2⟩ := resD_ok htb hd ht r ds' hr
          have hv := ht a
          rw [ha] at hv
          obtain ⟨b, bo, hg, e⟩ := hv.ptr_inv
          have hlc := lh_cells hl
          obtain ⟨b', us, hpp, hb, k1, k2⟩ := hd.obj o _ _ hlc hg
          injection hpp with hp1 hp2
          injection hp2 with hp2
          injection hp2 with hp2
          injection hp2 with hp2 _ _
          subst hp2
          obtain ⟨v, r1, r2⟩ := load_part htb hp k1 k2 b 0
          have r3 := r2 w (fun j u hj => by rw [Nat.zero_add, hb.cell]; simpa using hj)
          rw [Nat.zero_add] at r3
          refine ⟨v :: vs, ?_, .cons r1 h2⟩
          rw [List.mapM_cons, Sem.run_bind]
          have r4 : (loadVar ty ⟨b, off, none⟩).run P w = .ok v w := by
            simpa [Instr.loadAt, Instr.sureAddr] using r3
          have r5 : (resFn tmps (.cell a ty)).run P w = .ok v w := by
            simp only [resFn, e, asAddr, Sem.run_bind, Sem.run_pure, Result.andThen_ok, r4]
          rw [r5]
          simp only [Result.andThen_ok, Sem.run_bind, h1, Sem.run_pure]
        · cases h
      · cases h
    · cases h
theorem results_ok {tb : TT} (htb : tb.ok P) {s : S} {I : Nat → Prop} {g : Ghost} {w : World} (hd : Den I g w s.h) {tmps : Array Value} (ht : ∀ j, Vr I g w (tmps.getD j undef) (lk s.t j)) {fn : Func} {ds : List D} (h : resD tb s fn.results.toList = some ds) :
    ∃ v, (results fn tmps).run P w = .ok v w ∧ Vr I g w v (resV ds) := by
  obtain ⟨vs, h1, h2⟩ := resD_ok htb hd ht _ _ h
  have hm : (fn.results.mapM (resFn tmps)).run P w = .ok vs.toArray w := by
    rw [Array.mapM_eq_mapM_toList, Sem.run_map, h1]
    rfl
  have hr : (results fn tmps).run P w = .ok (if h : vs.toArray.size = 1 then vs.toArray[0] else .tuple vs.toArray) w := by
    rw [results_eq, Sem.run_bind, hm]
    rfl
  refine ⟨_, hr, ?_⟩
  match ds, vs, h2 with
  | [], [], h2 => simpa [resV] using Vr.mkTup h2
  | [d], [v], h2 =>
    obtain ⟨v', vs', e, k1, _⟩ := h2.uncons
    injection e with e1 e2
    subst e1
    simpa [resV] using k1
  | d :: d' :: ds, v :: v' :: vs, h2 => simpa [resV] using Vr.mkTup h2
  | [], v :: vs, h2 => have := h2.1; simp at this
  | [d], [], h2 => have := h2.1; simp at this
  | [d], v :: v' :: vs, h2 => have := h2.1; simp at this
  | d :: d' :: ds, [], h2 => have := h2.1; simp at this
  | d :: d' :: ds, [v], h2 => have := h2.1; simp at this
theorem FnS.of_exec {f : FuncId} {fn : Func} {c : Code} {E : En} {m : Nat} {PL : List (Nat × PlanT)} {az : List D} {h : List AO} {Post : D → List AO → Prop} (hf : P.funcs[f]? = some fn) (hb : fn.body = some c) (hn : fn.ntmps = E.n) (htb : E.tb.ok P) (hmix : P.follows .mixedOrders = true) (hcal : calleeOk P f = true) (hm : h.length = m) (hal : az.length ≤ E.n)
    (hx : (execC E m PL c ⟨argT 0 az, h⟩ .leaf).ok P (Lf E.tb fn.results.toList h Post)) : FnS P f az h Post := by
  refine ⟨hcal, fun w I g vs hW hd hv => ?_⟩
  refine calls_of_wp hf hb ?_
  have hsz : vs.length ≤ E.n := by rw [hv.1]; exact hal
  refine execC_wp (C := ⟨w, I, g, h, E.n, E.lo, vs.toArray ++ Array.replicate (fn.ntmps - vs.toArray.size) undef⟩) htb ⟨rfl, rfl⟩ hm hmix c (fun a w ch h1 h2 h3 => ⟨h2, .inr ⟨ch, rfl, h1, h3⟩⟩) (fun c a w d v hq => ?_) (fun e s' a' w' hi hl => ?_) ⟨I, g, ⟨hd, hW, fun j => ?_, ?_, rfl, fun _ _ => rfl, Ext.refl _ _, fun _ h => h, fun _ h => .inl h, fun _ h => .inl h, fun o p t cs h1 h2 => h1⟩⟩ hx
  · simp only [bodyPost] at hq ⊢
    rw [put_defers] at hq
    exact hq
  · obtain ⟨he, fz, ds, hr, σ, r, r0, h', V, hco, rfl, hcells, hpost⟩ := hl
    obtain ⟨I', g', hi'⟩ := hi.frz fz
    obtain ⟨v, hrun, hvr⟩ := results_ok htb hi'.den hi'.tmp hr
    have hσ := gv_get V hi'.den.len
    have hR : bodyPost P fn (fun e w' => (∃ v I' g' r h', e = .returned v ∧ Post r h' ∧ Den I' g' w' h' ∧ Vr I' g' w' v r ∧ Ext (Owned g h) w w' ∧
        (∀ b, I b → I' b) ∧ (∀ b, I' b → I b ∨ Owned g h b ∨ w.heap.size ≤ b) ∧ (∀ b, Owned g' h' b → Owned g h b ∨ w.heap.size ≤ b) ∧
        (∀ (o : Nat) p t cs, g[o]? = some p → h[o]? = some (.cells t cs) → g'[o]? = some p ∧ ∃ t' cs', h'[o]? = some (.cells t' cs'))) ∨ (∃ ch, e = .panicked ch ∧ Wd.pan ch ∧ Ext (Owned g h) w w')) .normal a' w' := by
      refine ⟨hi'.dfr, v, hrun, .inl ⟨v, I', gv σ g', r, h', rfl, hpost, hi'.den.view V, (hco.ok hvr).down hσ r rfl, hi'.ext, hi'.i1, hi'.i2, fun b hb => hi'.ow b (Owned.view V hi'.den.len hb).owned, fun o p t cs h1 h2 => ?_⟩⟩
      obtain ⟨k1, k2⟩ := hcells o t cs h2
      exact ⟨by rw [hσ o o k1]; exact hi'.gk o p t cs h1 h2, k2⟩
    rcases he with rfl | rfl
    · exact hR
    · exact hR
  · rw [lk_argT]
    simp only [Nat.zero_le, if_true, Nat.sub_zero]
    cases hq : az[j]? with
    | none => exact .any _
    | some d =>
      have hlt : j < vs.length := by rw [hv.1]; exact (List.getElem?_eq_some_iff.1 hq).1
      have e : (vs.toArray ++ Array.replicate (fn.ntmps - vs.toArray.size) undef).getD j undef = vs[j] := by
        rw [Array.getD_eq_getD_getElem?, Array.getElem?_append_left (by simpa using hlt)]
        simp [hlt]
      rw [e]
      exact hv.2 j _ d (List.getElem?_eq_getElem hlt) hq
  · show (vs.toArray ++ Array.replicate (fn.ntmps - vs.toArray.size) undef).size = E.n
    simp
    omega
end
end Go.Proofs.YtafomdobfmmleaaGreatDoor

/- Walks computed: what a function does with few objects it does beside any others (FnS.big); what only computes (FnS.pure). No program here. -/
namespace Go.Proofs.YtafomdobfmmleaaGreatDoor
open Go.RowKit
set_option linter.unusedSectionVars false
variable [Wd]
set_option linter.unusedVariables false

def isC : AO → Bool
  | .cells _ _ => true
  | _ => false
def pos : List Nat → Nat → Nat → Option Nat
  | [], _, _ => none
  | s :: r, o, i => bif Nat.beq s o then some i else pos r o (i + 1)
def sgm (n : Nat) (σ : List Nat) (h : List AO) : Nat → List AO → List Nat
  | _, [] => []
  | j, _ :: r => (bif isC (lh h j) then (match ln σ j with | some o => o | none => n + j) else n + j) :: sgm n σ h (j + 1) r
def bas (σ σ' : List Nat) (h h' : List AO) : Nat → List AO → List AO
  | _, [] => []
  | o, a :: l => (match pos σ o 0 with
    | none => a
    | some i => bif isC (lh h i) then (lh h' i).ren σ' else .gone) :: bas σ σ' h h' (o + 1) l
def fre (σ' : List Nat) (h : List AO) : Nat → List AO → List AO
  | _, [] => []
  | j, a :: r => (bif isC (lh h j) then .gone else a.ren σ') :: fre σ' h (j + 1) r
/-- the names of what a callee leaves, in the caller's memory -/
def upS (hb : List AO) (σ : List Nat) (h h' : List AO) : List Nat := sgm hb.length σ h 0 h'
/-- the caller's memory behind the call -/
def upH (hb : List AO) (σ : List Nat) (h h' : List AO) : List AO := bas σ (upS hb σ h h') h h' 0 hb ++ fre (upS hb σ h h') h 0 h'
theorem pos_none : ∀ {σ : List Nat} {o i : Nat}, pos σ o i = none → o ∉ σ
  | [], o, i, _ => by simp
  | s :: r, o, i, h => by
    simp only [pos] at h
    cases hb : Nat.beq s o with
    | true => rw [hb] at h; cases h
    | false =>
      rw [hb] at h
      have := pos_none (σ := r) h
      intro hm
      rcases List.mem_cons.1 hm with rfl | hm
      · rw [Nat.beq_refl] at hb; cases hb
      · exact this hm
theorem pos_some : ∀ {σ : List Nat} {o i k : Nat}, pos σ o i = some k → i ≤ k ∧ σ[k - i]? = some o
  | [], o, i, k, h => by simp [pos] at h
  | s :: r, o, i, k, h => by
    simp only [pos] at h
    cases hb : Nat.beq s o with
    | true =>
      rw [hb] at h
      injection h with h
      subst h
      exact ⟨Nat.le_refl _, by simp [Nat.eq_of_beq_eq_true hb]⟩
    | false =>
      rw [hb] at h
      obtain ⟨h1, h2⟩ := pos_some (σ := r) h
      refine ⟨by omega, ?_⟩
      rw [show k - i = k - (i + 1) + 1 from by omega]
      simpa using h2
theorem sgm_get (n : Nat) (σ : List Nat) (h : List AO) : ∀ (l : List AO) (k j : Nat), (sgm n σ h k l)[j]? = (l[j]?).map fun _ => (bif isC (lh h (k + j)) then (match ln σ (k + j) with | some o => o | none => n + (k + j)) else n + (k + j))
  | [], k, j => by simp [sgm]
  | a :: l, k, 0 => by simp [sgm]
  | a :: l, k, j + 1 => by simp [sgm, sgm_get n σ h l (k + 1) j, Nat.add_assoc, Nat.add_comm 1 j]
theorem bas_get (σ σ' : List Nat) (h h' : List AO) : ∀ (l : List AO) (k o : Nat), (bas σ σ' h h' k l)[o]? = (l[o]?).map fun a => (match pos σ (k + o) 0 with
    | none => a
    | some i => bif isC (lh h i) then (lh h' i).ren σ' else .gone)
  | [], k, j => by simp [bas]
  | a :: l, k, 0 => by simp [bas]
  | a :: l, k, j + 1 => by simp [bas, bas_get σ σ' h h' l (k + 1) j, Nat.add_assoc, Nat.add_comm 1 j]
theorem fre_get (σ' : List Nat) (h : List AO) : ∀ (l : List AO) (k j : Nat), (fre σ' h k l)[j]? = (l[j]?).map fun a => (bif isC (lh h (k + j)) then AO.gone else a.ren σ')
  | [], k, j => by simp [fre]
  | a :: l, k, 0 => by simp [fre]
  | a :: l, k, j + 1 => by simp [fre, fre_get σ' h l (k + 1) j, Nat.add_assoc, Nat.add_comm 1 j]
theorem bas_len (σ σ' : List Nat) (h h' : List AO) : ∀ (l : List AO) (k : Nat), (bas σ σ' h h' k l).length = l.length
  | [], k => rfl
  | a :: l, k => by simp [bas, bas_len σ σ' h h' l (k + 1)]
theorem fre_len (σ' : List Nat) (h : List AO) : ∀ (l : List AO) (k : Nat), (fre σ' h k l).length = l.length
  | [], k => rfl
  | a :: l, k => by simp [fre, fre_len σ' h l (k + 1)]
theorem isC_lh {h : List AO} {j : Nat} (k : isC (lh h j) = true) : ∃ t cs, h[j]? = some (.cells t cs) := by
  cases hq : lh h j with
  | cells t cs => exact ⟨t, cs, lh_cells hq⟩
  | row t n xs => rw [hq] at k; cases k
  | gone => rw [hq] at k; cases k
section
variable {P : Program} {f : FuncId} {az : List D} {h : List AO} {Post : D → List AO → Prop}
theorem FnS.big (hF : FnS P f az h Post) {hb : List AO} {σ : List Nat} (V : View σ hb h) {as' : List D} (hc : Cos as' (D.ren.rl σ az)) {M : List Nat} (hM : ∀ o ∈ σ, o ∈ M) :
    FnB P f as' hb M fun r h2 => ∃ r0 h0, Post r0 h0 ∧ r = r0.ren (upS hb σ h h0) ∧ h2 = upH hb σ h h0 := by
  refine ⟨hF.1, fun w I g vs hW hd hv => ?_⟩
  have hσ := gv_get V hd.len
  have hds := hd.view V
  refine (hF.2 w I (gv σ g) vs hW hds ((hc.ok hv).down hσ)).mono ?_
  rintro e w' (⟨v, I', gs', r0, h0, rfl, hpost, hd0, hv0, hx, i1, i2, ow, ck⟩ | ⟨ch, rfl, hp, hx⟩)
  case inr =>
    refine .inr ⟨ch, rfl, hp, hx.mono (fun x _ ho => ?_)⟩
    obtain ⟨o, ao, p, m1, m2, m3, m4⟩ := Owned.view V hd.len ho
    exact ⟨o, ao, p, hM o m1, m2, m3, m4⟩
  left
  have hgl : g.length = hb.length := hd.len
  have h0l : gs'.length = h0.length := hd0.len
  -- the names
  have hup : ∀ (j : Nat) p, gs'[j]? = some p → ∃ o, (upS hb σ h h0)[j]? = some o ∧ (g ++ gs')[o]? = some p ∧ ((isC (lh h j) = true ∧ σ[j]? = some o) ∨ (isC (lh h j) = false ∧ o = hb.length + j)) := by
    intro j p hp
    have hj : j < h0.length := by rw [← h0l]; exact (List.getElem?_eq_some_iff.1 hp).1
    have e := sgm_get hb.length σ h h0 0 j
    rw [List.getElem?_eq_getElem hj, Nat.zero_add] at e
    simp only [Option.map_some] at e
    cases hq : isC (lh h j) with
    | true =>
      obtain ⟨t, cs, hcs⟩ := isC_lh hq
      have hlt : j < σ.length := by rw [V.len]; exact (List.getElem?_eq_some_iff.1 hcs).1
      have hs := List.getElem?_eq_getElem hlt
      refine ⟨σ[j], ?_, ?_, .inl ⟨rfl, hs⟩⟩
      · rw [upS, e, hq, ln_get, hs]; rfl
      · have e1 := hσ j _ hs
        have hg : g[σ[j]]? = some (g[σ[j]]'(by rw [hgl]; exact V.lt hs)) := List.getElem?_eq_getElem _
        rw [hg] at e1
        have := (ck j _ t cs e1 hcs).1
        rw [hp] at this
        injection this with this
        rw [List.getElem?_append_left (by rw [hgl]; exact V.lt hs), hg, this]
    | false =>
      refine ⟨hb.length + j, ?_, ?_, .inr ⟨rfl, rfl⟩⟩
      · rw [upS, e, hq]; rfl
      · rw [← hgl, List.getElem?_append_right (by omega)]
        simpa using hp
  have hup1 : ∀ (j : Nat) p, gs'[j]? = some p → ∃ o, (upS hb σ h h0)[j]? = some o ∧ (g ++ gs')[o]? = some p := fun j p hp => let ⟨o, a, b, _⟩ := hup j p hp; ⟨o, a, b⟩
  -- who lies there
  have who : ∀ (o : Nat) ao p, (upH hb σ h h0)[o]? = some ao → (g ++ gs')[o]? = some p → ao ≠ .gone →
      (o < hb.length ∧ o ∉ σ ∧ hb[o]? = some ao ∧ g[o]? = some p) ∨ (∃ j a0, h0[j]? = some a0 ∧ gs'[j]? = some p ∧ ao = a0.ren (upS hb σ h h0) ∧ (upS hb σ h h0)[j]? = some o ∧ ((isC (lh h j) = true ∧ σ[j]? = some o) ∨ (isC (lh h j) = false ∧ o = hb.length + j))) := by
    intro o ao p h1 h2 hne
    rw [upH, List.getElem?_append, bas_len] at h1
    split at h1
    · rename_i hlt
      rw [bas_get, Nat.zero_add] at h1
      have hg : g[o]? = some p := by rw [List.getElem?_append_left (by omega)] at h2; exact h2
      cases hbo : hb[o]? with
      | none => rw [hbo] at h1; cases h1
      | some a =>
        rw [hbo] at h1
        simp only [Option.map_some] at h1
        injection h1 with h1
        cases hp : pos σ o 0 with
        | none =>
          rw [hp] at h1
          simp only at h1
          subst h1
          exact .inl ⟨hlt, pos_none hp, rfl, hg⟩
        | some i =>
          rw [hp] at h1
          simp only at h1
          obtain ⟨_, hi⟩ := pos_some hp
          rw [Nat.sub_zero] at hi
          cases hq : isC (lh h i) with
          | false => rw [hq] at h1; exact absurd h1.symm hne
          | true =>
            rw [hq] at h1
            simp only [cond_true] at h1
            obtain ⟨t, cs, hcs⟩ := isC_lh hq
            have e1 : (gv σ g)[i]? = some p := by rw [hσ i o hi]; exact hg
            obtain ⟨e2, t', cs', e3⟩ := ck i p t cs e1 hcs
            obtain ⟨o2, k1, k2, k3⟩ := hup i p e2
            have ho : o2 = o := by
              rcases k3 with ⟨_, k⟩ | ⟨k, _⟩
              · rw [hi] at k; injection k with k; exact k.symm
              · rw [hq] at k; cases k
            subst ho
            have e4 : lh h0 i = .cells t' cs' := by
              rcases lh_get h0 i with e | e
              · have hlt0 := (List.getElem?_eq_some_iff.1 e3).1
                have : ∀ (l : List AO) (n : Nat) a, l[n]? = some a → lh l n = a := by
                  intro l
                  induction l with
                  | nil => intro n a h; simp at h
                  | cons b l ih =>
                    intro n a h
                    cases n with
                    | zero => simp at h; simp [lh, h]
                    | succ n => simp at h; simp [lh, ih n a h]
                exact this h0 i _ e3
              · rw [e3] at e; injection e with e; exact e.symm
            exact .inr ⟨i, _, e3, e2, by rw [← h1, e4], k1, k3⟩
    · rename_i hge
      rw [fre_get, Nat.zero_add] at h1
      have hge' : hb.length ≤ o := by omega
      cases hh : h0[o - hb.length]? with
      | none => rw [hh] at h1; cases h1
      | some a0 =>
        rw [hh] at h1
        simp only [Option.map_some] at h1
        injection h1 with h1
        cases hq : isC (lh h (o - hb.length)) with
        | true => rw [hq] at h1; exact absurd h1.symm hne
        | false =>
          rw [hq] at h1
          simp only [cond_false] at h1
          have hg : gs'[o - hb.length]? = some p := by
            rw [List.getElem?_append_right (by omega), hgl] at h2; exact h2
          obtain ⟨o2, k1, k2, k3⟩ := hup _ p hg
          have ho : o2 = o := by
            rcases k3 with ⟨k, _⟩ | ⟨_, k⟩
            · rw [hq] at k; cases k
            · omega
          subst ho
          exact .inr ⟨_, a0, hh, hg, h1.symm, k1, k3⟩
  have hng : ∀ {p : Option Nat × Value} {ao : AO} {b : Nat}, ao.owns p b → ao ≠ .gone := by
    intro p ao b hb e
    subst e
    exact hb
  -- what nobody touched
  have hold : ∀ (o : Nat) ao p b, o ∉ σ → hb[o]? = some ao → g[o]? = some p → ao.owns p b → ¬ Owned (gv σ g) h b ∧ b < w.heap.size := by
    intro o ao p b hn h1 h2 h3
    refine ⟨fun hO => ?_, hd.lt ⟨o, ao, p, h1, h2, h3⟩⟩
    obtain ⟨o2, ao2, p2, hm, q1, q2, q3⟩ := Owned.view V hd.len hO
    have := hd.sep o o2 ao ao2 p p2 b h1 q1 h2 q2 h3 q3
    subst this
    exact hn hm
  have hIn : ∀ b, I b → ¬ Owned (gv σ g) h b := by
    rintro b hb' ⟨o, ao, p, q1, q2, q3⟩
    exact hds.own o ao p b q1 q2 q3 hb'
  have hOM : ∀ b, Owned (gv σ g) h b → OwnedIn M g hb b := by
    intro b hO
    obtain ⟨o2, ao2, p2, hm, q1, q2, q3⟩ := Owned.view V hd.len hO
    exact ⟨o2, ao2, p2, hM o2 hm, q1, q2, q3⟩
  refine ⟨v, I', g ++ gs', r0.ren (upS hb σ h h0), upH hb σ h h0, rfl, ⟨r0, h0, hpost, rfl, rfl⟩, ⟨⟨?_, hd0.inn, fun o ao p h1 h2 => ?_, fun o ao p b h1 h2 h3 hI => ?_, fun o o' ao ao' p p' b h1 h1' h2 h2' h3 h3' => ?_⟩, hx.mono (fun b _ hO => hOM b hO), i1, fun b hb' => (i2 b hb').imp id (Or.imp (hOM b) id), fun o p hp => by rw [List.getElem?_append_left (List.getElem?_eq_some_iff.1 hp).1]; exact hp, fun o ho hn => ?_, fun o ao p b ho h1 h2 h3 => ?_, fun o ao p b ho h1 h2 h3 => ?_⟩, hv0.up hup1⟩
  · rw [upH, List.length_append, List.length_append, bas_len, fre_len, hgl, h0l]
  · by_cases hne : ao = .gone
    · subst hne; trivial
    · rcases who o ao p h1 h2 hne with ⟨_, hn, q1, q2⟩ | ⟨j, a0, q1, q2, rfl, _, _⟩
      · exact ((hd.obj o ao p q1 q2).ext hx hIn (fun b hb' => (hold o ao p b hn q1 q2 hb').1)).mono i1 (fun o p hp => by rw [List.getElem?_append_left (List.getElem?_eq_some_iff.1 hp).1]; exact hp)
      · exact (hd0.obj j a0 p q1 q2).up hup1
  · rcases who o ao p h1 h2 (hng h3) with ⟨_, hn, q1, q2⟩ | ⟨j, a0, q1, q2, rfl, _, _⟩
    · obtain ⟨k1, k2⟩ := hold o ao p b hn q1 q2 h3
      rcases i2 b hI with e | e | e
      · exact hd.own o ao p b q1 q2 h3 e
      · exact k1 e
      · omega
    · exact hd0.own j a0 p b q1 q2 ((AO.owns_ren _ p a0 b).1 h3) hI
  · rcases who o ao p h1 h2 (hng h3) with ⟨_, hn, q1, q2⟩ | ⟨j, a0, q1, q2, rfl, q3, _⟩ <;> rcases who o' ao' p' h1' h2' (hng h3') with ⟨_, hn', q1', q2'⟩ | ⟨j', a0', q1', q2', rfl, q3', _⟩
    · exact hd.sep o o' ao ao' p p' b q1 q1' q2 q2' h3 h3'
    · obtain ⟨k1, k2⟩ := hold o ao p b hn q1 q2 h3
      rcases ow b ⟨j', a0', p', q1', q2', (AO.owns_ren _ p' a0' b).1 h3'⟩ with e | e
      · exact absurd e k1
      · omega
    · obtain ⟨k1, k2⟩ := hold o' ao' p' b hn' q1' q2' h3'
      rcases ow b ⟨j, a0, p, q1, q2, (AO.owns_ren _ p a0 b).1 h3⟩ with e | e
      · exact absurd e k1
      · omega
    · have := hd0.sep j j' a0 a0' p p' b q1 q1' q2 q2' ((AO.owns_ren _ p a0 b).1 h3) ((AO.owns_ren _ p' a0' b).1 h3')
      subst this
      rw [q3] at q3'
      injection q3'
  · have hns : o ∉ σ := fun hm => hn (hM o hm)
    rw [upH, List.getElem?_append_left (by rw [bas_len]; exact ho), bas_get, Nat.zero_add]
    cases hp : pos σ o 0 with
    | none => simp
    | some i =>
      obtain ⟨_, hi⟩ := pos_some hp
      rw [Nat.sub_zero] at hi
      exact absurd (List.mem_of_getElem? hi) hns
  · rcases who o ao p h1 h2 (hng h3) with ⟨_, hn, q1, q2⟩ | ⟨j, a0, q1, q2, rfl, q3, q4⟩
    · exact ⟨ao, q1, h3⟩
    · rcases q4 with ⟨k1, k2⟩ | ⟨_, k⟩
      · obtain ⟨t, cs, hcs⟩ := isC_lh k1
        have e1 := V.obj j o _ k2 hcs
        have hg : (gv σ g)[j]? = g[o]? := hσ j o k2
        have hgs : g[o]? = some (g[o]'(by rw [hgl]; exact ho)) := List.getElem?_eq_getElem _
        rw [hgs] at hg
        obtain ⟨e2, t', cs', e3⟩ := ck j _ t cs hg hcs
        rw [q2] at e2
        injection e2 with e2
        rw [q1] at e3
        injection e3 with e3
        subst e3
        refine ⟨_, e1, ?_⟩
        have h4 : p.1 = some b := h3
        exact h4
      · omega
  · rcases who o ao p h1 h2 (hng h3) with ⟨hlt, _, _, _⟩ | ⟨j, a0, q1, q2, rfl, q3, q4⟩
    · omega
    · exact (ow b ⟨j, a0, p, q1, q2, (AO.owns_ren _ p a0 b).1 h3⟩).imp (hOM b) id
/-- a function that takes no objects, beside any -/
theorem FnS.pure {R : D → Prop} (hF : FnS P f az [] (fun r h' => R r ∧ h' = [])) (hp : pureD.pl az = true) {as' : List D} (hc : Cos as' az) {hb : List AO} {M : List Nat} : FnB P f as' hb M fun r h2 => R r ∧ h2 = hb := by
  refine ⟨hF.1, fun w I g vs hW hd hv => ?_⟩
  have hd0 : Den I [] w [] := ⟨rfl, hd.inn, fun o ao p h1 => by simp at h1, fun o ao p b h1 => by simp at h1, fun o o' ao ao' p p' b h1 => by simp at h1⟩
  refine (hF.2 w I [] vs hW hd0 (pureL_ok (hc.ok hv) hp).vrs).mono ?_
  have hno : ∀ b, ¬ Owned [] [] b := by rintro b ⟨o, ao, p, q1, _⟩; simp at q1
  rintro e w' (⟨v, I', gs', r0, h0, rfl, ⟨hR, rfl⟩, hd1, hv0, hx, i1, i2, ow, ck⟩ | ⟨ch, rfl, hp, hx⟩)
  case inr => exact .inr ⟨ch, rfl, hp, hx.mono (fun x _ ho => absurd ho (hno x))⟩
  left
  have hg : gs' = [] := List.eq_nil_of_length_eq_zero hd1.len
  subst hg
  have hx' : Ext (fun _ => False) w w' := hx.mono (fun b _ hb => hno b hb)
  refine ⟨v, I', g, r0, hb, rfl, ⟨hR, rfl⟩, ⟨((hd.ext hx' (fun _ _ => id) (fun _ _ => id))).inns i1 hd1.inn (fun b hI hO => ?_), hx'.mono (fun _ _ h => h.elim), i1, fun b hI => (i2 b hI).imp id (Or.imp (fun h => absurd h (hno b)) id), fun _ _ h => h, fun _ _ _ => rfl, fun o ao p b ho h1 _ h3 => ⟨ao, h1, h3⟩, fun o ao p b ho h1 _ _ => by have := (List.getElem?_eq_some_iff.1 h1).1; omega⟩, hv0.mono (fun _ h => h) (fun o p h => by simp at h)⟩
  have hlt := hd.lt hO
  rcases i2 b hI with e | e | e
  · obtain ⟨o, ao, p, q1, q2, q3⟩ := hO
    exact hd.own o ao p b q1 q2 q3 e
  · exact hno b e
  · omega
end
end Go.Proofs.YtafomdobfmmleaaGreatDoor
