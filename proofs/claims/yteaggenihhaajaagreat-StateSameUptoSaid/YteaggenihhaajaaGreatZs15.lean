/- Lemmas and contracts, part 15. -/
import Derived.Test.YteaggenihhaajaaGreatZs14
/- Lists of one's own whose numbers are turned: a walk that keeps the data as they stood at its start. No program here. -/
namespace Go.Proofs.YteaggenihhaajaaGreat
open Go.RowKit
set_option linter.unusedSectionVars false
variable [Wd]
set_option linter.unusedVariables false

/-- a place in a list of one's own -/
def hotR (cs : List D) : D := .tup [.any, .ref cs]
/-- in the lists of one's own numbers have turned at most -/
structure Hot (I : Nat → Prop) (w1 w : World) : Prop where
  ext : Ext (fun b => I b ∧ ¬ Old.A b) w1 w
  fz : ∀ b, I b → ¬ Old.A b → ∀ (j : Nat), w.frozen? ⟨b, j, none⟩ = w1.frozen? ⟨b, j, none⟩
  cl : ∀ b, I b → ¬ Old.A b → ∀ (j : Nat) v, w1.cell? ⟨b, j, none⟩ = some v → ∃ v', w.cell? ⟨b, j, none⟩ = some v' ∧ (v' = v ∨ ∃ k n m, v = .int k n ∧ v' = .int k m)
theorem Hot.refl (I : Nat → Prop) (w : World) : Hot I w w := ⟨Ext.refl _ _, fun _ _ _ _ => rfl, fun _ _ _ _ v h => ⟨v, h, .inl rfl⟩⟩
/-- where a place in a list of one's own points -/
def HotP (I : Nat → Prop) (w1 : World) (v : Value) (cs : List D) : Prop := ∃ (b off : Nat) (U : Nat → Value), v = .pointer (some ⟨b, off, none⟩) ∧ I b ∧ ¬ Old.A b ∧ ∀ (j : Nat) d, cs[j]? = some d → w1.cell? ⟨b, off + j, none⟩ = some (U j) ∧ w1.frozen? ⟨b, off + j, none⟩ = false ∧ Dr I w1 (U j) d
def isHot : D → Option (List D)
  | .tup [.any, .ref cs] => some cs
  | _ => none
theorem isHot_eq {d : D} {cs : List D} (h : isHot d = some cs) : d = hotR cs := by
  unfold isHot at h
  split at h
  · injection h with h; subst h; rfl
  · cases h
/-- a value is a datum's, or points into a list of one's own -/
def Hr (I : Nat → Prop) (g : Ghost) (w1 : World) (v : Value) (d : D) : Prop :=
  match isHot d with
  | some cs => HotP I w1 v cs
  | none => Vr I g w1 v d
section
variable {P : Program} {Q : Exit → S → Prop} {C : Cx} {I : Nat → Prop} {g : Ghost} {w1 w : World}
theorem Hr.vr {v : Value} {d : D} (h : Hr I g w1 v d) (hn : isHot d = none) : Vr I g w1 v d := by unfold Hr at h; rw [hn] at h; exact h
theorem Hr.of {v : Value} {d : D} (h : Vr I g w1 v d) (hn : isHot d = none) : Hr I g w1 v d := by unfold Hr; rw [hn]; exact h
theorem Hr.hot {v : Value} {cs : List D} (h : Hr I g w1 v (hotR cs)) : HotP I w1 v cs := h
theorem Hr.mk {v : Value} {cs : List D} (h : HotP I w1 v cs) : Hr I g w1 v (hotR cs) := h
theorem Hr.any (v : Value) : Hr I g w1 v .any := .of (.any v) rfl
theorem Hr.int' (k : IntKind) (n : Int) : Hr I g w1 (.int k n) (.int k n) := .of (.int' k n) rfl
theorem Hot.turn {b off : Nat} {k : IntKind} {n m : Int} (h : Hot I w1 w) (hI : I b) (hA : ¬ Old.A b) (hc : w1.cell? ⟨b, off, none⟩ = some (.int k n)) : Hot I w1 (w.setCell ⟨b, off, none⟩ (.int k m)) := by
  have hcell : ∀ (j : Nat) (x : Nat), (w.setCell ⟨b, off, none⟩ (.int k m)).cell? ⟨x, j, none⟩ = if x = b ∧ j = off then (w.cell? ⟨x, j, none⟩).map (fun _ => .int k m) else w.cell? ⟨x, j, none⟩ := by
    intro j x
    simp only [World.setCell, World.cell?, Array.getElem?_modify]
    by_cases hx : b = x
    · subst hx
      simp only [if_true]
      cases hh : w.heap[b]? with
      | none => simp
      | some o =>
        cases o <;> simp
        rename_i c e fz
        by_cases hj : j = off
        · subst hj
          simp only [if_true]
          rw [Array.getElem?_setIfInBounds]
          simp only [if_true]
          split
          · rename_i hlt; simp [hlt]
          · rename_i hlt; simp [hlt]
        · rw [if_neg hj, Array.getElem?_setIfInBounds_ne (fun e => hj e.symm)]
    · rw [if_neg hx, if_neg (fun e => hx e.1.symm)]
  have hfro : ∀ (j x : Nat), (w.setCell ⟨b, off, none⟩ (.int k m)).frozen? ⟨x, j, none⟩ = w.frozen? ⟨x, j, none⟩ := by
    intro j x
    simp only [World.setCell, World.frozen?, Array.getElem?_modify]
    by_cases hx : b = x
    · subst hx
      simp only [if_true]
      cases hh : w.heap[b]? with
      | none => simp
      | some o => cases o <;> simp
    · rw [if_neg hx]
  refine ⟨h.ext.trans (own' := fun x => x = b) ⟨rfl, rfl, rfl, by simp [World.setCell], fun x _ hx => ?_⟩ (fun x _ e => by subst e; exact ⟨hI, hA⟩), fun x hx hA' j => by rw [hfro]; exact h.fz x hx hA' j, fun x hx hA' j v hv => ?_⟩
  · simp only [World.setCell, Array.getElem?_modify]
    rw [if_neg (fun e => hx e.symm)]
  · obtain ⟨v', e1, e2⟩ := h.cl x hx hA' j v hv
    rw [hcell]
    by_cases hc2 : x = b ∧ j = off
    · obtain ⟨rfl, rfl⟩ := hc2
      rw [if_pos ⟨rfl, rfl⟩, e1]
      rw [hc] at hv
      injection hv with hv
      subst hv
      exact ⟨_, rfl, .inr ⟨k, n, m, rfl, rfl⟩⟩
    · rw [if_neg hc2]
      exact ⟨v', e1, e2⟩
/-! the walk -/
def hx1 (E : En) (op : Op) (s : S) (k : D → T) : T :=
  match op with
  | .move x => k (ev s x)
  | .assign x => k (ev s x)
  | .binOp op _ x y _ => match ev s x, ev s y with
    | .int i a, .int j b => bif Nat.beq (kno i) (kno j) then intD op i a b k else .fail 90
    | _, _ => .fail 90
  | .call ⟨.builtin .len, args, ts⟩ => match args.toList, ts.toList with
    | [x], [t] => match E.tb.look t with
      | some ⟨_, _, _, .slice _⟩ => match lenD s.h (ev s x) with
        | some n => k (.int .i64 (n : Int))
        | none => .fail 91
      | _ => .fail 91
    | _, _ => .fail 91
  | .fieldAddr t x f => match fieldD E.tb t f, ev s x with
    | some (o, _), .ptr p off => k (.ptr p (off + o))
    | some (o, _), .tup [.any, .ref cs] => k (hotR (dropD o cs))
    | _, _ => .fail 92
  | .indexAddr t x i => match E.tb.look t with
    | some ⟨_, _, _, .slice e⟩ => match ev s x, idx (ev s i), E.tb.look e with
      | .own n xs, some j, some y => bif Nat.beq n y.size then .nth xs j fun c => k (hotR c) else .fail 93
      | _, _, _ => .fail 93
    | _ => .fail 93
  | .load t a => match ev s a with
    | .ptr o off => match lh s.h o with
      | .cells _ cs => match partD E.tb t cs off with
        | some d => match isHot d with
          | none => k d
          | some _ => .fail 94
        | none => .fail 94
      | _ => .fail 94
    | .tup [.any, .ref (c :: _)] => match E.tb.look t with
      | some ⟨_, _, _, .int i⟩ => match c with
        | .int j _ => bif Nat.beq (kno i) (kno j) then .all i fun m => k (.int i m) else .fail 95
        | _ => .fail 95
      | some ⟨_, _, _, .slice _⟩ => match c with
        | .own n xs => k (.own n xs)
        | _ => .fail 95
      | _ => .fail 95
    | _ => .fail 95
  | .store t a x => match ev s a, ev s x, E.tb.look t with
    | .tup [.any, .ref (.int i _ :: _)], .int j _, some ⟨sz, _, _, .int _⟩ => bif Nat.beq (kno i) (kno j) && Nat.beq sz 1 then k (.tup []) else .fail 96
    | _, _, _ => .fail 96
  | _ => .fail 99
noncomputable def hxR (E : En) (l : List Oper) : S → (S → T) → T :=
  List.rec (motive := fun _ => S → (S → T) → T) (fun s k => k s) (fun o _ ih s k => match o.guard with
    | none => hx1 E o.op s fun d => put E o.dst d s fun s' => ih s' k
    | some _ => .fail 98) l
noncomputable def hxC (E : En) (c : Code) : S → (Exit → S → T) → T :=
  Code.rec (motive := fun _ => S → (Exit → S → T) → T)
    (fun s K => K .normal s)
    (fun id ops dr s K => match dr with
      | false => hxR E ops.toList s (K .normal)
      | true => .fail 71)
    (fun _ _ a b s K => a s fun e s' => match e with
      | .normal => b s' K
      | e => K e s')
    (fun c _ _ a b s K => match ev s c with
      | .bool v => .br v (a s K) (b s K)
      | _ => .fail 70)
    (fun id _ c s K => c s fun e s' => match e with
      | .exit id' => bif Nat.beq id' id then K .normal s' else K (.exit id') s'
      | e => K e s')
    (fun _ c s K => .loop 0 s (fun s' => c s' .leaf) K)
    (fun _ _ _ _ _ _ _ _ => .fail 71)
    (fun id s K => K (.exit id) s)
    (fun _ _ _ _ => .fail 71)
    (fun _ _ _ => .fail 71)
    (fun _ _ _ => .fail 71)
    (fun s K => K .ret s)
    (fun _ _ _ => .fail 71) c
/-- the state of the walk -/
structure HInv (C : Cx) (I : Nat → Prop) (w1 : World) (g : Ghost) (s : S) (a : Act) (w : World) : Prop where
  den : Den I g w1 s.h
  tmp : ∀ j, Hr I g w1 (a.tmps.getD j undef) (lk s.t j)
  sz : a.tmps.size = C.n
  dfr : a.defers = []
  kp : ∀ j, j < C.lo → a.tmps.getD j undef = C.t0.getD j undef
  hot : Hot I w1 w
theorem HInv.ev {s : S} {a : Act} (h : HInv C I w1 g s a w) (x : Operand) : Hr I g w1 (a.eval x) (ev s x) := by
  cases x with
  | tmp t => exact h.tmp t
  | const v =>
    refine .of (cst_ok v) ?_
    show isHot (cst v) = none
    unfold cst
    split <;> rfl
  | global gl => exact .any _
  | func f => exact .of (ev_ok (s := ⟨[], []⟩) (a := { a with tmps := #[] }) (fun j => .any _) (.func f)) rfl
theorem HInv.put {E : En} (hE : E.n = C.n ∧ E.lo = C.lo) {s : S} {a : Act} (h : HInv C I w1 g s a w) {v : Value} {d : D} (hv : Hr I g w1 v d) {w' : World} (hw : Hot I w1 w') {dst : Option Tmp} {k : S → T} (hk : (put E dst d s k).ok P Q) : ∃ s', HInv C I w1 g s' (a.put dst v) w' ∧ (k s').ok P Q := by
  cases dst with
  | none => exact ⟨s, ⟨h.den, h.tmp, h.sz, h.dfr, h.kp, hw⟩, hk⟩
  | some j =>
    simp only [Go.Proofs.YteaggenihhaajaaGreat.put] at hk
    cases hj' : Nat.blt j E.n && Nat.ble E.lo j with
    | false => rw [hj'] at hk; exact hk.elim
    | true =>
      rw [hj'] at hk
      rw [Bool.and_eq_true] at hj'
      obtain ⟨hj, hlo⟩ := hj'
      simp only [cond_true, force_eq] at hk
      replace hk : (k { s with t := (j, d) :: s.t }).ok P Q := by cases s; exact hk
      have hlt : j < a.tmps.size := by rw [h.sz, ← hE.1]; exact Nat.le_of_ble_eq_true hj
      refine ⟨{ s with t := (j, d) :: s.t }, ⟨h.den, fun i => ?_, by rw [put_tmps]; exact h.sz, by rw [put_defers]; exact h.dfr, fun i hi => ?_, hw⟩, hk⟩
      · simp only [lk, Act.put]
        by_cases hij : i = j
        · subst hij
          have : Nat.beq i i = true := Nat.beq_refl i
          rw [this]
          simp [hlt]
          exact hv
        · have : Nat.beq i j = false := by
            cases hb : Nat.beq i j with
            | false => rfl
            | true => exact absurd (Nat.eq_of_beq_eq_true hb) hij
          rw [this]
          simp only [cond_false]
          rw [Array.getD_eq_getD_getElem?, Array.getElem?_setIfInBounds_ne (fun e => hij e.symm), ← Array.getD_eq_getD_getElem?]
          exact h.tmp i
      · rw [← h.kp i hi]
        have hne : j ≠ i := by
          have := Nat.le_of_ble_eq_true hlo
          rw [hE.2] at this
          intro e
          subst e
          exact absurd hi (Nat.not_lt.2 this)
        simp only [Act.put]
        rw [Array.getD_eq_getD_getElem?, Array.getD_eq_getD_getElem?, Array.getElem?_setIfInBounds_ne hne]

theorem same_hot {v : Value} {d : D} (h : Same v d) (w : World) : isHot d = none := by
  cases hq : isHot d with
  | none => rfl
  | some cs =>
    have e := isHot_eq hq
    subst e
    have h0 := h (fun _ => False) [] w
    obtain ⟨vs, rfl, k1⟩ := h0.tup_inv
    obtain ⟨v1, vs1, rfl, _, k2⟩ := k1.uncons
    obtain ⟨v2, vs2, rfl, k3, _⟩ := k2.uncons
    have h3 := k3.ref_inv
    cases h3 with
    | ref b off _ U hI _ _ _ _ => exact hI.elim
theorem dr_int {I : Nat → Prop} {w : World} {v : Value} {k : IntKind} {n : Int} (h : Dr I w v (.int k n)) : v = .int k n := by cases h; rfl
set_option maxHeartbeats 1000000 in
theorem hx1_ok {E : En} (htb : E.tb.ok P) {s : S} {a : Act} (h : HInv C I w1 g s a w) {o : Oper} {k : D → T} (hk : (hx1 E o.op s k).ok P Q) :
    ∃ v d w', ((execOp a.eval o).run P w = .ok (.value v) w' ∨ ((execOp a.eval o).run P w = .ok .skip w' ∧ v = undef)) ∧ Hot I w1 w' ∧ Hr I g w1 v d ∧ (k d).ok P Q := by
  obtain ⟨dst, op, ty, pos, after, guard⟩ := o
  simp only at hk
  unfold hx1 at hk
  split at hk
  · exact ⟨_, _, w, .inl rfl, h.hot, h.ev _, hk⟩
  · exact ⟨_, _, w, .inl rfl, h.hot, h.ev _, hk⟩
  · rename_i bop xt x y yt
    split at hk
    · rename_i i p j q hx hy
      cases hb : Nat.beq (kno i) (kno j) with
      | false => rw [hb] at hk; exact hk.elim
      | true =>
        rw [hb] at hk
        cases kno_inj hb
        have hvx := h.ev x; rw [hx] at hvx
        have hvy := h.ev y; rw [hy] at hvy
        have e1 := (hvx.vr rfl).int_inv
        have e2 := (hvy.vr rfl).int_inv
        obtain ⟨v, d, r1, r2, r3⟩ := intD_ok (P := P) (Q := Q) xt hk
        refine ⟨v, d, w, .inl ?_, h.hot, .of (r2 I g w1) (same_hot r2 w1), r3⟩
        have : (execOp a.eval ⟨dst, .binOp bop xt x y yt, ty, pos, after, guard⟩) = (do pure (.value (← (do eqGuard bop xt x y (a.eval x) (a.eval y); binOp bop xt (a.eval x) (a.eval y))))) := rfl
        rw [this]
        refine run_v (fun w' => ?_) w
        rw [Sem.run_bind, e1, e2, eqGuard_ok (by simp) (by simp)]
        exact r1 w'
    · exact hk.elim
  · rename_i args ts
    split at hk
    · rename_i x t hargs hts
      have ha : args = #[x] := Array.toList_inj.1 hargs
      have ht : ts = #[t] := Array.toList_inj.1 hts
      subst ha ht
      split at hk
      · rename_i sz by_ z e0 hl
        have hk0 := kind_slice htb hl
        split at hk
        · rename_i n hn
          have hnh : isHot (ev s x) = none := by
            cases hq : isHot (ev s x) with
            | none => rfl
            | some cs => rw [isHot_eq hq] at hn; simp [lenD, hotR] at hn
          obtain ⟨A, c, e⟩ := lenD_ok h.den ((h.ev x).vr hnh) hn
          refine ⟨.int .i64 (n : Int), _, w, .inl ?_, h.hot, .int' _ _, hk⟩
          simp [execOp, resolve, invoke, builtin, Builtin.len_, run_underlying hk0, e, goInt]
        · exact hk.elim
      · exact hk.elim
    · exact hk.elim
  · rename_i t x f
    split at hk
    · rename_i o u p off hf hx
      have hv := h.ev x; rw [hx] at hv
      obtain ⟨b, bo, hg, e⟩ := (hv.vr rfl).ptr_inv
      refine ⟨.pointer (some ⟨b, off + o, none⟩), _, w, .inl ?_, h.hot, .of (.ptr p (off + o) b bo hg) rfl, hk⟩
      refine run_v (m := Instr.fieldAt t (a.eval x) f) (fun w' => ?_) w
      rw [e]
      exact fieldAt_run htb hf b off w'
    · rename_i o u cs hf hx
      have hv := h.ev x; rw [hx] at hv
      obtain ⟨b, off, U, e, hI, hA, hc⟩ := Hr.hot hv
      refine ⟨.pointer (some ⟨b, off + o, none⟩), _, w, .inl ?_, h.hot, .mk ⟨b, off + o, fun j => U (o + j), rfl, hI, hA, fun j d hj => ?_⟩, hk⟩
      · refine run_v (m := Instr.fieldAt t (a.eval x) f) (fun w' => ?_) w
        rw [e]
        exact fieldAt_run htb hf b off w'
      · rw [dropD_eq, List.getElem?_drop] at hj
        rw [Nat.add_assoc]
        exact hc _ d hj
    · exact hk.elim
  · rename_i t x i
    split at hk
    · rename_i sz by_ z e hl
      split at hk
      · rename_i n xs j y hx hi hy
        have hv := h.ev x; rw [hx] at hv
        have h0 := (hv.vr rfl).own_inv
        have hvi := h.ev i
        have hni : isHot (ev s i) = none := by
          cases hq : isHot (ev s i) with
          | none => rfl
          | some cs => rw [isHot_eq hq] at hi; simp [idx, hotR] at hi
        obtain ⟨kd, hi'⟩ := idx_ok (hvi.vr hni) hi
        cases hn : Nat.beq n y.size with
        | false => rw [hn] at hk; exact hk.elim
        | true =>
          rw [hn] at hk
          obtain ⟨c, hj0, hc, hk⟩ := hk
          have hk0 := kind_slice htb hl
          obtain ⟨inf, zv, hinf, hsz, _⟩ := (htb e y hy).info
          have hne : inf.size = n := by rw [hsz]; exact (Nat.eq_of_beq_eq_true hn).symm
          have hlt : j.toNat < xs.length := (List.getElem?_eq_some_iff.1 hc).1
          generalize hev0 : a.eval x = vx at h0
          cases h0 with
          | own A cap n len xs U hl0 hl' hm hnone hlen hA g1 hU =>
            obtain ⟨b, off, rfl, hb, hI, hN, hF, hcell⟩ := hA (by omega)
            have hcn : c.length = n := hlen c (List.mem_of_getElem? hc)
            have hjn : j.toNat * n + n ≤ len * n := by
              have := Nat.mul_le_mul_right n (show j.toNat + 1 ≤ len by omega)
              rwa [Nat.add_mul, Nat.one_mul] at this
            refine ⟨.pointer (some ⟨b, off + j.toNat * n, none⟩), _, w, .inl ?_, h.hot, .mk ⟨b, off + j.toNat * n, fun q => U j.toNat q, rfl, hI, hN, fun q d hq => ⟨hcell _ _ _ _ hc hq, ?_, hU _ _ _ _ hc hq⟩⟩, hk⟩
            · refine run_v (m := Instr.indexAt t (a.eval x) (a.eval i)) (fun w' => ?_) w
              rw [hev0, hi']
              have hrange : 0 ≤ j ∧ j < (len : Int) := by omega
              simp only [Instr.indexAt, asIntOf, Sem.run_bind, Sem.run_pure, Result.andThen_ok, run_underlying hk0, Sem.run_ite]
              rw [if_pos hrange]
              simp only [sizeOf_run hinf, Result.andThen_ok, hne, Addr.add_mid]
            · have hql : q < c.length := (List.getElem?_eq_some_iff.1 hq).1
              rw [Nat.add_assoc]
              exact hF _ (by omega)
      · exact hk.elim
    · exact hk.elim
  · rename_i t x
    split at hk
    · rename_i o off hx
      have hv := h.ev x; rw [hx] at hv
      obtain ⟨b, bo, hg, e⟩ := (hv.vr rfl).ptr_inv
      split at hk
      · rename_i ct cs hl
        have hlc := lh_cells hl
        obtain ⟨b', vs, hp, hb, k1, k2⟩ := h.den.obj o _ _ hlc hg
        injection hp with hp1 hp2
        injection hp2 with hp2
        injection hp2 with hp2
        injection hp2 with hp2 _ _
        subst hp2
        split at hk
        · rename_i d hpd
          split at hk
          · rename_i hnh
            obtain ⟨v, r1, r2⟩ := load_part htb hpd k1 k2 b 0
            have hn : Blk w b ct vs.toArray := (h.hot.ext.block b hb.lt (fun hi => h.den.own o _ _ b hlc hg (show bo = some b from hp1) hi.1)).trans hb
            have := r2 w (fun j u hj => by
              rw [Nat.zero_add, hn.cell]
              simpa using hj)
            rw [Nat.zero_add] at this
            refine ⟨v, d, w, .inl ?_, h.hot, .of r1 hnh, hk⟩
            simp only [execOp, e, Sem.run_bind, this]
            rfl
          · exact hk.elim
        · exact hk.elim
      · exact hk.elim
    · rename_i c cs hx
      have hv := h.ev x; rw [hx] at hv
      obtain ⟨b, off, U, e, hI, hA, hc⟩ := Hr.hot hv
      obtain ⟨c1, c2, c3⟩ := hc 0 c rfl
      rw [Nat.add_zero] at c1 c2
      obtain ⟨v', d1, d2⟩ := h.hot.cl b hI hA off _ c1
      have run : ∀ {kd : TK} {td : TypeDesc}, P.underlying t = some td → td.isRow = false → (execOp a.eval ⟨dst, .load t x, ty, pos, after, guard⟩).run P w = .ok (.value v') w := by
        intro kd td hu hr
        have : (Instr.loadAt t (.pointer (some ⟨b, off, none⟩))).run P w = .ok v' w := by
          simp only [Instr.loadAt, Instr.sureAddr, Sem.run_bind, Sem.run_pure, Result.andThen_ok, loadVar, isAgg_run hu, hr]
          simp [d1]
        simp only [execOp, e, Sem.run_bind, this]
        rfl
      split at hk
      · rename_i sz by_ z i hl
        have hku := kind_int htb hl
        split at hk
        · rename_i j n
          cases hb : Nat.beq (kno i) (kno j) with
          | false => rw [hb] at hk; exact hk.elim
          | true =>
            rw [hb] at hk
            cases kno_inj hb
            have hU := dr_int c3
            have : ∃ m, v' = .int i m := by
              rcases d2 with rfl | ⟨k', n', m, e1, e2⟩
              · exact ⟨n, hU⟩
              · rw [hU] at e1
                injection e1 with e1 _
                subst e1
                exact ⟨m, e2⟩
            obtain ⟨m, hm⟩ := this
            refine ⟨v', .int i m, w, .inl (run (kd := .str) hku rfl), h.hot, by rw [hm]; exact .int' _ _, hk m⟩
        · exact hk.elim
      · rename_i sz by_ z e0 hl
        have hku := kind_slice htb hl
        split at hk
        · rename_i n xs
          have hv' : v' = U 0 := by
            rcases d2 with e2 | ⟨k', n', m, e1, e2⟩
            · exact e2
            · rw [e1] at c3; cases c3
          refine ⟨v', .own n xs, w, .inl (run (kd := .str) hku rfl), h.hot, by rw [hv']; exact .of (.rd c3) rfl, hk⟩
        · exact hk.elim
      · exact hk.elim
    · exact hk.elim
  · rename_i t x y
    split at hk
    · rename_i i n0 cs j m sz by_ z kd hx hy hl
      cases hb : Nat.beq (kno i) (kno j) && Nat.beq sz 1 with
      | false => rw [hb] at hk; exact hk.elim
      | true =>
        rw [hb] at hk
        rw [Bool.and_eq_true] at hb
        cases kno_inj hb.1
        have hsz1 : sz = 1 := Nat.eq_of_beq_eq_true hb.2
        have hv := h.ev x; rw [hx] at hv
        have hvy := h.ev y; rw [hy] at hvy
        have ey := (hvy.vr rfl).int_inv
        obtain ⟨b, off, U, e, hI, hA, hc⟩ := Hr.hot hv
        obtain ⟨c1, c2, c3⟩ := hc 0 _ rfl
        rw [Nat.add_zero] at c1 c2
        have hU := dr_int c3
        rw [hU] at c1
        obtain ⟨v', d1, d2⟩ := h.hot.cl b hI hA off _ c1
        obtain ⟨inf, zv, hinf, hsz, _⟩ := (htb t _ hl).info
        have hrun : (storeVar t ⟨b, off, none⟩ (.int i m)).run P w = .ok () (w.setCells b off [.int i m]) := by
          have := run_storeCells_cells (P := P) b off [.int i m] 0 w (fun q hq => by
            have : q = 0 := by simpa using hq
            subst this
            simp only [Nat.add_zero, d1, Option.isSome_some]) (fun q hq => by
            have : q = 0 := by simpa using hq
            subst this
            simp only [Nat.add_zero]
            rw [h.hot.fz b hI hA]; exact c2) (by intro v hv; simp at hv; subst hv; rfl)
          rw [Nat.add_zero] at this
          unfold storeVar
          have hc : ¬ ((Value.int i m).cells.size ≠ inf.size) := by
            rw [hsz]
            show ¬ (1 ≠ sz)
            omega
          simp only [Sem.run_bind, sizeOf_run hinf, Result.andThen_ok, if_neg hc]
          exact this
        refine ⟨undef, .tup [], w.setCells b off [.int i m], .inr ⟨?_, rfl⟩, ?_, .of .undef rfl, hk⟩
        · simp only [execOp, Instr.storeAt, e, ey, Instr.sureAddr, Sem.run_bind, Sem.run_pure, Result.andThen_ok, hrun]
        · exact h.hot.turn hI hA c1
    · exact hk.elim
  · exact hk.elim
theorem ren_any {σ : List Nat} {d : D} (h : d.ren σ = .any) : d = .any := by
  cases d <;> simp only [D.ren] at h <;> first
    | rfl
    | (cases h; done)
    | (split at h <;> cases h)
theorem ren_ref {σ : List Nat} {d : D} {cs : List D} (h : d.ren σ = .ref cs) : d = .ref cs := by
  cases d <;> simp only [D.ren] at h <;> first
    | exact h
    | (cases h; done)
    | (split at h <;> cases h)
theorem ren_hot {σ : List Nat} {d : D} {cs : List D} (h : d.ren σ = hotR cs) : d = hotR cs := by
  cases d with
  | tup l =>
    simp only [D.ren, hotR] at h
    injection h with h
    match l, h with
    | [x, y], h =>
      simp only [D.ren.rl] at h
      injection h with h1 h2
      injection h2 with h2 _
      rw [ren_any h1, ren_ref h2]; rfl
    | [], h => simp [D.ren.rl] at h
    | [x], h => simp [D.ren.rl] at h
    | x :: y :: z :: l, h => simp [D.ren.rl] at h
  | _ =>
    simp only [D.ren, hotR] at h <;> first
      | (cases h; done)
      | (split at h <;> cases h)
theorem Hr.down {σ : List Nat} {gs : Ghost} (hσ : ∀ (i o : Nat), σ[i]? = some o → gs[i]? = g[o]?) {v : Value} {d d' : D} (h : Hr I g w1 v d') (e : d.ren σ = d') : Hr I gs w1 v d := by
  cases hq : isHot d' with
  | some cs =>
    have e1 := isHot_eq hq
    subst e1
    rw [ren_hot e]
    exact Hr.mk (Hr.hot h)
  | none =>
    have h1 := (h.vr hq).down hσ d e
    cases hq2 : isHot d with
    | none => exact .of h1 hq2
    | some cs =>
      have e2 := isHot_eq hq2
      subst e2
      have : isHot d' = some cs := by rw [← e]; simp [hotR, D.ren, D.ren.rl, isHot]
      rw [this] at hq
      cases hq
def HII (C : Cx) (I : Nat → Prop) (w1 : World) (s : S) (a : Act) (w : World) : Prop := ∃ g, HInv C I w1 g s a w
theorem HII.view {s s' : S} {a : Act} (h : HII C I w1 s a w) (V : Sv 0 s s') : HII C I w1 s' a w := by
  obtain ⟨g, h⟩ := h
  obtain ⟨σ, V, hp, ht⟩ := V
  have hσ := gv_get V h.den.len
  refine ⟨gv σ g, h.den.view V, fun j => ?_, h.sz, h.dfr, h.kp, h.hot⟩
  rcases ht j with e | e
  · rw [e]; exact .any _
  · exact (h.tmp j).down hσ e.symm
theorem hxR_wp {E : En} (htb : E.tb.ok P) (hE : E.n = C.n ∧ E.lo = C.lo) {ops : Array Oper} {Qc : Exit → Act → World → Prop} {k : S → T} (hK : ∀ s' a' w', HII C I w1 s' a' w' → (k s').ok P Q → Qc .normal a' w') :
    ∀ (l : List Oper) (s : S) (a : Act) (w : World), HII C I w1 s a w → (hxR E l s k).ok P Q → wpList P ops Qc l a w
  | [], s, a, w, h, hk => hK _ _ _ h hk
  | o :: r, s, a, w, ⟨g, h⟩, hk => by
    replace hk : (match o.guard with
      | none => hx1 E o.op s fun d => put E o.dst d s fun s' => hxR E r s' k
      | some _ => T.fail 98).ok P Q := hk
    unfold wpList
    split at hk
    · rename_i e
      have hw : Region.wanted o (yielded ops a.tmps) = true := by unfold Region.wanted; rw [e]
      rw [if_pos hw]
      refine .inl ?_
      obtain ⟨v, d, w', hrn, hho, hv, hk'⟩ := hx1_ok htb h hk
      obtain ⟨s2, h2, hk2⟩ := h.put hE hv hho hk'
      have hfin := hxR_wp (ops := ops) htb hE hK r s2 _ w' ⟨g, h2⟩ hk2
      unfold Oper.wp
      rcases hrn with hrn | ⟨hrn, rfl⟩
      · rw [hrn]; exact hfin
      · rw [hrn]; exact hfin
    · exact hk.elim
theorem hxC_wp {E : En} (htb : E.tb.ok P) (hE : E.n = C.n ∧ E.lo = C.lo) : ∀ (c : Code) {s : S} {a : Act} {w : World} {K : Exit → S → T} {Q : Exit → S → Prop} {Qc : Exit → Act → World → Prop},
    (∀ e s' a' w', HII C I w1 s' a' w' → (K e s').ok P Q → Qc e a' w') → HII C I w1 s a w → (hxC E c s K).ok P Q → c.wp P Qc a w := by
  intro c
  induction c with
  | skip => intro s a w K Q Qc hK h hk; exact wp_skip (hK _ _ _ _ h hk)
  | region id ops draw =>
    intro s a w K Q Qc hK h hk
    cases draw with
    | false => exact wp_region_list (hxR_wp htb hE (fun s' a' w' h' hk' => hK _ _ _ _ h' hk') ops.toList s a w h hk)
    | true => exact hk.elim
  | seq x y ihx ihy =>
    intro s a w K Q Qc hK h hk
    refine wp_seq (ihx (K := fun e s' => match e with
      | .normal => hxC E y s' K
      | e => K e s') (Q := Q) (fun e s' a' w' h' hk' => ?_) h hk)
    cases e with
    | normal => exact ihy hK h' hk'
    | _ => exact hK _ _ _ _ h' hk'
  | cond c x y ihx ihy =>
    intro s a w K Q Qc hK h hk
    replace hk : (match ev s c with
      | .bool v => T.br v (hxC E x s K) (hxC E y s K)
      | _ => .fail 70).ok P Q := hk
    obtain ⟨g, h⟩ := h
    split at hk
    · rename_i v hc
      have hv := h.ev c
      rw [hc] at hv
      exact wp_cond_split (hv.vr rfl).bool_inv (fun e => ihx hK ⟨g, h⟩ (hk.1 e)) (fun e => ihy hK ⟨g, h⟩ (hk.2 e))
    · exact hk.elim
  | block id c ih =>
    intro s a w K Q Qc hK h hk
    refine wp_block (ih (K := fun e s' => match e with
      | .exit id' => bif Nat.beq id' id then K .normal s' else K (.exit id') s'
      | e => K e s') (Q := Q) (fun e s' a' w' h' hk' => ?_) h hk)
    cases e with
    | exit id' =>
      simp only [Exit.inBlock]
      cases hb : Nat.beq id' id with
      | true =>
        simp only [hb, cond_true] at hk'
        rw [if_pos (Nat.eq_of_beq_eq_true hb)]
        exact hK _ _ _ _ h' hk'
      | false =>
        simp only [hb, cond_false] at hk'
        rw [if_neg (fun e => by subst e; rw [Nat.beq_refl] at hb; cases hb)]
        exact hK _ _ _ _ h' hk'
    | _ => exact hK _ _ _ _ h' hk'
  | loop c ih =>
    intro s a w K Q Qc hK h hk
    replace hk : (T.loop 0 s (fun s' => hxC E c s' .leaf) K).ok P Q := hk
    simp only [T.ok] at hk
    obtain ⟨Iv, μ, ⟨s1, V1, hI1⟩, hk⟩ := hk
    have hex : ∀ a w, (∃ s, HII C I w1 s a w ∧ Iv s) → ∃ n, ∃ s, HII C I w1 s a w ∧ Iv s ∧ μ s = n := fun a w ⟨s, h1, h2⟩ => ⟨_, s, h1, h2, rfl⟩
    classical
    let μ' : Act → World → Nat := fun a w => if hh : ∃ s, HII C I w1 s a w ∧ Iv s then Classical.choose (least (hex a w hh)) else 0
    have hsp : ∀ a w (hh : ∃ s, HII C I w1 s a w ∧ Iv s), μ' a w = Classical.choose (least (hex a w hh)) := fun a w hh => by simp only [μ', dif_pos hh]
    have hle : ∀ a w s, HII C I w1 s a w → Iv s → μ' a w ≤ μ s := fun a w s h1 h2 => by
      have hh : ∃ s, HII C I w1 s a w ∧ Iv s := ⟨s, h1, h2⟩
      rw [hsp a w hh]
      exact (Classical.choose_spec (least (hex a w hh))).2 _ ⟨s, h1, h2, rfl⟩
    have hat : ∀ a w, (∃ s, HII C I w1 s a w ∧ Iv s) → ∃ s, HII C I w1 s a w ∧ Iv s ∧ μ s = μ' a w := fun a w hh => by
      rw [hsp a w hh]
      exact (Classical.choose_spec (least (hex a w hh))).1
    refine wp_loop (fun a w => ∃ s, HII C I w1 s a w ∧ Iv s) μ' ⟨s1, h.view V1, hI1⟩ (fun a w hh => ?_)
    obtain ⟨s0, h0, hI0, hμ⟩ := hat a w hh
    refine ih (K := .leaf) (fun e s' a' w' h' hk' => ?_) h0 (hk s0 hI0)
    cases e with
    | normal =>
      obtain ⟨s2, V2, hI2, hlt⟩ := hk'
      have h2 := h'.view V2
      exact ⟨⟨s2, h2, hI2⟩, by have := hle a' w' s2 h2 hI2; omega⟩
    | exit id => exact hK _ _ _ _ h' hk'
    | goto l => exact hK _ _ _ _ h' hk'
    | ret => exact hK _ _ _ _ h' hk'
    | panic ch => exact hK _ _ _ _ h' hk'
    | outgrown => exact hK _ _ _ _ h' hk'
  | exit id => intro s a w K Q Qc hK h hk; exact wp_exit (hK _ _ _ _ h hk)
  | ret => intro s a w K Q Qc hK h hk; exact wp_ret (hK _ _ _ _ h hk)
  | _ => intro s a w K Q Qc hK h hk; exact hk.elim
end
end Go.Proofs.YteaggenihhaajaaGreat

/- StateSame: colours forgotten (printed by gen_yj.py). -/
namespace Go.Proofs.YteaggenihhaajaaGreat
open Go.RowKit
set_option linter.unusedVariables false
set_option maxRecDepth 20000

theorem ll_maps {α : Type} {f g : α → List D} (h : ∀ x, D.clr.cl (f x) = g x) (l : List α) : D.clr.ll (l.map f) = l.map g := by
  rw [ll_map, List.map_map]; exact List.map_congr_left (fun x _ => h x)
theorem clrByte (x : UInt8) : D.clr.cl (cByte x) = cByte x := rfl
theorem clrNum (x : Int) : D.clr.cl (cNum x) = cNum x := rfl
theorem cSign_clr (s : SignD) : D.clr.cl (cSign s) = cSign s := by simp only [cSign, cSign, D.clr.cl, D.clr]
theorem cVoteOf_clr (s : VoteOfD) : D.clr.cl (cVoteOf s) = cVoteOf s := by simp only [cVoteOf, cVoteOf, D.clr.cl, D.clr]
theorem cVote_clr (s : VoteD) : D.clr.cl (cVote s) = cVote s := by simp only [cVote, cVote, D.clr.cl, D.clr]
theorem cHeader_clr (s : HeaderD) : D.clr.cl (cHeader s) = cHeader s := by simp only [cHeader, cHeader, D.clr.cl, D.clr]
theorem oRec_clr (s : List UInt8) : D.clr.cl (oRec s) = cRec s := by simp only [oRec, cRec, D.clr.cl, D.clr, ll_maps clrByte]
theorem oSigned_clr (s : SignedD) : D.clr.cl (oSigned s) = cSigned s := by simp only [oSigned, cSigned, D.clr.cl, D.clr, ll_maps oRec_clr]
theorem oPlaced_clr (s : PlacedD) : D.clr.cl (oPlaced s) = cPlaced s := by simp only [oPlaced, cPlaced, D.clr.cl, D.clr, ll_maps clrByte]
theorem oCert_clr (s : CertD) : D.clr.cl (oCert s) = cCert s := by simp only [oCert, cCert, D.clr.cl, D.clr, ll_maps cSign_clr]
theorem oMark_clr (s : MarkD) : D.clr.cl (oMark s) = cMark s := by simp only [oMark, cMark, D.clr.cl, D.clr, ll_maps clrByte]
theorem oBlock_clr (s : BlockD) : D.clr.cl (oBlock s) = cBlock s := by simp only [oBlock, cBlock, D.clr.cl, D.clr, ll_maps oSigned_clr, ll_maps oPlaced_clr]
theorem oSlot_clr (s : SlotD) : D.clr.cl (oSlot s) = cSlot s := by simp only [oSlot, cSlot, D.clr.cl, D.clr, ll_maps oSigned_clr, ll_maps cVoteOf_clr]
theorem oPrepared_clr (s : PreparedD) : D.clr.cl (oPrepared s) = cPrepared s := by simp only [oPrepared, cPrepared, D.clr.cl, D.clr, ll_maps cSign_clr, ll_maps oSigned_clr]
theorem oChange_clr (s : ChangeD) : D.clr.cl (oChange s) = cChange s := by simp only [oChange, cChange, D.clr.cl, D.clr, ll_maps cSign_clr, ll_maps oPrepared_clr]
theorem oEntry_clr (s : EntryD) : D.clr.cl (oEntry s) = cEntry s := by simp only [oEntry, cEntry, D.clr.cl, D.clr, ll_maps oSigned_clr]
theorem oMsg_clr (s : MsgD) : D.clr.cl (oMsg s) = cMsg s := by simp only [oMsg, cMsg, D.clr.cl, D.clr, ll_maps oSigned_clr, ll_maps cSign_clr, ll_maps oChange_clr, ll_maps oEntry_clr, ll_maps clrByte, ll_maps cHeader_clr, ll_maps clrNum]
theorem oCore_clr (s : CoreD) : D.clr.cl (oCore s) = cCore s := by simp only [oCore, cCore, D.clr.cl, D.clr, ll_maps oBlock_clr, ll_maps clrByte, ll_maps cSign_clr, ll_maps cVote_clr, ll_maps oCert_clr, ll_maps oMark_clr, ll_maps oSlot_clr, ll_maps oPrepared_clr, ll_maps oChange_clr, ll_maps oSigned_clr, ll_maps oMsg_clr]
theorem oCore_co (a : CoreD) : Co (.agg (oCore a)) (.agg (cCore a)) := by
  have h := Co.clr (.agg (oCore a))
  rwa [show (D.agg (oCore a)).clr = .agg (cCore a) from by simp only [D.clr, oCore_clr]] at h
end Go.Proofs.YteaggenihhaajaaGreat

/- StateSame: the loops that turn the clone (printed by gen_yk.py). -/
namespace Go.Proofs.YteaggenihhaajaaGreat
open Go.RowKit
set_option linter.unusedVariables false
set_option maxRecDepth 20000

/-- the clone stands, nothing else is known -/
def cutS (a : CoreD) : S := ⟨[(5, .ptr 0 0)], [.cells 45 (oCore a)]⟩
def hotE : En := ⟨tyTab, 244, true, 4⟩
theorem okAll [Wd] {P : Program} {Q : Exit → S → Prop} {k : IntKind} {c : Int → T} (h : ∀ m, (c m).ok P Q) : (T.all k c).ok P Q := h
def CutQ (a : CoreD) (e : Exit) (s : S) : Prop := e = .normal ∧ Sv 0 s (cutS a)
theorem cut_end [Wd] {P : Program} {a : CoreD} {s : S} (h : Sv 0 s (cutS a)) : (T.leaf .normal s).ok P (CutQ a) := ⟨rfl, h⟩
def cR : Code → Code
  | .seq _ b => b
  | c => c
def cL : Code → Code
  | .seq a _ => a
  | c => c
def bodyOf (f : Func) : Code := f.body.getD .skip
theorem hot0_ok [Wd] (a : CoreD) (HL : a.topics.length ≤ 4194304) : (hxC hotE (cL (cR (cR (cR (cR (bodyOf Tryz.f6)))))) (cutS a) .leaf).ok Tryz.prog (CutQ a) := by
  conv => arg 2; whnf
  refine okLoop (α := Nat) (fun i => ⟨[(44, .int .i64 i), (43, .int .i64 (a.topics.map cByte).length), (5, .ptr 0 0)], [.cells 45 (oCore a)]⟩) (fun i => i ≤ a.topics.length) (fun i => a.topics.length - i) 0 (Nat.zero_le _) (Sv.mk' [0] rfl ⟨⟨rfl, rfl⟩, trivial⟩ ⟨rfl, rfl, rfl,  trivial⟩) ?_
  intro i (hi : i ≤ a.topics.length)
  conv => arg 2; whnf
  refine okBr (fun h => ?_) (fun h => ?_)
  · obtain ⟨x, hx⟩ : ∃ x, a.topics[i]? = some x := ⟨_, List.getElem?_eq_getElem (by simpa using h)⟩
    have h9 := (List.getElem?_eq_some_iff.1 hx).1
    repeat'
      (conv => arg 2; whnf)
      first
      | refine okNthAt hx ?_
      | refine okAgain (i + 1) (Sv.mk' [0] rfl ⟨⟨rfl, rfl⟩, trivial⟩ ⟨rfl, rfl, rfl,  trivial⟩) (by show i + 1 ≤ a.topics.length; omega) (by show a.topics.length - (i + 1) < a.topics.length - i; omega)
      | refine okBrT ?_
      | refine okBrF ?_
      | refine okAll (fun m => ?_)
      | refine okWrap (w64 (by (try dsimp only); omega) (by (try dsimp only); omega)) ?_
      | refine okRaw ?_
      | refine okOut ?_
      | fail
  · repeat'
      (conv => arg 2; whnf)
      first
      | refine okBrT ?_
      | refine okBrF ?_
      | refine okAll (fun m => ?_)
      | refine okWrap (w64 (by (try dsimp only); omega) (by (try dsimp only); omega)) ?_
      | refine okRaw ?_
      | refine okOut ?_
      | exact cut_end (Sv.mk' [0] rfl ⟨⟨rfl, rfl⟩, trivial⟩ ⟨rfl,  trivial⟩)
      | fail
theorem hot1_ok [Wd] (a : CoreD) (HL : a.slots.length ≤ 4194304) (HK : ∀ x ∈ a.slots, x.prepares.length ≤ 4194304) : (hxC hotE (cL (cR (cR (cR (cR (cR (bodyOf Tryz.f6))))))) (cutS a) .leaf).ok Tryz.prog (CutQ a) := by
  conv => arg 2; whnf
  refine okLoop (α := Nat) (fun i => ⟨[(58, .int .i64 i), (57, .int .i64 (a.slots.map oSlot).length), (5, .ptr 0 0)], [.cells 45 (oCore a)]⟩) (fun i => i ≤ a.slots.length) (fun i => a.slots.length - i) 0 (Nat.zero_le _) (Sv.mk' [0] rfl ⟨⟨rfl, rfl⟩, trivial⟩ ⟨rfl, rfl, rfl,  trivial⟩) ?_
  intro i (hi : i ≤ a.slots.length)
  conv => arg 2; whnf
  refine okBr (fun h => ?_) (fun h => ?_)
  · obtain ⟨x, hx⟩ : ∃ x, a.slots[i]? = some x := ⟨_, List.getElem?_eq_getElem (by simpa using h)⟩
    have h9 := (List.getElem?_eq_some_iff.1 hx).1
    have HX : x.prepares.length ≤ 4194304 := HK x (List.mem_of_getElem? hx)
    repeat'
      (conv => arg 2; whnf)
      first
      | refine okNthAt hx ?_
      | refine okBrT ?_
      | refine okBrF ?_
      | refine okAll (fun m => ?_)
      | refine okWrap (w64 (by (try dsimp only); omega) (by (try dsimp only); omega)) ?_
      | refine okRaw ?_
    refine okLoop (α := Nat) (fun q => ⟨[(77, .int .i64 q), (76, .int .i64 (x.prepares.map cVoteOf).length), (7, .int .i64 i), (58, .int .i64 i), (57, .int .i64 (a.slots.map oSlot).length), (5, .ptr 0 0)], [.cells 45 (oCore a)]⟩) (fun q => q ≤ x.prepares.length) (fun q => x.prepares.length - q) 0 (Nat.zero_le _) (Sv.mk' [0] rfl ⟨⟨rfl, rfl⟩, trivial⟩ ⟨rfl, rfl, rfl, rfl, rfl, rfl,  trivial⟩) ?_
    intro q (hq : q ≤ x.prepares.length)
    conv => arg 2; whnf
    refine okBr (fun h => ?_) (fun h => ?_)
    · obtain ⟨y, hy⟩ : ∃ y, x.prepares[q]? = some y := ⟨_, List.getElem?_eq_getElem (by simpa using h)⟩
      have h8 := (List.getElem?_eq_some_iff.1 hy).1
      repeat'
        (conv => arg 2; whnf)
        first
        | refine okNthAt hx ?_
        | refine okNthAt hy ?_
        | refine okAgain (q + 1) (Sv.mk' [0] rfl ⟨⟨rfl, rfl⟩, trivial⟩ ⟨rfl, rfl, rfl, rfl, rfl, rfl,  trivial⟩) (by show q + 1 ≤ x.prepares.length; omega) (by show x.prepares.length - (q + 1) < x.prepares.length - q; omega)
        | refine okBrT ?_
        | refine okBrF ?_
        | refine okAll (fun m => ?_)
        | refine okWrap (w64 (by (try dsimp only); omega) (by (try dsimp only); omega)) ?_
        | refine okRaw ?_
        | refine okOut ?_
        | fail
    · repeat'
        (conv => arg 2; whnf)
        first
        | refine okAgain (i + 1) (Sv.mk' [0] rfl ⟨⟨rfl, rfl⟩, trivial⟩ ⟨rfl, rfl, rfl,  trivial⟩) (by show i + 1 ≤ a.slots.length; omega) (by show a.slots.length - (i + 1) < a.slots.length - i; omega)
        | refine okBrT ?_
        | refine okBrF ?_
        | refine okAll (fun m => ?_)
        | refine okWrap (w64 (by (try dsimp only); omega) (by (try dsimp only); omega)) ?_
        | refine okRaw ?_
        | refine okOut ?_
        | fail
  · repeat'
      (conv => arg 2; whnf)
      first
      | refine okBrT ?_
      | refine okBrF ?_
      | refine okAll (fun m => ?_)
      | refine okWrap (w64 (by (try dsimp only); omega) (by (try dsimp only); omega)) ?_
      | refine okRaw ?_
      | refine okOut ?_
      | exact cut_end (Sv.mk' [0] rfl ⟨⟨rfl, rfl⟩, trivial⟩ ⟨rfl,  trivial⟩)
      | fail
theorem hot2_ok [Wd] (a : CoreD) (HL : a.blocks.length ≤ 4194304) (HK : ∀ x ∈ a.blocks, x.placed.length ≤ 4194304) : (hxC hotE (cL (cR (cR (cR (cR (cR (cR (bodyOf Tryz.f6)))))))) (cutS a) .leaf).ok Tryz.prog (CutQ a) := by
  conv => arg 2; whnf
  refine okLoop (α := Nat) (fun i => ⟨[(98, .int .i64 i), (97, .int .i64 (a.blocks.map oBlock).length), (5, .ptr 0 0)], [.cells 45 (oCore a)]⟩) (fun i => i ≤ a.blocks.length) (fun i => a.blocks.length - i) 0 (Nat.zero_le _) (Sv.mk' [0] rfl ⟨⟨rfl, rfl⟩, trivial⟩ ⟨rfl, rfl, rfl,  trivial⟩) ?_
  intro i (hi : i ≤ a.blocks.length)
  conv => arg 2; whnf
  refine okBr (fun h => ?_) (fun h => ?_)
  · obtain ⟨x, hx⟩ : ∃ x, a.blocks[i]? = some x := ⟨_, List.getElem?_eq_getElem (by simpa using h)⟩
    have h9 := (List.getElem?_eq_some_iff.1 hx).1
    have HX : x.placed.length ≤ 4194304 := HK x (List.mem_of_getElem? hx)
    repeat'
      (conv => arg 2; whnf)
      first
      | refine okNthAt hx ?_
      | refine okBrT ?_
      | refine okBrF ?_
      | refine okAll (fun m => ?_)
      | refine okWrap (w64 (by (try dsimp only); omega) (by (try dsimp only); omega)) ?_
      | refine okRaw ?_
    refine okLoop (α := Nat) (fun q => ⟨[(108, .int .i64 q), (107, .int .i64 (x.placed.map oPlaced).length), (9, .int .i64 i), (98, .int .i64 i), (97, .int .i64 (a.blocks.map oBlock).length), (5, .ptr 0 0)], [.cells 45 (oCore a)]⟩) (fun q => q ≤ x.placed.length) (fun q => x.placed.length - q) 0 (Nat.zero_le _) (Sv.mk' [0] rfl ⟨⟨rfl, rfl⟩, trivial⟩ ⟨rfl, rfl, rfl, rfl, rfl, rfl,  trivial⟩) ?_
    intro q (hq : q ≤ x.placed.length)
    conv => arg 2; whnf
    refine okBr (fun h => ?_) (fun h => ?_)
    · obtain ⟨y, hy⟩ : ∃ y, x.placed[q]? = some y := ⟨_, List.getElem?_eq_getElem (by simpa using h)⟩
      have h8 := (List.getElem?_eq_some_iff.1 hy).1
      repeat'
        (conv => arg 2; whnf)
        first
        | refine okNthAt hx ?_
        | refine okNthAt hy ?_
        | refine okAgain (q + 1) (Sv.mk' [0] rfl ⟨⟨rfl, rfl⟩, trivial⟩ ⟨rfl, rfl, rfl, rfl, rfl, rfl,  trivial⟩) (by show q + 1 ≤ x.placed.length; omega) (by show x.placed.length - (q + 1) < x.placed.length - q; omega)
        | refine okBrT ?_
        | refine okBrF ?_
        | refine okAll (fun m => ?_)
        | refine okWrap (w64 (by (try dsimp only); omega) (by (try dsimp only); omega)) ?_
        | refine okRaw ?_
        | refine okOut ?_
        | fail
    · repeat'
        (conv => arg 2; whnf)
        first
        | refine okAgain (i + 1) (Sv.mk' [0] rfl ⟨⟨rfl, rfl⟩, trivial⟩ ⟨rfl, rfl, rfl,  trivial⟩) (by show i + 1 ≤ a.blocks.length; omega) (by show a.blocks.length - (i + 1) < a.blocks.length - i; omega)
        | refine okBrT ?_
        | refine okBrF ?_
        | refine okAll (fun m => ?_)
        | refine okWrap (w64 (by (try dsimp only); omega) (by (try dsimp only); omega)) ?_
        | refine okRaw ?_
        | refine okOut ?_
        | fail
  · repeat'
      (conv => arg 2; whnf)
      first
      | refine okBrT ?_
      | refine okBrF ?_
      | refine okAll (fun m => ?_)
      | refine okWrap (w64 (by (try dsimp only); omega) (by (try dsimp only); omega)) ?_
      | refine okRaw ?_
      | refine okOut ?_
      | exact cut_end (Sv.mk' [0] rfl ⟨⟨rfl, rfl⟩, trivial⟩ ⟨rfl,  trivial⟩)
      | fail
theorem hot3_ok [Wd] (a : CoreD) (HL : a.marks.length ≤ 4194304) (HK : ∀ x ∈ a.marks, x.topics.length ≤ 4194304) : (hxC hotE (cL (cR (cR (cR (cR (cR (cR (cR (bodyOf Tryz.f6))))))))) (cutS a) .leaf).ok Tryz.prog (CutQ a) := by
  conv => arg 2; whnf
  refine okLoop (α := Nat) (fun i => ⟨[(129, .int .i64 i), (128, .int .i64 (a.marks.map oMark).length), (5, .ptr 0 0)], [.cells 45 (oCore a)]⟩) (fun i => i ≤ a.marks.length) (fun i => a.marks.length - i) 0 (Nat.zero_le _) (Sv.mk' [0] rfl ⟨⟨rfl, rfl⟩, trivial⟩ ⟨rfl, rfl, rfl,  trivial⟩) ?_
  intro i (hi : i ≤ a.marks.length)
  conv => arg 2; whnf
  refine okBr (fun h => ?_) (fun h => ?_)
  · obtain ⟨x, hx⟩ : ∃ x, a.marks[i]? = some x := ⟨_, List.getElem?_eq_getElem (by simpa using h)⟩
    have h9 := (List.getElem?_eq_some_iff.1 hx).1
    have HX : x.topics.length ≤ 4194304 := HK x (List.mem_of_getElem? hx)
    repeat'
      (conv => arg 2; whnf)
      first
      | refine okNthAt hx ?_
      | refine okBrT ?_
      | refine okBrF ?_
      | refine okAll (fun m => ?_)
      | refine okWrap (w64 (by (try dsimp only); omega) (by (try dsimp only); omega)) ?_
      | refine okRaw ?_
    refine okLoop (α := Nat) (fun q => ⟨[(139, .int .i64 q), (138, .int .i64 (x.topics.map cByte).length), (11, .int .i64 i), (129, .int .i64 i), (128, .int .i64 (a.marks.map oMark).length), (5, .ptr 0 0)], [.cells 45 (oCore a)]⟩) (fun q => q ≤ x.topics.length) (fun q => x.topics.length - q) 0 (Nat.zero_le _) (Sv.mk' [0] rfl ⟨⟨rfl, rfl⟩, trivial⟩ ⟨rfl, rfl, rfl, rfl, rfl, rfl,  trivial⟩) ?_
    intro q (hq : q ≤ x.topics.length)
    conv => arg 2; whnf
    refine okBr (fun h => ?_) (fun h => ?_)
    · obtain ⟨y, hy⟩ : ∃ y, x.topics[q]? = some y := ⟨_, List.getElem?_eq_getElem (by simpa using h)⟩
      have h8 := (List.getElem?_eq_some_iff.1 hy).1
      repeat'
        (conv => arg 2; whnf)
        first
        | refine okNthAt hx ?_
        | refine okNthAt hy ?_
        | refine okAgain (q + 1) (Sv.mk' [0] rfl ⟨⟨rfl, rfl⟩, trivial⟩ ⟨rfl, rfl, rfl, rfl, rfl, rfl,  trivial⟩) (by show q + 1 ≤ x.topics.length; omega) (by show x.topics.length - (q + 1) < x.topics.length - q; omega)
        | refine okBrT ?_
        | refine okBrF ?_
        | refine okAll (fun m => ?_)
        | refine okWrap (w64 (by (try dsimp only); omega) (by (try dsimp only); omega)) ?_
        | refine okRaw ?_
        | refine okOut ?_
        | fail
    · repeat'
        (conv => arg 2; whnf)
        first
        | refine okAgain (i + 1) (Sv.mk' [0] rfl ⟨⟨rfl, rfl⟩, trivial⟩ ⟨rfl, rfl, rfl,  trivial⟩) (by show i + 1 ≤ a.marks.length; omega) (by show a.marks.length - (i + 1) < a.marks.length - i; omega)
        | refine okBrT ?_
        | refine okBrF ?_
        | refine okAll (fun m => ?_)
        | refine okWrap (w64 (by (try dsimp only); omega) (by (try dsimp only); omega)) ?_
        | refine okRaw ?_
        | refine okOut ?_
        | fail
  · repeat'
      (conv => arg 2; whnf)
      first
      | refine okBrT ?_
      | refine okBrF ?_
      | refine okAll (fun m => ?_)
      | refine okWrap (w64 (by (try dsimp only); omega) (by (try dsimp only); omega)) ?_
      | refine okRaw ?_
      | refine okOut ?_
      | exact cut_end (Sv.mk' [0] rfl ⟨⟨rfl, rfl⟩, trivial⟩ ⟨rfl,  trivial⟩)
      | fail
theorem hot4_ok [Wd] (a : CoreD) (HL : a.held.length ≤ 4194304) (HK : ∀ x ∈ a.held, x.signs.length ≤ 4194304) : (hxC hotE (cL (cR (cR (cR (cR (cR (cR (cR (cR (bodyOf Tryz.f6)))))))))) (cutS a) .leaf).ok Tryz.prog (CutQ a) := by
  conv => arg 2; whnf
  refine okLoop (α := Nat) (fun i => ⟨[(158, .int .i64 i), (157, .int .i64 (a.held.map oPrepared).length), (5, .ptr 0 0)], [.cells 45 (oCore a)]⟩) (fun i => i ≤ a.held.length) (fun i => a.held.length - i) 0 (Nat.zero_le _) (Sv.mk' [0] rfl ⟨⟨rfl, rfl⟩, trivial⟩ ⟨rfl, rfl, rfl,  trivial⟩) ?_
  intro i (hi : i ≤ a.held.length)
  conv => arg 2; whnf
  refine okBr (fun h => ?_) (fun h => ?_)
  · obtain ⟨x, hx⟩ : ∃ x, a.held[i]? = some x := ⟨_, List.getElem?_eq_getElem (by simpa using h)⟩
    have h9 := (List.getElem?_eq_some_iff.1 hx).1
    have HX : x.signs.length ≤ 4194304 := HK x (List.mem_of_getElem? hx)
    repeat'
      (conv => arg 2; whnf)
      first
      | refine okNthAt hx ?_
      | refine okBrT ?_
      | refine okBrF ?_
      | refine okAll (fun m => ?_)
      | refine okWrap (w64 (by (try dsimp only); omega) (by (try dsimp only); omega)) ?_
      | refine okRaw ?_
    refine okLoop (α := Nat) (fun q => ⟨[(168, .int .i64 q), (167, .int .i64 (x.signs.map cSign).length), (13, .int .i64 i), (158, .int .i64 i), (157, .int .i64 (a.held.map oPrepared).length), (5, .ptr 0 0)], [.cells 45 (oCore a)]⟩) (fun q => q ≤ x.signs.length) (fun q => x.signs.length - q) 0 (Nat.zero_le _) (Sv.mk' [0] rfl ⟨⟨rfl, rfl⟩, trivial⟩ ⟨rfl, rfl, rfl, rfl, rfl, rfl,  trivial⟩) ?_
    intro q (hq : q ≤ x.signs.length)
    conv => arg 2; whnf
    refine okBr (fun h => ?_) (fun h => ?_)
    · obtain ⟨y, hy⟩ : ∃ y, x.signs[q]? = some y := ⟨_, List.getElem?_eq_getElem (by simpa using h)⟩
      have h8 := (List.getElem?_eq_some_iff.1 hy).1
      repeat'
        (conv => arg 2; whnf)
        first
        | refine okNthAt hx ?_
        | refine okNthAt hy ?_
        | refine okAgain (q + 1) (Sv.mk' [0] rfl ⟨⟨rfl, rfl⟩, trivial⟩ ⟨rfl, rfl, rfl, rfl, rfl, rfl,  trivial⟩) (by show q + 1 ≤ x.signs.length; omega) (by show x.signs.length - (q + 1) < x.signs.length - q; omega)
        | refine okBrT ?_
        | refine okBrF ?_
        | refine okAll (fun m => ?_)
        | refine okWrap (w64 (by (try dsimp only); omega) (by (try dsimp only); omega)) ?_
        | refine okRaw ?_
        | refine okOut ?_
        | fail
    · repeat'
        (conv => arg 2; whnf)
        first
        | refine okAgain (i + 1) (Sv.mk' [0] rfl ⟨⟨rfl, rfl⟩, trivial⟩ ⟨rfl, rfl, rfl,  trivial⟩) (by show i + 1 ≤ a.held.length; omega) (by show a.held.length - (i + 1) < a.held.length - i; omega)
        | refine okBrT ?_
        | refine okBrF ?_
        | refine okAll (fun m => ?_)
        | refine okWrap (w64 (by (try dsimp only); omega) (by (try dsimp only); omega)) ?_
        | refine okRaw ?_
        | refine okOut ?_
        | fail
  · repeat'
      (conv => arg 2; whnf)
      first
      | refine okBrT ?_
      | refine okBrF ?_
      | refine okAll (fun m => ?_)
      | refine okWrap (w64 (by (try dsimp only); omega) (by (try dsimp only); omega)) ?_
      | refine okRaw ?_
      | refine okOut ?_
      | exact cut_end (Sv.mk' [0] rfl ⟨⟨rfl, rfl⟩, trivial⟩ ⟨rfl,  trivial⟩)
      | fail
theorem hot5_ok [Wd] (a : CoreD) (HL : a.changes.length ≤ 4194304) : (hxC hotE (cL (cR (cR (cR (cR (cR (cR (cR (cR (cR (bodyOf Tryz.f6))))))))))) (cutS a) .leaf).ok Tryz.prog (CutQ a) := by
  conv => arg 2; whnf
  refine okLoop (α := Nat) (fun i => ⟨[(189, .int .i64 i), (188, .int .i64 (a.changes.map oChange).length), (5, .ptr 0 0)], [.cells 45 (oCore a)]⟩) (fun i => i ≤ a.changes.length) (fun i => a.changes.length - i) 0 (Nat.zero_le _) (Sv.mk' [0] rfl ⟨⟨rfl, rfl⟩, trivial⟩ ⟨rfl, rfl, rfl,  trivial⟩) ?_
  intro i (hi : i ≤ a.changes.length)
  conv => arg 2; whnf
  refine okBr (fun h => ?_) (fun h => ?_)
  · obtain ⟨x, hx⟩ : ∃ x, a.changes[i]? = some x := ⟨_, List.getElem?_eq_getElem (by simpa using h)⟩
    have h9 := (List.getElem?_eq_some_iff.1 hx).1
    repeat'
      (conv => arg 2; whnf)
      first
      | refine okNthAt hx ?_
      | refine okAgain (i + 1) (Sv.mk' [0] rfl ⟨⟨rfl, rfl⟩, trivial⟩ ⟨rfl, rfl, rfl,  trivial⟩) (by show i + 1 ≤ a.changes.length; omega) (by show a.changes.length - (i + 1) < a.changes.length - i; omega)
      | refine okBrT ?_
      | refine okBrF ?_
      | refine okAll (fun m => ?_)
      | refine okWrap (w64 (by (try dsimp only); omega) (by (try dsimp only); omega)) ?_
      | refine okRaw ?_
      | refine okOut ?_
      | fail
  · repeat'
      (conv => arg 2; whnf)
      first
      | refine okBrT ?_
      | refine okBrF ?_
      | refine okAll (fun m => ?_)
      | refine okWrap (w64 (by (try dsimp only); omega) (by (try dsimp only); omega)) ?_
      | refine okRaw ?_
      | refine okOut ?_
      | exact cut_end (Sv.mk' [0] rfl ⟨⟨rfl, rfl⟩, trivial⟩ ⟨rfl,  trivial⟩)
      | fail
theorem hot6_ok [Wd] (a : CoreD) (HL : a.pool.waiting.length ≤ 4194304) : (hxC hotE (cL (cR (cR (cR (cR (cR (cR (cR (cR (cR (cR (bodyOf Tryz.f6)))))))))))) (cutS a) .leaf).ok Tryz.prog (CutQ a) := by
  conv => arg 2; whnf
  refine okLoop (α := Nat) (fun i => ⟨[(206, .int .i64 i), (205, .int .i64 (a.pool.waiting.map oSigned).length), (5, .ptr 0 0)], [.cells 45 (oCore a)]⟩) (fun i => i ≤ a.pool.waiting.length) (fun i => a.pool.waiting.length - i) 0 (Nat.zero_le _) (Sv.mk' [0] rfl ⟨⟨rfl, rfl⟩, trivial⟩ ⟨rfl, rfl, rfl,  trivial⟩) ?_
  intro i (hi : i ≤ a.pool.waiting.length)
  conv => arg 2; whnf
  refine okBr (fun h => ?_) (fun h => ?_)
  · obtain ⟨x, hx⟩ : ∃ x, a.pool.waiting[i]? = some x := ⟨_, List.getElem?_eq_getElem (by simpa using h)⟩
    have h9 := (List.getElem?_eq_some_iff.1 hx).1
    repeat'
      (conv => arg 2; whnf)
      first
      | refine okNthAt hx ?_
      | refine okAgain (i + 1) (Sv.mk' [0] rfl ⟨⟨rfl, rfl⟩, trivial⟩ ⟨rfl, rfl, rfl,  trivial⟩) (by show i + 1 ≤ a.pool.waiting.length; omega) (by show a.pool.waiting.length - (i + 1) < a.pool.waiting.length - i; omega)
      | refine okBrT ?_
      | refine okBrF ?_
      | refine okAll (fun m => ?_)
      | refine okWrap (w64 (by (try dsimp only); omega) (by (try dsimp only); omega)) ?_
      | refine okRaw ?_
      | refine okOut ?_
      | fail
  · repeat'
      (conv => arg 2; whnf)
      first
      | refine okBrT ?_
      | refine okBrF ?_
      | refine okAll (fun m => ?_)
      | refine okWrap (w64 (by (try dsimp only); omega) (by (try dsimp only); omega)) ?_
      | refine okRaw ?_
      | refine okOut ?_
      | exact cut_end (Sv.mk' [0] rfl ⟨⟨rfl, rfl⟩, trivial⟩ ⟨rfl,  trivial⟩)
      | fail
theorem hot7_ok [Wd] (a : CoreD) (HL : a.points.votes.length ≤ 4194304) : (hxC hotE (cL (cR (cR (cR (cR (cR (cR (cR (cR (cR (cR (cR (bodyOf Tryz.f6))))))))))))) (cutS a) .leaf).ok Tryz.prog (CutQ a) := by
  conv => arg 2; whnf
  refine okLoop (α := Nat) (fun i => ⟨[(226, .int .i64 i), (225, .int .i64 (a.points.votes.map cVote).length), (5, .ptr 0 0)], [.cells 45 (oCore a)]⟩) (fun i => i ≤ a.points.votes.length) (fun i => a.points.votes.length - i) 0 (Nat.zero_le _) (Sv.mk' [0] rfl ⟨⟨rfl, rfl⟩, trivial⟩ ⟨rfl, rfl, rfl,  trivial⟩) ?_
  intro i (hi : i ≤ a.points.votes.length)
  conv => arg 2; whnf
  refine okBr (fun h => ?_) (fun h => ?_)
  · obtain ⟨x, hx⟩ : ∃ x, a.points.votes[i]? = some x := ⟨_, List.getElem?_eq_getElem (by simpa using h)⟩
    have h9 := (List.getElem?_eq_some_iff.1 hx).1
    repeat'
      (conv => arg 2; whnf)
      first
      | refine okNthAt hx ?_
      | refine okAgain (i + 1) (Sv.mk' [0] rfl ⟨⟨rfl, rfl⟩, trivial⟩ ⟨rfl, rfl, rfl,  trivial⟩) (by show i + 1 ≤ a.points.votes.length; omega) (by show a.points.votes.length - (i + 1) < a.points.votes.length - i; omega)
      | refine okBrT ?_
      | refine okBrF ?_
      | refine okAll (fun m => ?_)
      | refine okWrap (w64 (by (try dsimp only); omega) (by (try dsimp only); omega)) ?_
      | refine okRaw ?_
      | refine okOut ?_
      | fail
  · repeat'
      (conv => arg 2; whnf)
      first
      | refine okBrT ?_
      | refine okBrF ?_
      | refine okAll (fun m => ?_)
      | refine okWrap (w64 (by (try dsimp only); omega) (by (try dsimp only); omega)) ?_
      | refine okRaw ?_
      | refine okOut ?_
      | exact cut_end (Sv.mk' [0] rfl ⟨⟨rfl, rfl⟩, trivial⟩ ⟨rfl,  trivial⟩)
      | fail
end Go.Proofs.YteaggenihhaajaaGreat

/- A core's bytes in plain Lean, and that they tell it. No program here. -/
namespace Go.Proofs.YteaggenihhaajaaGreat
open Go.RowKit
set_option linter.unusedVariables false

/-! a core -/
def nOk (n : Int) : Prop := 0 ≤ n ∧ n ≤ 9007199254740992
/-- the bytes of a header, as a block has them -/
def hdrB (h : HeaderD) : List UInt8 := 3 :: numsB [h.seq, h.prev, h.batch, h.root, h.state]
def hdrOk (h : HeaderD) : Prop := nOk h.seq ∧ nOk h.prev ∧ nOk h.batch ∧ nOk h.root ∧ nOk h.state
def flagB (b : Bool) : List UInt8 := if b then enc 1 else enc 0
/-- a list of a core -/
def putsB {α : Type} (f : α → List UInt8) (l : List α) : List UInt8 := encI (l.length : Int) ++ l.flatMap f
def putsOk {α : Type} (P : α → Prop) (l : List α) : Prop := l.length ≤ 4096 ∧ ∀ x ∈ l, P x
def kCertB (c : CertD) : List UInt8 := byF (certB c)
def kCertOk (c : CertD) : Prop := certE c = 0 ∧ (certB c).length ≤ 262144
def kChgB (c : ChangeD) : List UInt8 := byF (chgB c)
def kChgOk (c : ChangeD) : Prop := chgE c = 0 ∧ (chgB c).length ≤ 262144
def kMsgB (m : MsgD) : List UInt8 := byF (fullB m)
def kMsgOk (m : MsgD) : Prop := checkE m = 0 ∧ (fullB m).length ≤ 262144
def placedB (p : PlacedD) : List UInt8 := byF p.topic ++ numsB [p.offset] ++ byF p.record
def placedOk (p : PlacedD) : Prop := nOk p.offset
def blockB (x : BlockD) : List UInt8 := byF (hdrB x.header) ++ batchP x.batch ++ putsB placedB x.placed
def blockOk (x : BlockD) : Prop := hdrOk x.header ∧ batchE x.batch = 0 ∧ putsOk placedOk x.placed
def kVoteB (v : VoteD) : List UInt8 := numsB [v.seq, v.digest] ++ signP v.sign
def kVoteOk (v : VoteD) : Prop := nOk v.seq ∧ nOk v.digest ∧ signE v.sign = 0
def markB (m : MarkD) : List UInt8 := byF (hdrB m.header) ++ byF m.topics
def markOk (m : MarkD) : Prop := hdrOk m.header
def voteOfB (v : VoteOfD) : List UInt8 := numsB [v.digest] ++ signP v.sign
def voteOfOk (v : VoteOfD) : Prop := nOk v.digest ∧ signE v.sign = 0
def slotB (s : SlotD) : List UInt8 := numsB [s.seq] ++ flagB s.has ++ numsB [s.digest] ++ (if s.has then signP s.firstS ++ batchP s.batch else []) ++ putsB voteOfB s.prepares ++ putsB voteOfB s.commits
def slotOk (s : SlotD) : Prop := nOk s.seq ∧ nOk s.digest ∧ (s.has = true → signE s.firstS = 0 ∧ batchE s.batch = 0) ∧ (s.has = false → s.firstS = zSign ∧ s.batch = []) ∧ putsOk voteOfOk s.prepares ∧ putsOk voteOfOk s.commits
def kPrepB (p : PreparedD) : List UInt8 := numsB [p.view, p.seq, p.digest] ++ signP p.firstS ++ putsB signP p.signs ++ batchP p.batch
def kPrepOk (p : PreparedD) : Prop := nOk p.view ∧ nOk p.seq ∧ nOk p.digest ∧ signE p.firstS = 0 ∧ putsOk (fun s => signE s = 0) p.signs ∧ batchE p.batch = 0
def waitB (s : SignedD) : List UInt8 := batchP [s]
def waitOk (s : SignedD) : Prop := batchE [s] = 0
def coreB (c : CoreD) : List UInt8 :=
  numsB [c.view] ++ flagB c.active ++ numsB [c.ticks, c.floor] ++ byF (hdrB c.base) ++ putsB blockB c.blocks ++ byF c.topics ++ kCertB c.points.stable ++ putsB kVoteB c.points.votes ++ putsB kCertB c.points.certs ++ putsB kCertB c.certs ++
    putsB markB c.marks ++ putsB slotB c.slots ++ putsB kPrepB c.held ++ putsB kChgB c.changes ++ putsB waitB c.pool.waiting ++ numsB [c.timer.length, c.timer.left] ++ putsB kMsgB c.news ++ numsB [c.wants]
/-! the forms of a core's parts tell them -/
theorem hdrB_len {h : HeaderD} (hh : hdrOk h) : (hdrB h).length ≤ 60 := by
  obtain ⟨a1, a2, a3, a4, a5⟩ := hh
  unfold nOk at *
  unfold hdrB numsB
  have q : ∀ n : Int, 0 ≤ n ∧ n ≤ 9007199254740992 → (encI n).length ≤ 10 := fun n hn => by
    unfold encI
    exact encLe10 _ (by omega)
  have := flat_len (f := encI) (K := 10) [h.seq, h.prev, h.batch, h.root, h.state] (fun x hx => q x (by simp at hx; omega))
  simp only [List.length_cons, List.length_nil] at this ⊢
  omega
/-- may a core be written? -/
def coreOk (c : CoreD) : Prop :=
  nOk c.view ∧ nOk c.ticks ∧ nOk c.floor ∧ hdrOk c.base ∧ putsOk blockOk c.blocks ∧ kCertOk c.points.stable ∧ putsOk kVoteOk c.points.votes ∧ putsOk kCertOk c.points.certs ∧ putsOk kCertOk c.certs ∧
    putsOk markOk c.marks ∧ putsOk slotOk c.slots ∧ putsOk kPrepOk c.held ∧ putsOk kChgOk c.changes ∧ putsOk waitOk c.pool.waiting ∧ nOk c.timer.length ∧ nOk c.timer.left ∧ putsOk kMsgOk c.news ∧ nOk c.wants
end Go.Proofs.YteaggenihhaajaaGreat

/- Worlds told by themselves (BB), and the small methods of the asker of package message: it keeps the first error. -/
namespace Go.Proofs.YteaggenihhaajaaGreat
open Go.RowKit Go.Deep
set_option linter.unusedVariables false

/-- old memory as it was: found by itself -/
class BB (w w' : World) : Prop where
  out : B w w'
instance BB.alloc (w w' : World) (o : Obj) [h : BB w w'] : BB w (w'.alloc o) := ⟨h.out.trans (B.alloc' _ _)⟩
instance BB.drew (w w' : World) [h : BB w w'] : BB w w'.drew := ⟨h.out.trans (Below.refl _ _).drew⟩
instance BB.drewN (w w' : World) (n : Nat) [h : BB w w'] : BB w (w'.drewN n) := ⟨h.out.trans ⟨rfl, rfl, rfl, Nat.le_refl _, fun _ _ => rfl⟩⟩
instance BB.refl (w : World) : BB w w := ⟨Below.refl _ _⟩
theorem St.on {W w w' : World} {L : List Asn} (h : St W w L) [k : BB w w'] : St W w' L := h.later k.out
theorem callsM {P : Program} {f : FuncId} {vs : Array Value} {w : World} {R R' : Ending → World → Prop} (h : Calls P f vs w R) (k : ∀ e w', R e w' → R' e w') : Calls P f vs w R' := h.mono k

section
variable {W w : World} {p : Nat} {e : Int} {X : List Asn}
end
end Go.Proofs.YteaggenihhaajaaGreat
