/- Lemmas and contracts, part 13. -/
import Derived.Test.YtbbcepmhkocgbaaGreatDoorZb12
import Derived.Laws.StructEq
/- Walks computed: an operation that only computes yields the value of its datum, in whatever world. No program here. -/
namespace Go.Proofs.YtbbcepmhkocgbaaGreatDoor
open Go.RowKit
set_option linter.unusedVariables false

section
variable {P : Program} {Q : Exit → S → Prop}
/-- what 'execP' gives -/
def Pg (P : Program) (I : Nat → Prop) (g : Ghost) (w : World) (ρ : Operand → Value) (o : Oper) (Q : Exit → S → Prop) (k : D → T) : Prop :=
  ∃ v d, (∀ w', (execOp ρ o).run P w' = .ok (.value v) w') ∧ Vr I g w v d ∧ (k d).ok P Q
theorem run_v {m : Sem Value} {v : Value} (h : ∀ w, m.run P w = .ok v w) (w : World) : (do pure (.value (← m)) : Sem Next).run P w = .ok (.value v) w := by
  rw [Sem.run_bind, h]; rfl
theorem Pg.mk {I : Nat → Prop} {g : Ghost} {w : World} {ρ : Operand → Value} {o : Oper} {k : D → T} {m : Sem Value} {v : Value} {d : D} (he : execOp ρ o = (do pure (.value (← m)))) (h : ∀ w, m.run P w = .ok v w) (hr : Vr I g w v d) (hk : (k d).ok P Q) : Pg P I g w ρ o Q k :=
  ⟨v, d, fun w' => by rw [he]; exact run_v h w', hr, hk⟩
theorem eqGuard_ok {op : BinOp} {t : TypeId} {x y : Operand} {u v : Value} (h1 : u ≠ .nilIface) (h2 : ∀ a, u ≠ .agg a) (w : World) : (eqGuard op t x y u v).run P w = .ok () w := by
  unfold eqGuard
  cases op <;> (cases u <;> first
    | exact absurd rfl h1
    | exact absurd rfl (h2 _)
    | rfl
    | (cases v <;> rfl))
theorem binD_plain {tb : TT} {op : BinOp} {xt : TypeId} {x y : D} {u : Value} {I : Nat → Prop} {g : Ghost} {w : World} (hx : Vr I g w u x) {c : D → T} (h : (binD tb op xt x y c).ok P Q) : u ≠ .nilIface ∧ ∀ a, u ≠ .agg a := by
  unfold binD at h
  split at h
  · cases hx.int_inv; exact ⟨by simp, by simp⟩
  · cases hx.str_inv; exact ⟨by simp, by simp⟩
  · cases hx.bool_inv; exact ⟨by simp, by simp⟩
  · obtain ⟨b, bo, _, rfl⟩ := hx.ptr_inv; exact ⟨by simp, by simp⟩
  · cases hx.nilp_inv; exact ⟨by simp, by simp⟩
  · exact h.elim
theorem eqF_ok {tb : TT} (htb : tb.ok P) {I : Nat → Prop} {g : Ghost} {w : World} {ih : TypeId → D → D → (Bool → T) → T} {d : Nat}
    (hih : ∀ {t : TypeId} {x y : D} {u v : Value} {k : Bool → T}, Vr I g w u x → Vr I g w v y → (ih t x y k).ok P Q → ∃ z, (∀ w', (Op.equalIn d t u v).run P w' = .ok z w') ∧ (k z).ok P Q)
    {xs ys : List D} {us vs : List Value} (hx : Vrs I g w us xs) (h1 : ∀ v ∈ us, v.oneCell' = true) (hy : Vrs I g w vs ys) (h2 : ∀ v ∈ vs, v.oneCell' = true) :
    ∀ (gs : List Field) (hn : (gs.all fun f => !(f.name == "_")) = true) (acc : Bool) (k : Bool → T), (eqF tb ih xs ys (gs.map fun f => (f.offset, f.type)) acc k).ok P Q →
      ∃ z, (∀ w', (Op.eqFields d us.toArray vs.toArray gs).run P w' = .ok z w') ∧ (k (acc && z)).ok P Q
  | [], hn, acc, k, h => ⟨true, fun w' => by simp [Op.eqFields], by rw [Bool.and_true]; exact h⟩
  | f :: gs, hn, acc, k, h => by
    simp only [List.map_cons, eqF] at h
    simp only [List.all_cons, Bool.and_eq_true] at hn
    have hf : f.name ≠ "_" := by simpa using hn.1
    split at h
    · rename_i x y e1 e2
      obtain ⟨u, r1, r2⟩ := partD_ok htb e1 hx h1
      obtain ⟨v, r3, r4⟩ := partD_ok htb e2 hy h2
      obtain ⟨z, r5, h⟩ := hih r2 r4 h
      obtain ⟨z2, r6, h⟩ := eqF_ok htb hih hx h1 hy h2 gs hn.2 (acc && z) k h
      refine ⟨z && z2, fun w' => ?_, by rw [← Bool.and_assoc]; exact h⟩
      simp only [Op.eqFields, if_pos hf, Sem.run_bind, r1, r3, r5, Result.andThen_ok]
      cases z
      · simp
      · simp [r6]
    · exact h.elim
theorem eqK_ok {tb : TT} (htb : tb.ok P) {I : Nat → Prop} {g : Ghost} {w : World} (e : Nat) : ∀ (n : Nat) {t : TypeId} {x y : D} {u v : Value} {k : Bool → T}, Vr I g w u x → Vr I g w v y → (eqK tb n t x y k).ok P Q → ∃ z, (∀ w', (Op.equalIn (n + e) t u v).run P w' = .ok z w') ∧ (k z).ok P Q
  | 0, t, x, y, u, v, k, hx, hy, h => h.elim
  | n + 1, t, x, y, u, v, k, hx, hy, h => by
    rw [show n + 1 + e = (n + e) + 1 from by omega]
    unfold eqK at h
    split at h
    · rename_i sz by_ z kd hl
      split at h
      · cases hx.int_inv; cases hy.int_inv
        rename_i k1 a k2 b
        cases hk : Nat.beq (kno k1) (kno k2) with
        | false => rw [hk] at h; exact h.elim
        | true =>
          rw [hk] at h
          cases kno_inj hk
          exact ⟨_, fun w' => run_equalIn_int w' _ t _ _ a b (kind_int htb hl), h⟩
      · cases hx.str_inv; cases hy.str_inv
        exact ⟨_, fun w' => by rw [run_equalIn_string w' _ t _ _ (kind_str htb hl), bstr_beqD], h⟩
      · cases hx.bool_inv; cases hy.bool_inv
        exact ⟨_, fun w' => run_equalIn_bool' w' _ t _ _ (kind_bool htb hl), h⟩
      · rename_i fs xs ys
        obtain ⟨us, rfl, k1, k2⟩ := hx.agg_inv
        obtain ⟨vs, rfl, k3, k4⟩ := hy.agg_inv
        obtain ⟨gs, hu, rfl, _⟩ := kind_struct htb hl
        have he := (htb t _ hl).eq rfl
        unfold eqOkB at he
        rw [hu] at he
        simp only [Bool.and_eq_true, Bool.not_eq_true'] at he
        obtain ⟨e1, e2, e3⟩ := he
        have hfs : P.fieldsOf t = gs := by unfold Program.fieldsOf; rw [hu]
        obtain ⟨z, r, h⟩ := eqF_ok htb (fun p q r => eqK_ok htb e n p q r) k1 k2 k3 k4 gs.toList (by simpa using e3) true k h
        refine ⟨z, fun w' => ?_, by simpa using h⟩
        rw [run_equalIn_struct w' _ t _ _ (by rw [hfs]; exact hu) e1, hfs]
        exact r w'
      · exact h.elim
    · exact h.elim
/-- two structs held one against the other -/
theorem eqS_ok {tb : TT} (htb : tb.ok P) {I : Nat → Prop} {g : Ghost} {w : World} {op : BinOp} {t : TypeId} {x y : D} {u v : Value} {p q : Operand} {c : D → T} (ha : aggD x = true) (hx : Vr I g w u x) (hy : Vr I g w v y) (h : (eqK tb 6 t x y fun z => eqB2 op z c).ok P Q) :
    ∃ r d, (∀ w', (do eqGuard op t p q u v; binOp op t u v : Sem Value).run P w' = .ok r w') ∧ Vr I g w r d ∧ (c d).ok P Q := by
  have h0 := h
  obtain ⟨z, r, h⟩ := eqK_ok htb 9994 6 hx hy h
  have hs : ∃ us vs : List Value, u = .agg us.toArray ∧ v = .agg vs.toArray ∧ P.eqGuardType P.depth t = false := by
    cases x <;> try (cases ha; done)
    rename_i xs
    obtain ⟨us, rfl, k1, k2⟩ := hx.agg_inv
    unfold eqK at h0
    split at h0
    · rename_i sz by_ z kd hl
      cases kd <;> cases y <;> try exact h0.elim
      obtain ⟨vs, rfl, k3, k4⟩ := hy.agg_inv
      have he := (htb t _ hl).eq rfl
      unfold eqOkB at he
      simp only [Bool.and_eq_true, Bool.not_eq_true'] at he
      exact ⟨us, vs, rfl, rfl, he.2.1⟩
    · exact h0.elim
  obtain ⟨us, vs, rfl, rfl, hg⟩ := hs
  cases op <;> simp only [eqB2, T.ok] at h
  case eql =>
    refine ⟨_, _, fun w' => ?_, .bool' z, h⟩
    rw [Sem.run_bind, run_eqGuard_agg w' _ _ _ _ _ _ hg]
    simp only [Result.andThen_ok]
    rw [run_eql_struct, show (10000 : Nat) = 6 + 9994 from rfl, r]; rfl
  case neq =>
    refine ⟨_, _, fun w' => ?_, .bool' (!z), h⟩
    rw [Sem.run_bind, run_eqGuard_agg w' _ _ _ _ _ _ hg]
    simp only [Result.andThen_ok]
    rw [run_neq_struct, show (10000 : Nat) = 6 + 9994 from rfl, r]; rfl
theorem fieldD_ok {tb : TT} (htb : tb.ok P) {t : TypeId} {f o : Nat} {u : TypeId} (h : fieldD tb t f = some (o, u)) : ∃ (gs : Array Field) (fl : Field) (i : TyI), P.underlying t = some (.struct gs) ∧ gs[f]? = some fl ∧ fl.offset = o ∧ fl.type = u ∧ tb.look u = some i ∧ ∃ inf, P.info? u = some inf ∧ inf.size ≠ 0 := by
  unfold fieldD at h
  split at h
  · rename_i sz by_ z fs hl
    obtain ⟨gs, hu, rfl, _⟩ := kind_struct htb hl
    split at h
    · rename_i o' t' hf
      split at h
      · rename_i i hi
        cases hz : Nat.beq i.size 0 with
        | true => rw [hz] at h; cases h
        | false =>
          rw [hz] at h
          injection h with h
          injection h with h1 h2
          subst h1 h2
          rw [lf_get, List.getElem?_map] at hf
          cases hg : gs.toList[f]? with
          | none => rw [hg] at hf; cases hf
          | some fl =>
            rw [hg] at hf
            injection hf with hf
            injection hf with e1 e2
            obtain ⟨inf, z', hinf, hsz, _⟩ := (htb _ i hi).info
            refine ⟨gs, fl, i, hu, by rw [← Array.getElem?_toList]; exact hg, e1, e2, hi, inf, hinf, fun e => ?_⟩
            rw [← hsz, e] at hz
            cases hz
      · cases h
    · cases h
  · cases h
theorem fieldAt_run {tb : TT} (htb : tb.ok P) {t : TypeId} {f o : Nat} {u : TypeId} (h : fieldD tb t f = some (o, u)) (b off : Nat) (w : World) : (Instr.fieldAt t (.pointer (some ⟨b, off, none⟩)) f).run P w = .ok (.pointer (some ⟨b, off + o, none⟩)) w := by
  obtain ⟨gs, fl, i, hu, hg, rfl, rfl, _, inf, hinf, hz⟩ := fieldD_ok htb h
  unfold Instr.fieldAt
  rw [Sem.run_bind, run_underlying hu]
  simp only [Result.andThen_ok, hg, Instr.sureAddr, Sem.run_bind, Sem.run_pure, fieldPlace, sizeOf_run hinf, if_neg hz, Addr.add_mid]
theorem field_run {tb : TT} (htb : tb.ok P) {t : TypeId} {f o : Nat} {u : TypeId} (h : fieldD tb t f = some (o, u)) {cs : Array Value} {v : Value} (w : World) (hp : ∀ w', (part u cs o).run P w' = .ok v w') : (Instr.field t (.agg cs) f).run P w = .ok v w := by
  obtain ⟨gs, fl, i, hu, hg, rfl, rfl, _⟩ := fieldD_ok htb h
  unfold Instr.field
  rw [Sem.run_bind, run_underlying hu]
  simp only [Result.andThen_ok, hg, asAgg, Sem.run_bind, Sem.run_pure]
  exact hp w
theorem fill_ok {tb : TT} (htb : tb.ok P) {s : S} {a : Act} {I : Nat → Prop} {g : Ghost} {w : World} (hev : ∀ x, Vr I g w (a.eval x) (ev s x)) {fs : List (Nat × TypeId)} {pl : List (Nat × Nat)} (hpl : pl.length = fs.length) (hp : ∀ (i : Nat) (o : Nat) (t : TypeId) (j : TyI), fs[i]? = some (o, t) → tb.look t = some j → pl[i]? = some (o, j.size)) :
    ∀ (ps : List (Nat × Operand)) (cs cs' : List D) (A : Array Value), Vrs I g w A.toList cs → (∀ v ∈ A.toList, v.oneCell' = true) → fillD tb fs s cs ps = some cs' →
      ∃ A', Instr.fill (pl.toArray[·]?) A (ps.map fun x => (x.1, a.eval x.2)) = some A' ∧ Vrs I g w A'.toList cs' ∧ ∀ v ∈ A'.toList, v.oneCell' = true
  | [], cs, cs', A, hv, h1, h => by
    simp only [fillD] at h
    injection h with h
    subst h
    exact ⟨A, rfl, hv, h1⟩
  | (i, x) :: r, cs, cs', A, hv, h1, h => by
    simp only [fillD] at h
    split at h
    · cases h
    · rename_i o t hf
      rw [lf_get] at hf
      split at h
      · rename_i j ds hj hds
        cases hl0 : Nat.beq ds.length j.size && Nat.blt 0 j.size with
        | false => rw [hl0] at h; cases h
        | true =>
          rw [hl0] at h
          rw [Bool.and_eq_true] at hl0
          obtain ⟨hl, hpos⟩ := hl0
          simp only [cond_true] at h
          split at h
          · rename_i cs1 ho
            obtain ⟨rfl, hle⟩ := overD_eq _ _ _ _ ho
            obtain ⟨k1, k2⟩ := cellsD_ok (hev x) hds
            have hsz : (a.eval x).cells.size = j.size := by
              have := k1.1
              rw [Array.length_toList] at this
              rw [this]; exact Nat.eq_of_beq_eq_true hl
            have hlen : (a.eval x).cells.size = ds.length := by rw [hsz]; exact (Nat.eq_of_beq_eq_true hl).symm
            have hAs : A.size = cs.length := by rw [← Array.length_toList]; exact hv.1
            obtain ⟨A', e1, e2, e3⟩ := fill_ok htb hev hpl hp r _ cs' ((a.eval x).cells.zipIdx.foldl (fun (c : Array Value) (y : Value × Nat) => c.setIfInBounds (o + y.2) y.1) A) (by rw [foldl_setA]; exact hv.setMany o k1) (fun v hm => by
              rw [foldl_setA] at hm
              rcases setVs_mem _ _ _ _ hm with e | e
              · exact h1 v e
              · exact k2 v e) h
            refine ⟨A', ?_, e2, e3⟩
            simp only [List.map_cons, Instr.fill]
            rw [List.getElem?_toArray, hp i o t j hf hj]
            have hp0 : 0 < j.size := Nat.lt_of_lt_of_le (Nat.lt_of_succ_le (Nat.le_of_ble_eq_true hpos)) (Nat.le_refl _)
            have hdl : 0 < ds.length := by omega
            have hne : ds ≠ [] := List.ne_nil_of_length_pos hdl
            have c2 : ¬ ((decide ((a.eval x).cells.size ≠ j.size) || decide (o + (a.eval x).cells.size > A.size)) = true) := by
              rcases hle with e | e
              · exact absurd e hne
              · simp only [Bool.or_eq_true, decide_eq_true_eq]
                omega
            show (if (decide ((a.eval x).cells.size ≠ j.size) || decide (o + (a.eval x).cells.size > A.size)) = true then none else _) = _
            rw [if_neg c2]
            exact e1
          · cases h
      · cases h
theorem zD_ok {I : Nat → Prop} {g : Ghost} {w : World} {v : Value} {d : D} (h : zD v = some d) : Vr I g w v d ∧ v.oneCell' = true := by
  unfold zD at h
  split at h
  · injection h with h; subst h; exact ⟨.rd (.bool _), rfl⟩
  · injection h with h; subst h; exact ⟨.rd (.int _ _), rfl⟩
  · rename_i s
    cases hs : s.size == 0 with
    | false => rw [hs] at h; cases h
    | true =>
      rw [hs] at h
      injection h with h
      subst h
      have : s = bstr [] := by
        apply ByteArray.ext
        have h0 : s.data.size = 0 := by simpa using hs
        exact Array.eq_empty_of_size_eq_zero h0
      rw [this]
      exact ⟨.rd (.str []), rfl⟩
  · injection h with h; subst h; exact ⟨.rd .nils, rfl⟩
  · injection h with h; subst h; exact ⟨.rd .nilp, rfl⟩
  · injection h with h; subst h; exact ⟨.rd .nilf, rfl⟩
  · injection h with h; subst h; exact ⟨.rd .nilm, rfl⟩
  · cases h
theorem zeroOk_ok {I : Nat → Prop} {g : Ghost} {w : World} : ∀ (vs : List Value) (ds : List D), zeroOk vs ds → Vrs I g w vs ds ∧ ∀ v ∈ vs, v.oneCell' = true
  | [], [], _ => ⟨.nil, by simp⟩
  | v :: vs, d :: ds, h => by
    obtain ⟨h1, h2⟩ := zeroOk_ok vs ds h.2
    obtain ⟨k1, k2⟩ := zD_ok (I := I) (g := g) (w := w) h.1
    exact ⟨.cons k1 h1, fun u hu => by rcases List.mem_cons.1 hu with rfl | e; exact k2; exact h2 u e⟩
  | [], _ :: _, h => h.elim
  | _ :: _, [], h => h.elim
theorem mapM_places {fs : List Field} (h : ∀ f ∈ fs, ∃ i, P.info? f.type = some i) : ∃ pl : List (Nat × Nat), fs.mapM (fun f => (P.info? f.type).map fun i => (f.offset, i.size)) = some pl ∧ pl.length = fs.length ∧ ∀ (i : Nat) (f : Field) (inf : TypeInfo), fs[i]? = some f → P.info? f.type = some inf → pl[i]? = some (f.offset, inf.size) := by
  induction fs with
  | nil => exact ⟨[], rfl, rfl, by simp⟩
  | cons f fs ih =>
    obtain ⟨pl, h1, h2, h3⟩ := ih (fun x hx => h x (by simp [hx]))
    obtain ⟨inf, hi⟩ := h f (by simp)
    refine ⟨(f.offset, inf.size) :: pl, by simp [List.mapM_cons, hi, h1], by simp [h2], fun i x q hx hq => ?_⟩
    cases i with
    | zero =>
      simp at hx; subst hx
      rw [hi] at hq; injection hq with hq; subst hq
      rfl
    | succ i => simp at hx ⊢; exact h3 i x q hx hq
theorem build_ok {tb : TT} (htb : tb.ok P) {s : S} {a : Act} {I : Nat → Prop} {g : Ghost} {w : World} (hev : ∀ x, Vr I g w (a.eval x) (ev s x)) {t : TypeId} {sz by_ : Nat} {z : List D} {fs : List (Nat × TypeId)} (hl : tb.look t = some ⟨sz, by_, z, .struct fs⟩) {parts : Array (Nat × Operand)} {cs : List D} (h : fillD tb fs s z parts.toList = some cs) :
    ∃ A : Array Value, (∀ w', (Instr.build t (parts.map fun (i, x) => (i, a.eval x))).run P w' = .ok (.agg A) w') ∧ Vr I g w (.agg A) (.agg cs) := by
  obtain ⟨gs, hu, hfs, hall⟩ := kind_struct htb hl
  obtain ⟨inf, zv, hinf, hsz, hby, hz, hzo, hzs, hzr⟩ := (htb t _ hl).info
  obtain ⟨pl, hp1, hp2, hp3⟩ := mapM_places hall
  obtain ⟨A0, rfl⟩ := hzr.2 rfl
  obtain ⟨k1, k2⟩ := zeroOk_ok (I := I) (g := g) (w := w) _ _ hzo
  subst hfs
  obtain ⟨A, e1, e2, e3⟩ := fill_ok htb hev (pl := pl) (by rw [hp2]; simp) (fun i o u j h1 h2 => by
    rw [List.getElem?_map] at h1
    cases hg : gs.toList[i]? with
    | none => rw [hg] at h1; cases h1
    | some f =>
      rw [hg] at h1
      injection h1 with h1
      injection h1 with e1 e2
      subst e1 e2
      obtain ⟨inf2, z2, hinf2, hsz2, _⟩ := (htb _ j h2).info
      rw [← hsz2]
      exact hp3 i f inf2 hg hinf2) parts.toList z cs A0 k1 k2 h
  refine ⟨A, fun w' => run_build w' t _ A ?_, ?_⟩
  · unfold Program.built
    rw [hinf, hu]
    simp only [hz, hp1, Value.cells, Array.toList_map]
    exact e1
  · have := Vr.mkAgg e2 e3
    simpa using this
end
end Go.Proofs.YtbbcepmhkocgbaaGreatDoor

/- Walks computed: 'execP' is sound. No program here. -/
namespace Go.Proofs.YtbbcepmhkocgbaaGreatDoor
open Go.RowKit
set_option linter.unusedVariables false

section
variable {P : Program} {Q : Exit → S → Prop}
theorem idx_ok {I : Nat → Prop} {g : Ghost} {w : World} {v : Value} {d : D} {n : Int} (h : Vr I g w v d) (hi : idx d = some n) : ∃ k, v = .int k n := by
  cases d <;> simp only [idx] at hi <;> first
    | (cases hi; done)
    | (injection hi with hi; subst hi; exact ⟨_, h.int_inv⟩)
theorem lh_get : ∀ (h : List AO) (o : Nat), lh h o = .gone ∨ h[o]? = some (lh h o)
  | [], o => .inl (by simp [lh])
  | a :: l, 0 => .inr (by simp [lh])
  | a :: l, n + 1 => by
    rcases lh_get l n with e | e
    · exact .inl (by simp [lh, e])
    · exact .inr (by simp [lh, e])
theorem lh_row {h : List AO} {o : Nat} {e : TypeId} {n : Nat} {xs : List (List D)} (k : lh h o = .row e n xs) : h[o]? = some (.row e n xs) := by
  rcases lh_get h o with e' | e'
  · rw [k] at e'; cases e'
  · rw [k] at e'; exact e'
theorem lh_cells {h : List AO} {o : Nat} {e : TypeId} {cs : List D} (k : lh h o = .cells e cs) : h[o]? = some (.cells e cs) := by
  rcases lh_get h o with e' | e'
  · rw [k] at e'; cases e'
  · rw [k] at e'; exact e'
/-- the length of a slice or a string -/
theorem lenD_ok {I : Nat → Prop} {g : Ghost} {w : World} {h : List AO} (hd : Den I g w h) {v : Value} {d : D} {n : Nat} (hv : Vr I g w v d) (hl : lenD h d = some n) : ∃ a c, v = .slice a n c := by
  cases d <;> simp only [lenD] at hl <;> try (cases hl; done)
  case list m xs =>
    injection hl with hl
    subst hl
    have h0 := hv.list_inv
    cases h0 with
    | list A cap m l xs U hl0 _ _ _ _ _ _ _ => exact ⟨_, _, by rw [hl0]⟩
  case nils => injection hl with hl; subst hl; exact ⟨_, _, hv.nils_inv⟩
  case row o =>
    obtain ⟨bo, a, l, c, hg, rfl⟩ := hv.row_inv
    cases hk : lh h o with
    | row e m xs =>
      rw [hk] at hl
      simp only at hl
      injection hl with hl
      subst hl
      obtain ⟨a', c', vs, hp, _⟩ := hd.obj o _ _ (lh_row hk) hg
      injection hp with e1 e2 e3
      exact ⟨a, c, by rw [e2]⟩
    | cells e cs => rw [hk] at hl; simp at hl
    | gone => rw [hk] at hl; simp at hl
theorem bound_run {x : Value} {k : IntKind} {n : Int} (hx : x = .int k n) {y : Nat} (h0 : 0 ≤ n) (h1 : n ≤ y) (c : BoundsCode) (w : World) : (Instr.sliceBound x y c).run P w = .ok n.toNat w := by
  subst hx
  simp [Instr.sliceBound, asIntOf, h0, h1]
theorem lo_run {I : Nat → Prop} {g : Ghost} {w : World} {s : S} {a : Act} (hev : ∀ x, Vr I g w (a.eval x) (ev s x)) {lo hi : Option Operand} {l h : Int} {len cap : Nat} {b : Bool} (hlo : loD s lo = some l) (hhi : hiD s len hi = some h) (h0 : 0 ≤ l) (h1 : l ≤ h) (h2 : h ≤ len) (hc : len ≤ cap) (w' : World) :
    (Instr.sliceBounds b len cap (lo.map a.eval) (hi.map a.eval) none).run P w' = .ok (l.toNat, h.toNat, cap) w' := by
  have hH : ∀ x, hi = some x → ∃ k, a.eval x = .int k h := fun x e => by subst e; exact idx_ok (hev x) hhi
  have hL : ∀ x, lo = some x → ∃ k, a.eval x = .int k l := fun x e => by subst e; exact idx_ok (hev x) hlo
  cases hi with
  | none =>
    simp only [hiD] at hhi
    injection hhi with hhi
    subst hhi
    cases lo with
    | none =>
      simp only [loD] at hlo
      injection hlo with hlo
      subst hlo
      simp [Instr.sliceBounds]
    | some x =>
      obtain ⟨k, hk⟩ := hL x rfl
      have := bound_run (P := P) hk (y := len) h0 (by omega) .sliceB w'
      simp [Instr.sliceBounds, this]
  | some y =>
    obtain ⟨k2, hk2⟩ := hH y rfl
    have q := fun c => bound_run (P := P) hk2 (y := cap) (by omega) (by omega) c w'
    cases lo with
    | none =>
      simp only [loD] at hlo
      injection hlo with hlo
      subst hlo
      simp [Instr.sliceBounds, q]
    | some x =>
      obtain ⟨k, hk⟩ := hL x rfl
      have := bound_run (P := P) hk (y := h.toNat) h0 (by omega) .sliceB w'
      simp [Instr.sliceBounds, q, this]
theorem bstr_extract (s : List UInt8) (l h : Nat) : (bstr s).extract l h = bstr ((s.drop l).take (h - l)) := by
  apply ByteArray.ext
  apply Array.toList_inj.1
  simp [bstr, ByteArray.data_extract, Array.toList_extract, List.extract_eq_take_drop]
/-- a slice cut -/
theorem Dr.cut {I : Nat → Prop} {w : World} {A : Option Addr} {len cap n : Nat} {xs : List (List D)} (h : Dr I w (.slice A len cap) (.list n xs)) {l k : Nat} (h1 : l ≤ k) (h2 : k ≤ len) :
    Dr I w (.slice (if cap = l then A else A.map (·.add (l * n))) (k - l) (cap - l)) (.list n ((xs.drop l).take (k - l))) := by
  cases h with
  | list A cap n len xs U hl0 hl hm hnone hlen hA g1 hU =>
    have hg : ∀ (i : Nat) x, ((xs.drop l).take (k - l))[i]? = some x → xs[l + i]? = some x := by
      intro i x hx
      rw [List.getElem?_take] at hx
      split at hx
      · rw [List.getElem?_drop] at hx; exact hx
      · cases hx
    refine .list _ _ n _ _ (fun i j => U (l + i) j) (by simp; omega) (by omega) (by omega) (fun e => ?_) (fun x hx => hlen x (List.mem_of_mem_drop (List.mem_of_mem_take hx))) (fun hp => ?_) (fun i x j d hx => g1 (l + i) x j d (hg i x hx)) (fun i x j d hx => hU (l + i) x j d (hg i x hx))
    · split at e
      · have := hnone e; omega
      · cases A with
        | none => have := hnone rfl; omega
        | some ad => cases e
    · obtain ⟨b, off, rfl, hb, hI, hc⟩ := hA (by omega)
      rw [if_neg (by omega)]
      refine ⟨b, off + l * n, by simp only [Option.map_some, Addr.add_mid], hb, hI, fun i x j d hx hj => ?_⟩
      have := hc (l + i) x j d (hg i x hx) hj
      rw [← this]
      congr 2
      rw [Nat.add_mul]
      omega
theorem max2_run (k : IntKind) (a b : Int) (w : World) : (Builtin.max2 (.int k a) (.int k b)).run P w = .ok (.int k (if a < b then b else a)) w := by
  simp [Builtin.max2]
theorem min2_run (k : IntKind) (a b : Int) (w : World) : (Builtin.min2 (.int k a) (.int k b)).run P w = .ok (.int k (if b < a then b else a)) w := by
  simp [Builtin.min2]
set_option maxHeartbeats 4000000 in
theorem execP_ok {E : En} (htb : E.tb.ok P) {s : S} {a : Act} {I : Nat → Prop} {g : Ghost} {w : World} (hev : ∀ x, Vr I g w (a.eval x) (ev s x)) (hd : Den I g w s.h) {o : Oper} {k : D → T} (h : (execP E o.op s k).ok P Q) : Pg P I g w a.eval o Q k := by
  obtain ⟨dst, op, ty, pos, after, guard⟩ := o
  simp only at h
  unfold execP at h
  split at h
  · -- move
    exact ⟨_, _, fun w' => rfl, hev _, h⟩
  · exact ⟨_, _, fun w' => rfl, hev _, h⟩
  · -- pick
    rename_i c x y
    split at h
    · rename_i b0 hc
      have hb := (hev c); rw [hc] at hb
      have hb := hb.bool_inv
      split at h
      · rename_i u v hu hv
        have h1 := hev x; rw [hu] at h1
        have h2 := hev y; rw [hv] at h2
        refine ⟨.bool (cond b0 u v), _, fun w' => ?_, .bool' _, h⟩
        cases b0 <;> simp [execOp, asBool, hb, h1.bool_inv, h2.bool_inv]
      · cases b0 with
        | true => exact ⟨_, _, fun w' => by simp [execOp, asBool, hb], hev x, h.1 rfl⟩
        | false => exact ⟨_, _, fun w' => by simp [execOp, asBool, hb], hev y, h.2 rfl⟩
    · exact h.elim
  · -- nilCheck
    rename_i x
    split at h
    · rename_i o f hx
      have hv := hev x; rw [hx] at hv
      obtain ⟨b, bo, _, e⟩ := hv.ptr_inv
      exact ⟨_, _, fun w' => by simp only [execOp, e]; rfl, by rw [← e]; exact hv, h⟩
    · rename_i cs hx
      have hv := hev x; rw [hx] at hv
      have h0 := hv.ref_inv
      cases e : a.eval x with
      | pointer p =>
        rw [e] at h0 hv
        cases h0
        exact ⟨_, _, fun w' => by simp only [execOp, e]; rfl, hv, h⟩
      | _ => rw [e] at h0; cases h0
    · rename_i f c hx
      have hv := hev x; rw [hx] at hv
      obtain ⟨vs, e, _⟩ := hv.fn_inv
      exact ⟨_, _, fun w' => by simp only [execOp, e]; rfl, by rw [← e]; exact hv, h⟩
    · exact h.elim
  · -- binOp
    rename_i bop xt x y yt
    cases hag : aggD (ev s x) with
    | true =>
      rw [hag] at h
      obtain ⟨v, d, h1, h2, h3⟩ := eqS_ok (p := x) (q := y) htb hag (hev x) (hev y) h
      exact Pg.mk (m := do eqGuard bop xt x y (a.eval x) (a.eval y); binOp bop xt (a.eval x) (a.eval y)) rfl h1 h2 h3
    | false =>
    rw [hag] at h
    obtain ⟨v, d, h1, h2, h3⟩ := binD_ok htb (hev x) (hev y) h
    obtain ⟨p1, p2⟩ := binD_plain (hev x) h
    refine Pg.mk (m := do eqGuard bop xt x y (a.eval x) (a.eval y); binOp bop xt (a.eval x) (a.eval y)) rfl (fun w' => ?_) (h2 I g w) h3
    rw [Sem.run_bind, eqGuard_ok p1 p2]
    exact h1 w'
  · -- not
    rename_i t x
    split at h
    · rename_i b hx
      have hv := hev x; rw [hx] at hv
      have e := hv.bool_inv
      exact ⟨_, _, fun w' => by simp [execOp, Op.unary, e], .bool' _, h⟩
    · exact h.elim
  · rename_i t x
    split at h
    · rename_i i n hx
      have hv := hev x; rw [hx] at hv
      have e := hv.int_inv
      exact ⟨_, _, fun w' => by simp only [execOp, Op.unary, e, Op.intArith]; rfl, .int' _ _, h⟩
    · exact h.elim
  · -- convert
    rename_i src dst' x
    split at h
    · rename_i i0 sz by_ z i kd n hs hdst hx
      have hv := hev x; rw [hx] at hv
      have e := hv.int_inv
      obtain ⟨d0, hu⟩ := kind_some htb hs
      have hk := kind_int htb hdst
      refine Pg.mk (m := convert src dst' (a.eval x)) rfl (fun w' => ?_) (.int' _ _) h
      rw [e]
      simp [convert, run_underlying hu, run_underlying hk, Conv.intToInt]
    · rename_i b hs hdst hx
      have hv := hev x; rw [hx] at hv
      have e := hv.str_inv
      have hu := kind_str htb hs
      have hk := kind_str htb hdst
      refine Pg.mk (m := convert src dst' (a.eval x)) rfl (fun w' => ?_) (.str' _) h
      rw [e]
      simp [convert, run_underlying hu, run_underlying hk]
    · exact h.elim
  · -- fieldAddr
    rename_i t x f
    split at h
    · rename_i o u p off hf hx
      have hv := hev x; rw [hx] at hv
      obtain ⟨b, bo, hg, e⟩ := hv.ptr_inv
      refine Pg.mk (m := Instr.fieldAt t (a.eval x) f) rfl (fun w' => ?_) (.ptr p (off + o) b bo hg) h
      rw [e]
      exact fieldAt_run htb hf b off w'
    · rename_i o u cs hf hx
      have hv := hev x; rw [hx] at hv
      have h0 := hv.ref_inv
      cases e : a.eval x with
      | pointer pa =>
        rw [e] at h0
        cases h0 with
        | ref b off cs U hI hb hc g1 hU =>
          refine Pg.mk (m := Instr.fieldAt t (a.eval x) f) rfl (v := .pointer (some ⟨b, off + o, none⟩)) (fun w' => by rw [e]; exact fieldAt_run htb hf b off w') (.rd (.ref b (off + o) _ (fun j => U (o + j)) hI hb (fun j d hj => ?_) (fun j d hj => ?_) (fun j d hj => ?_))) h
          · rw [dropD_eq, List.getElem?_drop] at hj
            rw [Nat.add_assoc]
            exact hc _ d hj
          · rw [dropD_eq, List.getElem?_drop] at hj
            exact g1 _ d hj
          · rw [dropD_eq, List.getElem?_drop] at hj
            exact hU _ d hj
      | _ => rw [e] at h0; cases h0
    · exact h.elim
  · -- field
    rename_i t x f
    split at h
    · rename_i o u cs hf hx
      have hv := hev x; rw [hx] at hv
      obtain ⟨vs, e, k1, k2⟩ := hv.agg_inv
      split at h
      · rename_i d hp
        obtain ⟨v, r1, r2⟩ := partD_ok htb hp k1 k2
        refine Pg.mk (m := Instr.field t (a.eval x) f) rfl (fun w' => ?_) r2 h
        rw [e]
        exact field_run htb hf w' r1
      · exact h.elim
    · exact h.elim
  · -- build
    rename_i t parts
    split at h
    · rename_i sz by_ z fs hl
      split at h
      · rename_i cs hf
        obtain ⟨A, r1, r2⟩ := build_ok htb hev hl hf
        exact Pg.mk (m := Instr.build t (parts.map fun (i, x) => (i, a.eval x))) rfl r1 r2 h
      · exact h.elim
    · exact h.elim
  · -- indexAddr
    rename_i t x i
    split at h
    · rename_i sz by_ z e hl
      split at h
      · rename_i n xs j y hx hi hy
        have hv := hev x; rw [hx] at hv
        have h0 := hv.list_inv
        obtain ⟨kd, hi'⟩ := idx_ok (hev i) hi
        cases hn : Nat.beq n y.size with
        | false => rw [hn] at h; exact h.elim
        | true =>
          rw [hn] at h
          obtain ⟨c, hj0, hc, hk⟩ := h
          have hk0 := kind_slice htb hl
          obtain ⟨inf, zv, hinf, hsz, _⟩ := (htb e y hy).info
          have hne : inf.size = n := by rw [hsz]; exact (Nat.eq_of_beq_eq_true hn).symm
          have hlt : j.toNat < xs.length := (List.getElem?_eq_some_iff.1 hc).1
          cases ex : a.eval x with
          | slice A len cap =>
            rw [ex] at h0
            cases h0 with
            | list A cap n len xs U hl0 hl' hm hnone hlen hA g1 hU =>
              obtain ⟨b, off, rfl, hb, hI, hcell⟩ := hA (by omega)
              refine Pg.mk (m := Instr.indexAt t (a.eval x) (a.eval i)) rfl (v := .pointer (some ⟨b, off + j.toNat * n, none⟩)) (fun w' => ?_) (.rd (.ref b (off + j.toNat * n) c (fun q => U j.toNat q) hI hb (fun q d hq => hcell _ _ _ _ hc hq) (fun q d hq => g1 _ _ _ _ hc hq) (fun q d hq => hU _ _ _ _ hc hq))) hk
              rw [ex, hi']
              have hrange : 0 ≤ j ∧ j < (len : Int) := by omega
              simp only [Instr.indexAt, asIntOf, Sem.run_bind, Sem.run_pure, Result.andThen_ok, run_underlying hk0, Sem.run_ite]
              rw [if_pos hrange]
              simp only [sizeOf_run hinf, Result.andThen_ok, hne, Addr.add_mid]
          | _ => rw [ex] at h0; cases h0
      · exact h.elim
    · exact h.elim
  · -- index
    rename_i t x i
    split at h
    · rename_i sz by_ z hl
      split at h
      · rename_i b j hx hi
        have hv := hev x; rw [hx] at hv
        have e := hv.str_inv
        obtain ⟨kd, hi'⟩ := idx_ok (hev i) hi
        obtain ⟨c, hj0, hc, hk⟩ := h
        have hk0 := kind_str htb hl
        refine Pg.mk (m := Instr.index t (a.eval x) (a.eval i)) rfl (fun w' => ?_) (.int' _ _) hk
        rw [e, hi']
        simp only [Instr.index, asIntOf, Sem.run_bind, Sem.run_pure, Result.andThen_ok, run_underlying hk0]
        rw [if_pos hj0]
        have : (bstr b)[j.toNat]? = some c := by
          obtain ⟨h1, h2⟩ := List.getElem?_eq_some_iff.1 hc
          have hs : j.toNat < (bstr b).size := by rw [bstr_sz]; exact h1
          rw [getElem?_pos (bstr b) j.toNat hs]
          exact congrArg some (show (bstr b)[j.toNat]'hs = c from h2)
        rw [this]
        rfl
      · exact h.elim
    · exact h.elim
  · -- slice
    rename_i t x lo hi
    split at h
    · rename_i sz by_ z b hl hx
      split at h
      · rename_i l k0 hlo hhi
        have hv := hev x; rw [hx] at hv
        have e := hv.str_inv
        have hk0 := kind_str htb hl
        obtain ⟨⟨c1, c2, c3⟩, hk⟩ := h
        refine Pg.mk (m := Instr.sliceAt t (a.eval x) (lo.map a.eval) (hi.map a.eval) none) rfl (v := .string (bstr ((b.drop l.toNat).take (k0.toNat - l.toNat)))) (fun w' => ?_) (.str' _) hk
        rw [e]
        have hr := lo_run (P := P) hev (b := false) hlo hhi c1 c2 c3 (Nat.le_refl _) w'
        simp only [Instr.sliceAt, Instr.slice, Sem.run_bind, run_underlying hk0, Result.andThen_ok, bstr_sz, hr, Option.isSome_none, Bool.false_eq_true, if_false, Sem.run_pure, bstr_extract]
      · exact h.elim
    · rename_i sz by_ z e n xs hl hx
      split at h
      · rename_i l k0 y hlo hhi hy
        cases hn : Nat.beq n y.size with
        | false => rw [hn] at h; exact h.elim
        | true =>
          rw [hn] at h
          have hv := hev x; rw [hx] at hv
          have h0 := hv.list_inv
          have hk0 := kind_slice htb hl
          obtain ⟨⟨c1, c2, c3⟩, hk⟩ := h
          obtain ⟨inf, zv, hinf, hsz, _⟩ := (htb e y hy).info
          have hne : inf.size = n := by rw [hsz]; exact (Nat.eq_of_beq_eq_true hn).symm
          cases ex : a.eval x with
          | slice A len cap =>
            rw [ex] at h0
            have hlen : len = xs.length := by cases h0; assumption
            have hcap : len ≤ cap := by cases h0; assumption
            have hcut := h0.cut (l := l.toNat) (k := k0.toNat) (by omega) (by omega)
            refine Pg.mk (m := Instr.sliceAt t (a.eval x) (lo.map a.eval) (hi.map a.eval) none) rfl (fun w' => ?_) (.rd hcut) hk
            rw [ex]
            have hr := lo_run (P := P) hev (b := true) hlo (by rw [← hlen] at hhi; exact hhi) c1 c2 (by rw [hlen]; exact c3) hcap w'
            simp only [Instr.sliceAt, Instr.slice, Sem.run_bind, run_underlying hk0, Result.andThen_ok, hr, sizeOf_run hinf, Sem.run_pure, hne]
          | _ => rw [ex] at h0; cases h0
      · exact h.elim
    · exact h.elim
  · -- extract
    rename_i x i
    split at h
    · rename_i ds hx
      split at h
      · rename_i d hl
        have hv := hev x; rw [hx] at hv
        obtain ⟨vs, e, k1⟩ := hv.tup_inv
        rw [ld_get] at hl
        have hlt : i < vs.length := by rw [k1.1]; exact (List.getElem?_eq_some_iff.1 hl).1
        refine Pg.mk (m := Instr.extract (a.eval x) i) rfl (fun w' => ?_) (k1.2 i _ d (List.getElem?_eq_getElem hlt) hl) h
        rw [e]
        simp [Instr.extract, hlt]
      · exact h.elim
    · exact h.elim
  · -- makeFunc
    rename_i f first caps
    cases hn : Nat.beq first.size 0 with
    | false => rw [hn] at h; exact h.elim
    | true =>
      rw [hn] at h
      have h0 : first = #[] := Array.eq_empty_of_size_eq_zero (Nat.eq_of_beq_eq_true hn)
      subst h0
      refine Pg.mk (m := Instr.makeFunc (.func f) ((#[] : Array Operand).map a.eval) (caps.map a.eval)) rfl (v := .func (.func f) #[] (caps.toList.map a.eval).toArray) (fun w' => ?_) (.fn f _ _ (by simp) (fun i v d h1 h2 => ?_)) h
      · simp only [Instr.makeFunc, Array.map_empty, Sem.run_pure]
        congr 2
        apply Array.toList_inj.1
        simp
      · rw [List.getElem?_map] at h1 h2
        cases hq : caps.toList[i]? with
        | none => rw [hq] at h1; cases h1
        | some x =>
          rw [hq] at h1 h2
          injection h1 with h1; injection h2 with h2
          subst h1 h2
          exact hev x
  · -- len
    rename_i args ts
    split at h
    · rename_i x t hargs hts
      have ha : args = #[x] := Array.toList_inj.1 hargs
      have ht : ts = #[t] := Array.toList_inj.1 hts
      subst ha ht
      split at h
      · rename_i sz by_ z hl
        have hk0 := kind_str htb hl
        split at h
        · rename_i b hx
          have hv := hev x; rw [hx] at hv
          refine ⟨.int .i64 (b.length : Int), _, fun w' => ?_, .int' _ _, h⟩
          simp [execOp, resolve, invoke, builtin, Builtin.len_, run_underlying hk0, hv.str_inv, bstr_sz, goInt]
        · exact h.elim
      · rename_i sz by_ z e0 hl
        have hk0 := kind_slice htb hl
        split at h
        · rename_i n hn
          obtain ⟨A, c, e⟩ := lenD_ok hd (hev x) hn
          refine ⟨.int .i64 (n : Int), _, fun w' => ?_, .int' _ _, h⟩
          simp [execOp, resolve, invoke, builtin, Builtin.len_, run_underlying hk0, e, goInt]
        · exact h.elim
      · exact h.elim
    · exact h.elim
  · -- max
    rename_i args ts
    split at h
    · rename_i x y hargs
      have ha : args = #[x, y] := Array.toList_inj.1 hargs
      subst ha
      split at h
      · rename_i i n i' m hx hy
        cases hk : Nat.beq (kno i) (kno i') with
        | false => rw [hk] at h; exact h.elim
        | true =>
          rw [hk] at h
          cases kno_inj hk
          have e1 := hev x; rw [hx] at e1
          have e2 := hev y; rw [hy] at e2
          refine ⟨.int i (if n < m then m else n), _, fun w' => ?_, .int' _ _, h⟩
          simp [execOp, resolve, invoke, builtin, Builtin.max_, e1.int_inv, e2.int_inv, max2_run]
      · exact h.elim
    · exact h.elim
  · rename_i args ts
    split at h
    · rename_i x y hargs
      have ha : args = #[x, y] := Array.toList_inj.1 hargs
      subst ha
      split at h
      · rename_i i n i' m hx hy
        cases hk : Nat.beq (kno i) (kno i') with
        | false => rw [hk] at h; exact h.elim
        | true =>
          rw [hk] at h
          cases kno_inj hk
          have e1 := hev x; rw [hx] at e1
          have e2 := hev y; rw [hy] at e2
          refine ⟨.int i (if m < n then m else n), _, fun w' => ?_, .int' _ _, h⟩
          simp [execOp, resolve, invoke, builtin, Builtin.min_, e1.int_inv, e2.int_inv, min2_run]
      · exact h.elim
    · exact h.elim
  · exact h.elim
end
end Go.Proofs.YtbbcepmhkocgbaaGreatDoor

/- Walks computed: what is read out of memory, there and in later worlds. No program here. -/
namespace Go.Proofs.YtbbcepmhkocgbaaGreatDoor
open Go.RowKit
set_option linter.unusedVariables false

/-- the object that an operation reads -/
def readsOf (op : Op) (s : S) : Option Nat :=
  match op with
  | .load _ a => match ev s a with
    | .ptr o _ => some o
    | _ => none
  | _ => none
section
variable {P : Program} {Q : Exit → S → Prop}
theorem Dr.bs {I : Nat → Prop} {w : World} {v : Value} {s : List UInt8} (h : Dr I w v (.list 1 (s.map cByte))) (hb : s.length ≤ big) : Bs w v s := by
  generalize hq : (D.list 1 (s.map cByte)) = q at h
  cases h <;> try (cases hq; done)
  rename_i A cap n l xs U hl0 hl hm hnone hlen hA g1 hU
  injection hq with h1 h2
  subst h1 h2
  rw [List.length_map] at hl0
  subst hl0
  refine ⟨⟨A, cap, rfl, fun e => ?_, hl, hm, fun ad had => ?_⟩, hb⟩
  · obtain ⟨e1, e2⟩ := hnone e
    exact ⟨List.eq_nil_of_length_eq_zero e1, e2⟩
  · subst had
    have key : ∀ (j : Nat) u, (cellsB s)[j]? = some u → ad.spot = none ∧ ad.block < w.heap.size ∧ w.cell? (ad.add j) = some u := by
      intro j u hj
      have hlt : j < s.length := by
        rcases Nat.lt_or_ge j s.length with h | h
        · exact h
        · rw [List.getElem?_eq_none (by rw [cellsB_len]; exact h)] at hj; cases hj
      obtain ⟨b, off, e, hbs, hI, hc⟩ := hA (by omega)
      injection e with e
      subst e
      have hx : (s.map cByte)[j]? = some (cByte s[j]) := by simp [hlt]
      have hd := hU j _ 0 (.int .u8 ((s[j]).toNat : Int)) hx rfl
      have hcl := hc j _ 0 (.int .u8 ((s[j]).toNat : Int)) hx rfl
      rw [cellsB_get s j hlt] at hj
      injection hj with hj
      subst hj
      refine ⟨rfl, hbs, ?_⟩
      rw [Addr.add_mid]
      rw [Nat.mul_one, Nat.add_zero] at hcl
      rw [hcl]
      generalize hz : U j 0 = z at hd
      cases hd
      rfl
    exact ⟨fun hne => (key 0 _ (by rw [cellsB_get s 0 (List.length_pos_iff.2 hne)])).2.1, fun j u hj => (key j u hj).2.2⟩
theorem Bs.dr {I : Nat → Prop} {w : World} {v : Value} {s : List UInt8} (h : Bs w v s) (hI : ∀ g, v.ownBlock = some g → s ≠ [] → I g) : Dr I w v (.list 1 (s.map cByte)) := by
  obtain ⟨⟨A, cap, rfl, hn, hc, hm, hr⟩, hl⟩ := h
  refine .list A cap 1 _ _ (fun i _ => (cellsB s).getD i undef) (by simp) hc hm (fun e => ?_) (fun x hx => ?_) (fun h0 => ?_) (fun i x j d hx hj => ?_) (fun i x j d hx hj => ?_)
  · obtain ⟨h1, h2⟩ := hn e
    exact ⟨by rw [h1]; rfl, h2⟩
  · obtain ⟨b, _, rfl⟩ := List.mem_map.1 hx
    rfl
  · cases A with
    | none => have := (hn rfl).1; rw [this] at h0; simp at h0
    | some ad =>
      obtain ⟨k1, k2⟩ := hr ad rfl
      have hne : s ≠ [] := List.length_pos_iff.1 h0
      have c0 := k2 0 _ (cellsB_get s 0 h0)
      have hs : ad.spot = none := by
        cases hq : ad.spot with
        | none => rfl
        | some z =>
          have : ad.add 0 = ad := by simp [Addr.add]
          rw [this] at c0
          unfold World.cell? at c0
          rw [hq] at c0
          split at c0 <;> simp at c0
      obtain ⟨b, off, sp⟩ := ad
      simp only at hs
      subst hs
      refine ⟨b, off, rfl, k1 hne, hI b rfl hne, fun i x j d hx hj => ?_⟩
      have hlt : i < s.length := by have := (List.getElem?_eq_some_iff.1 hx).1; simpa using this
      rw [List.getElem?_map, List.getElem?_eq_getElem hlt] at hx
      injection hx with hx
      subst hx
      have hj0 : j = 0 := by
        cases j with
        | zero => rfl
        | succ j => simp [cByte] at hj
      subst hj0
      have := k2 i _ (cellsB_get s i hlt)
      rw [Addr.add_mid] at this
      rw [Nat.mul_one, Nat.add_zero, this]
      simp [List.getD, cellsB_get s i hlt]
  · have hlt : i < s.length := by have := (List.getElem?_eq_some_iff.1 hx).1; simpa using this
    simp [List.getD, cellsB_get s i hlt, Value.oneCell']
  · have hlt : i < s.length := by have := (List.getElem?_eq_some_iff.1 hx).1; simpa using this
    rw [List.getElem?_map, List.getElem?_eq_getElem hlt] at hx
    injection hx with hx
    subst hx
    have hj0 : j = 0 := by
      cases j with
      | zero => rfl
      | succ j => simp [cByte] at hj
    subst hj0
    simp [cByte] at hj
    subst hj
    simp only [List.getD, cellsB_get s i hlt, Option.getD_some]
    exact .int _ _
/-- where the data's blocks are as they were the value reads as it did -/
theorem Dr.agree {I : Nat → Prop} {w w' : World} {v : Value} {d : D} (h : Dr I w v d) (hI : ∀ b, I b → w'.heap[b]? = w.heap[b]?) : Dr I w' v d := by
  have hlt : ∀ b, I b → b < w.heap.size → b < w'.heap.size := by
    intro b hb hl
    have := hI b hb
    rw [Array.getElem?_eq_getElem hl] at this
    exact (Array.getElem?_eq_some_iff.1 this).1
  induction h with
  | bool b => exact .bool b
  | int k n => exact .int k n
  | str s => exact .str s
  | nils => exact .nils
  | nilp => exact .nilp
  | nilf => exact .nilf
  | nilm => exact .nilm
  | list A cap n l xs U hl0 hl hm hnone hlen hA h1 hU ih =>
    refine .list A cap n l xs U hl0 hl hm hnone hlen (fun h0 => ?_) h1 ih
    obtain ⟨b, off, rfl, hb, hI', hc⟩ := hA h0
    exact ⟨b, off, rfl, hlt b hI' hb, hI', fun i x j d hx1 hj => by rw [World.cell?_of_block (a := ⟨b, off + i * n + j, none⟩) (hI b hI')]; exact hc i x j d hx1 hj⟩
  | ref b off cs U hI' hb hc h1 hU ih => exact .ref b off cs U hI' (hlt b hI' hb) (fun j d hj => by rw [World.cell?_of_block (a := ⟨b, off + j, none⟩) (hI b hI')]; exact hc j d hj) h1 ih
  | agg vs ds hl h1 h ih => exact .agg vs ds hl h1 ih
  | tup vs ds hl h ih => exact .tup vs ds hl ih
  | fn f vs ds hl h ih => exact .fn f vs ds hl ih
theorem load_part {I : Nat → Prop} {g : Ghost} {w : World} {tb : TT} (htb : tb.ok P) {t : TypeId} {ds : List D} {off : Nat} {d : D} {vs : List Value} (h : partD tb t ds off = some d) (hv : Vrs I g w vs ds) (h1 : ∀ v ∈ vs, v.oneCell' = true) (b base : Nat) :
    ∃ v, Vr I g w v d ∧ ∀ w', (∀ (j : Nat) u, vs[j]? = some u → w'.cell? ⟨b, base + j, none⟩ = some u) → (Instr.loadAt t (.pointer (some ⟨b, base + off, none⟩))).run P w' = .ok v w' := by
  unfold partD at h
  split at h
  · cases h
  · rename_i i hi
    obtain ⟨td, hu, hr⟩ := desc_row htb hi
    obtain ⟨inf, z, hinf, hsz, _⟩ := (htb t i hi).info
    cases hk : i.kind with
    | struct fs =>
      rw [hk] at h hr
      simp only at h
      split at h
      · rename_i r hr'
        injection h with h
        subst h
        rw [dropD_eq] at hr'
        obtain ⟨rfl, hle⟩ := tkD_eq _ _ _ hr'
        have hlen : ((vs.drop off).take i.size).length = i.size := by
          rw [List.length_take, List.length_drop, hv.1]
          rw [List.length_drop] at hle
          omega
        refine ⟨.agg ((vs.drop off).take i.size).toArray, .mkAgg ((hv.drop off).take i.size) (fun v h => h1 v (List.mem_of_mem_drop (List.mem_of_mem_take h))), fun w' hc => ?_⟩
        refine run_loadAt_mid w' b (base + off) t _ td (fun j v hj => ?_) hu (by rw [hr]; rfl) (by rw [hinf, hlen, ← hsz]; rfl)
        rw [List.getElem?_take] at hj
        split at hj
        · rw [List.getElem?_drop] at hj
          rw [Nat.add_assoc]
          exact hc _ v hj
        · cases hj
      · cases h
    | _ =>
      rw [hk] at h hr
      simp only [ld_get] at h
      have hlt : off < vs.length := by rw [hv.1]; exact (List.getElem?_eq_some_iff.1 h).1
      refine ⟨vs[off], hv.2 off _ d (List.getElem?_eq_getElem hlt) h, fun w' hc => ?_⟩
      have := hc off _ (List.getElem?_eq_getElem hlt)
      simp only [Instr.loadAt, Instr.sureAddr, Sem.run_bind, Sem.run_pure, Result.andThen_ok, loadVar, isAgg_run hu, hr]
      simp [TK.isRow, this]
theorem execL_ok {E : En} (htb : E.tb.ok P) {s : S} {a : Act} {I : Nat → Prop} {g : Ghost} {w : World} (hev : ∀ x, Vr I g w (a.eval x) (ev s x)) (hd : Den I g w s.h) {o : Oper} {k : D → T} (h : (execL E o.op s k).ok P Q) :
    ∃ v d, (∀ w' : World, (readsOf o.op s = none → ∀ b, I b → w'.heap[b]? = w.heap[b]?) → (∀ n ao p b, readsOf o.op s = some n → s.h[n]? = some ao → g[n]? = some p → ao.owns p b → w'.heap[b]? = w.heap[b]?) → (execOp a.eval o).run P w' = .ok (.value v) w') ∧ Vr I g w v d ∧ (k d).ok P Q := by
  obtain ⟨dst, op, ty, pos, after, guard⟩ := o
  simp only at h
  unfold execL at h
  split at h
  · rename_i t x
    split at h
    · rename_i o off hx
      have hv := hev x; rw [hx] at hv
      obtain ⟨b, bo, hg, e⟩ := hv.ptr_inv
      split at h
      · rename_i ct cs hl
        have hlc := lh_cells hl
        obtain ⟨b', vs, hp, hb, k1, k2⟩ := hd.obj o _ _ hlc hg
        injection hp with hp1 hp2
        injection hp2 with hp2
        injection hp2 with hp2
        injection hp2 with hp2 _ _
        subst hp2
        split at h
        · rename_i d hpd
          obtain ⟨v, r1, r2⟩ := load_part htb hpd k1 k2 b 0
          refine ⟨v, d, fun w' hI ho => ?_, r1, h⟩
          have hn : Blk w' b ct vs.toArray := (ho o _ _ b (by simp only [readsOf, hx]) hlc hg (by show bo = some b; exact hp1)).trans hb
          have := r2 w' (fun j u hj => by
            rw [Nat.zero_add, hn.cell]
            simpa using hj)
          rw [Nat.zero_add] at this
          simp only [execOp, e, Sem.run_bind, this]
          rfl
        · exact h.elim
      · exact h.elim
    · rename_i cs hx
      have hv := hev x; rw [hx] at hv
      have h0 := hv.ref_inv
      split at h
      · rename_i d hpd
        cases e : a.eval x with
        | pointer pa =>
          rw [e] at h0
          cases h0 with
          | ref b off cs U hI hb hc g1 hU =>
            have hvs : Vrs I g w ((List.range cs.length).map U) cs := by
              refine ⟨by simp, fun i v d h1 h2 => ?_⟩
              have hlt : i < cs.length := (List.getElem?_eq_some_iff.1 h2).1
              rw [List.getElem?_map, List.getElem?_range hlt] at h1
              injection h1 with h1
              subst h1
              exact .rd (hU i d h2)
            obtain ⟨v, r1, r2⟩ := load_part htb hpd hvs (fun v hv => by
              obtain ⟨i, hi, rfl⟩ := List.mem_map.1 hv
              have hlt : i < cs.length := by simpa using hi
              exact g1 i _ (List.getElem?_eq_getElem hlt)) b off
            refine ⟨v, d, fun w' hI' ho => ?_, r1, h⟩
            have := r2 w' (fun j u hj => by
              rw [List.getElem?_map] at hj
              cases hr : (List.range cs.length)[j]? with
              | none => rw [hr] at hj; cases hj
              | some j' =>
                rw [hr] at hj
                injection hj with hj
                have hlt : j < cs.length := by
                  have := (List.getElem?_eq_some_iff.1 hr).1
                  simpa using this
                rw [List.getElem?_range hlt] at hr
                injection hr with hr
                subst hr hj
                rw [World.cell?_of_block (a := ⟨b, off + j, none⟩) (hI' (by simp only [readsOf, hx]) b hI)]
                exact hc j _ (List.getElem?_eq_getElem hlt))
            rw [Nat.add_zero] at this
            simp only [execOp, e, Sem.run_bind, this]
            rfl
        | _ => rw [e] at h0; cases h0
      · exact h.elim
    · exact h.elim
  · rename_i src dst' x
    split at h
    · rename_i sz by_ z e0 sz' by' z' xs hs hdst hx
      split at h
      · rename_i sz2 by2 z2 he
        obtain ⟨b, rfl, hbig, hk⟩ := h
        have hv := hev x; rw [hx] at hv
        have h0 := hv.list_inv
        have k1 := kind_slice htb hs
        have k2 := kind_str htb hdst
        have k3 := kind_int htb he
        refine ⟨.string (bstr b), _, fun w' hI' ho => ?_, .str' _, hk⟩
        have hbs : Bs w' (a.eval x) b := (h0.agree (hI' rfl)).bs hbig
        have := hbs.conv (P := P) k1 k3 k2
        simp only [execOp, Sem.run_bind, this]
        rfl
      · exact h.elim
    · exact h.elim
  · exact h.elim
end
end Go.Proofs.YtbbcepmhkocgbaaGreatDoor
